/- Things as an argument. -/
import Derived.Test.YtflacchpgcggnaaOpenArg
import Derived.Test.YtflacchpgcggnaaBulk
namespace Go.Proofs.Ytflacchpgcggnaa
open Go.RowKit Go.ChangeShapes Go.WideShapes

/-- A number, or a text. -/
structure Th where
  isText : Bool
  n : Int
  s : ByteArray

theorem Try.cellsT : Try.prog.cellsOf 37 = 3 := by kernel_rfl
theorem Try.cellsI : Try.prog.cellsOf 3 = 1 := by kernel_rfl
theorem Try.cellsS : Try.prog.cellsOf 9 = 1 := by kernel_rfl
theorem Try.cellsB1 : Try.prog.cellsOf 4 = 1 := by kernel_rfl

theorem weightsAll_mem {H : Type} {P : Program} {e : TypeId} : ∀ {l : List (DataW H)} {d : DataW H}, d ∈ l → ∀ z ∈ d.weights P e, z ∈ DataW.weightsAll P e l
  | [], _, h, _, _ => by cases h
  | y :: l, d, h, z, hz => by
    simp only [DataW.weightsAll, List.mem_append]
    rcases List.mem_cons.1 h with rfl | h
    · exact Or.inl hz
    · exact Or.inr (weightsAll_mem h z hz)

section
variable {H : Type} {enc : TypeId × Value → H} {w : World} {base : Nat} {spare : Nat → Bool} {held : Bool}
structure InT (c0 c1 c2 : Value) (x : DataW H) (t : Th) : Prop where
  b : c0 = .bool t.isText
  num : c1 = .int .i64 t.n
  str : c2 = .string t.s
  lo : -9223372036854775808 ≤ t.n ∧ t.n ≤ 9223372036854775807
  bulk : t.s.size ≤ Rows.uptoBulk x
  len : (x.weights Try.prog 37).all (· ≤ reachBytes) = true → t.s.size ≤ reachBytes

theorem open_thing {n : Nat} {c0 c1 c2 : Value} {x : DataW H × List MemPlace} (h : DataW.trod enc Try.prog w base spare held n 37 [c0, c1, c2] = some x) : ∃ t : Th, InT c0 c1 c2 x.1 t := by
  obtain ⟨xs, m, _, rfl, _, hlen, hf⟩ := DataW.trod_struct Try.underlying37 h
  have h0 := hf 0 _ rfl
  have h1 := hf 1 _ rfl
  have h2 := hf 2 _ rfl
  have hlen' : xs.length = 3 := hlen
  match xs, hlen' with
  | [y0, y1, y2], _ =>
    simp [Try.cellsI, Try.cellsS, Try.cellsB1] at h0 h1 h2
    obtain ⟨a, e0, _⟩ := DataW.trod_bool Try.underlying4 h0
    obtain ⟨b, e1, _, wb⟩ := DataW.trod_int Try.underlying3 h1
    obtain ⟨s, e2, ey, _⟩ := DataW.trod_string Try.underlying9 h2
    simp at e0 e1 e2
    subst ey
    refine ⟨⟨a, b, s⟩, e0, e1, e2, by simpa [Lit.wf, IntKind.min, IntKind.max, IntKind.signed, IntKind.bits] using wb, ?_, fun hw => ?_⟩
    · simp [Rows.uptoBulk, Rows.uptoBulkAll]; omega
    · simp [DataW.weights, Try.underlying37, DataW.weightsEach] at hw
      exact hw.2.2

/-- Things that came in. -/
def ThingsIn (w : World) (v : Value) (l : List Th) : Prop :=
  ∃ (a : Option Addr) (c : Nat), v = .slice a l.length c ∧ l.length ≤ c ∧ c ≤ maxLen ∧ (a = none → c = 0) ∧
    (0 < l.length → ∃ b o, a = some ⟨b, o, none⟩ ∧ b < w.heap.size ∧ ∀ (j : Nat) (q : Th), l[j]? = some q →
      w.cell? ⟨b, o + j * 3, none⟩ = some (.bool q.isText) ∧ w.cell? ⟨b, o + j * 3 + 1, none⟩ = some (.int .i64 q.n) ∧ w.cell? ⟨b, o + j * 3 + 2, none⟩ = some (.string q.s))
def total (l : List Th) : Nat := (l.map (fun t => t.s.size)).sum

theorem bulk_total {n : Nat} {Z : Nat → Th} {D : Nat → DataW H} (h : ∀ i, i < n → (Z i).s.size ≤ Rows.uptoBulk (D i)) : total ((List.range n).map Z) ≤ Rows.uptoBulkAll ((List.range n).map D) := by
  induction n with
  | zero => simp [total, Rows.uptoBulkAll]
  | succ n ih =>
    rw [List.range_succ, List.map_append, List.map_append]
    have h1 := ih (fun i hi => h i (by omega))
    have h2 := h n (by omega)
    have ha : ∀ (l r : List (DataW H)), Rows.uptoBulkAll (l ++ r) = Rows.uptoBulkAll l + Rows.uptoBulkAll r := by
      intro l r
      induction l with
      | nil => simp [Rows.uptoBulkAll]
      | cons x l ih => simp only [List.cons_append, Rows.uptoBulkAll, ih]; omega
    rw [ha]
    simp [total, Rows.uptoBulkAll] at h1 ⊢
    omega

theorem open_things {r : Reach} {b0 : Nat} {t : TypeId} {v : Value} {d : DataW H} {p : List MemPlace} (ht : Try.prog.underlying t = some (.slice 37)) (hv : Value.okWide Try.prog w r b0 t v) (h : DataW.Trod enc Try.prog w base spare held t v d p) :
    ∃ l : List Th, ThingsIn w v l ∧ (∀ q ∈ l, -9223372036854775808 ≤ q.n ∧ q.n ≤ 9223372036854775807) ∧ total l + l.length ≤ 2 * Rows.uptoBulk d ∧ ((d.weights Try.prog t).all (· ≤ reachBytes) = true → l.length ≤ reachBytes ∧ ∀ q ∈ l, q.s.size ≤ reachBytes) := by
  obtain ⟨fuel, hf⟩ := h
  have hc : v.cells.toList = [v] := by
    simp only [Value.okWide, ht] at hv
    cases v <;> first | rfl | (simp only [Cell.okWide, Cell.ok, ht] at hv)
  rw [hc] at hf
  rcases Deep.open_slice ht hf with ⟨e0, e1⟩ | ⟨a, len, cap, m, k, D, Pl, e0, hb, hl, hm, hmm, e1, hx⟩
  · obtain rfl : v = .slice none 0 0 := by simpa using e0
    exact ⟨[], ⟨none, 0, rfl, by simp, by simp, fun _ => rfl, fun h => by simp at h⟩, by simp, by simp [total], fun _ => by simp⟩
  · obtain rfl : v = .slice (some a) len cap := by simpa using e0
    injection e1 with e1 _
    subst e1
    have hlm : len ≤ m := by rw [hmm]; split <;> omega
    have hQ : ∀ i, i < len → ∃ z : Th, InT (.bool z.isText) (.int .i64 z.n) (.string z.s) (D i) z ∧ w.cells? base (a.add (i * 3)) 3 = some [.bool z.isText, .int .i64 z.n, .string z.s] := by
      intro i hi
      obtain ⟨cs, h1, h2⟩ := hx i (by omega)
      rw [Try.cellsT] at h1
      obtain ⟨_, hlen, _⟩ := World.cells?_some h1
      match cs, hlen with
      | [c0, c1, c2], _ =>
        obtain ⟨q, hq⟩ := open_thing h2
        obtain ⟨rfl, rfl, rfl, h3, h4, h5⟩ := hq
        exact ⟨q, ⟨rfl, rfl, rfl, h3, h4, h5⟩, h1⟩
    haveI : Inhabited Th := ⟨⟨false, 0, ⟨#[]⟩⟩⟩
    obtain ⟨Z, hZ⟩ := Deep.choose_lt (α := Th) hQ
    refine ⟨(List.range len).map Z, ⟨some a, cap, by simp, by simpa using hl, hm, fun h => (by cases h), fun hp => ?_⟩, ?_, ?_, fun hw => ?_⟩
    · have hlen0 : 0 < len := by simpa using hp
      obtain ⟨_, h1⟩ := hZ 0 hlen0
      have h0 := (World.cells?_some h1).2.2 0 (by omega)
      simp [Addr.add] at h0
      have hs := spot_none h0
      obtain ⟨b, o, s⟩ := a
      obtain rfl : s = none := hs
      refine ⟨b, o, rfl, World.block_lt_of_cell? w _ h0, fun j q hq => ?_⟩
      have hj := (List.getElem?_eq_some_iff.1 hq).1
      simp at hj
      simp [hj] at hq
      subst hq
      obtain ⟨_, g2⟩ := hZ j hj
      have hc := (World.cells?_some g2).2.2
      have c0 := hc 0 (by omega)
      have c1 := hc 1 (by omega)
      have c2 := hc 2 (by omega)
      rw [Deep.add_add, Addr.add_mid] at c0 c1 c2
      exact ⟨c0, c1, c2⟩
    · intro q hq
      obtain ⟨i, hi, rfl⟩ := List.mem_map.1 hq
      exact (hZ i (by simpa using hi)).1.lo
    · have h1 := bulk_total (n := len) (Z := Z) (D := D) (fun i hi => (hZ i hi).1.bulk)
      have h2 := bulk_length ((List.range len).map D)
      simp only [Rows.uptoBulk]
      simp at h2 ⊢
      omega
    · have hw' := hw
      simp [DataW.weights, ht] at hw
      have h1 := hw.1
      have hb3 : 1 ≤ Try.prog.bytesOf 37 := by decide +kernel
      have := Nat.le_mul_of_pos_right len hb3
      have h2 : len * Try.prog.bytesOf 37 ≤ (len + (m - len)) * Try.prog.bytesOf 37 := Nat.mul_le_mul_right _ (by omega)
      refine ⟨by simp; omega, fun q hq => ?_⟩
      obtain ⟨i, hi, rfl⟩ := List.mem_map.1 hq
      refine (hZ i (by simpa using hi)).1.len ?_
      simp [DataW.weights, ht]
      intro z hz
      exact hw.2.1 z (weightsAll_mem (List.mem_map.2 ⟨i, hi, rfl⟩) z hz)
theorem ThingsIn.at_ {v : Value} {l : List Th} (h : ThingsIn w v l) {j : Nat} {q : Th} (hq : l[j]? = some q) : ∃ b o c, v = .slice (some ⟨b, o, none⟩) l.length c ∧ l.length ≤ c ∧ c ≤ maxLen ∧ b < w.heap.size ∧
    w.cell? ⟨b, o + j * 3, none⟩ = some (.bool q.isText) ∧ w.cell? ⟨b, o + j * 3 + 1, none⟩ = some (.int .i64 q.n) ∧ w.cell? ⟨b, o + j * 3 + 2, none⟩ = some (.string q.s) := by
  obtain ⟨a, c, rfl, h2, h3, h4, h5⟩ := h
  obtain ⟨b, o, rfl, hb, hc⟩ := h5 (by have := (List.getElem?_eq_some_iff.1 hq).1; omega)
  obtain ⟨c0, c1, c2⟩ := hc j q hq
  exact ⟨b, o, c, rfl, h2, h3, hb, c0, c1, c2⟩
end
end Go.Proofs.Ytflacchpgcggnaa
