/- How moves that came in are opened. -/
import Derived.Test.YtlcjkfikfnfneaaInts
import Derived.Test.YtlcjkfikfnfneaaTermr
import Derived.Test.YtlcjkfikfnfneaaOpen
namespace Go.Proofs.Ytlcjkfikfnfneaa
open Go.RowKit Go.ChangeShapes Go.WideShapes

/-- One tick. -/
structure Mv where
  d : Int
  dl : List Int
theorem Try.cellsM : Try.prog.cellsOf 37 = 2 := by kernel_rfl
theorem Try.cellsI : Try.prog.cellsOf 3 = 1 := by kernel_rfl
theorem Try.cellsS : Try.prog.cellsOf 27 = 1 := by kernel_rfl
theorem Try.bytesI : Try.prog.bytesOf 3 = 8 := by kernel_rfl
theorem i64_wf {x : Int} (h : (Lit.int .i64 x).wf = true) : I64 x := by
  simpa [I64, Lit.wf, IntKind.min, IntKind.max, IntKind.signed, IntKind.bits] using h

section
variable {H : Type} {enc : TypeId × Value → H} {w : World} {base : Nat} {spare : Nat → Bool} {held : Bool}
theorem open_ints {t e : TypeId} {n : Nat} {v : Value} {x : DataW H × List MemPlace} (ht : Try.prog.underlying t = some (.slice e)) (he : Try.prog.underlying e = some (.int .i64)) (hc : Try.prog.cellsOf e = 1) (hby : Try.prog.bytesOf e = 8)
    (h : DataW.trod enc Try.prog w base spare held n t [v] = some x) : ∃ l : List Int, IntsV (fun _ => True) w v l ∧ (∀ (j : Nat) (x : Int), l[j]? = some x → I64 x) ∧ ((x.1.weights Try.prog t).all (· ≤ reachBytes) = true → l.length * 8 ≤ reachBytes) := by
  rcases Deep.open_slice1 ht hc h with ⟨e0, rfl⟩ | ⟨a, len, cap, m, k, V, D, Pl, e0, hb, hl, hm, hmm, rfl, hx⟩
  · obtain rfl : v = .slice none 0 0 := by simpa using e0
    exact ⟨[], IntsV.nil _ _, fun j x hx => by simp at hx, fun _ => by simp⟩
  · obtain rfl : v = .slice (some a) len cap := by simpa using e0
    have hlm : len ≤ m := by rw [hmm]; split <;> omega
    have hV : ∀ i, i < len → ∃ c : Int, V i = .int .i64 c ∧ I64 c := by
      intro i hi
      obtain ⟨z, e1, _, wf⟩ := DataW.trod_int he (hx i (by omega)).2
      simp at e1
      exact ⟨z, e1, i64_wf wf⟩
    obtain ⟨C, hC⟩ := Deep.choose_lt hV
    refine ⟨(List.range len).map C, ⟨some a, cap, by simp, by simpa using hl, hm, fun h => (by cases h), fun hp => ?_⟩, fun j y hy => ?_, fun hw => ?_⟩
    · have hlen0 : 0 < len := by simpa using hp
      have h0 := (hx 0 (by omega)).1
      have hs := spot_none h0
      obtain ⟨b, o, s⟩ := a
      obtain rfl : s = none := by simpa [Addr.add] using hs
      refine ⟨b, o, rfl, ?_, trivial, fun j y hy => ?_⟩
      · exact World.block_lt_of_cell? w _ h0
      · have hj := (List.getElem?_eq_some_iff.1 hy).1
        simp at hj
        have := (hx j (by omega)).1
        rw [Addr.add_mid] at this
        rw [this, (hC j hj).1]
        simp [hj] at hy
        rw [hy]
    · have hj := (List.getElem?_eq_some_iff.1 hy).1
      simp at hj
      simp [hj] at hy
      rw [← hy]
      exact (hC j hj).2
    · simp [DataW.weights, ht, hby] at hw ⊢
      have := hw.1
      omega

/-- A move that came in. -/
structure InM (w : World) (c0 c1 : Value) (q : Mv) : Prop where
  d : c0 = .int .i64 q.d
  dl : IntsV (fun _ => True) w c1 q.dl
  dok : I64 q.d
  lok : ∀ (j : Nat) (x : Int), q.dl[j]? = some x → I64 x
  len : q.dl.length * 8 ≤ reachBytes
theorem open_mv {n : Nat} {c0 c1 : Value} {x : DataW H × List MemPlace} (h : DataW.trod enc Try.prog w base spare held n 37 [c0, c1] = some x) (hw : (x.1.weights Try.prog 37).all (· ≤ reachBytes) = true) :
    ∃ q : Mv, InM w c0 c1 q := by
  obtain ⟨xs, m, _, rfl, _, hlen, hf⟩ := DataW.trod_struct Try.underlying37 h
  have h0 := hf 0 _ rfl
  have h1 := hf 1 _ rfl
  have hlen' : xs.length = 2 := hlen
  match xs, hlen' with
  | [y0, y1], _ =>
    simp [Try.cellsI, Try.cellsS] at h0 h1
    obtain ⟨a, e0, _, wa⟩ := DataW.trod_int Try.underlying3 h0
    obtain ⟨l, hl, hli, hll⟩ := open_ints Try.underlying27 Try.underlying3 Try.cellsI Try.bytesI h1
    simp at e0
    have hw2 : (y1.1.weights Try.prog 27).all (· ≤ reachBytes) = true := by
      simp [DataW.weights, Try.underlying37, DataW.weightsEach] at hw ⊢
      exact hw.2
    exact ⟨⟨a, l⟩, e0, hl, i64_wf wa, hli, hll hw2⟩
/-- A move as an argument. -/
theorem open_move {r : Reach} {b0 : Nat} {v : Value} {d : DataW H} {p : List MemPlace} (hv : Value.okWide Try.prog w r b0 37 v) (h : DataW.Trod enc Try.prog w base spare held 37 v d p) (hw : (d.weights Try.prog 37).all (· ≤ reachBytes) = true) :
    ∃ (q : Mv) (dv : Value), v = .agg #[.int .i64 q.d, dv] ∧ InM w (.int .i64 q.d) dv q := by
  simp only [Value.okWide, Try.underlying37] at hv
  obtain ⟨cs, rfl, hsz, _⟩ := hv
  obtain ⟨fuel, hf⟩ := h
  have hsz' : cs.size = 2 := hsz.trans Try.cellsM
  obtain ⟨c0, c1, rfl⟩ : ∃ c0 c1, cs = #[c0, c1] := by
    obtain ⟨l⟩ := cs
    match l, hsz' with
    | [c0, c1], _ => exact ⟨c0, c1, rfl⟩
  obtain ⟨q, hq⟩ := open_mv (x := (d, p)) (by simpa [Value.cells] using hf) hw
  obtain ⟨rfl, h2, h3, h4, h5⟩ := hq
  exact ⟨q, c1, rfl, rfl, h2, h3, h4, h5⟩
theorem weightsAll_mem {P : Program} {e : TypeId} : ∀ {l : List (DataW H)} {d : DataW H}, d ∈ l → ∀ z ∈ d.weights P e, z ∈ DataW.weightsAll P e l
  | [], _, h, _, _ => by cases h
  | y :: l, d, h, z, hz => by
    simp only [DataW.weightsAll, List.mem_append]
    rcases List.mem_cons.1 h with rfl | h
    · exact Or.inl hz
    · exact Or.inr (weightsAll_mem h z hz)
/-- Moves that came in, in a slice. -/
def MovesIn (w : World) (v : Value) (l : List Mv) : Prop :=
  ∃ (a : Option Addr) (c : Nat), v = .slice a l.length c ∧ l.length ≤ c ∧ c ≤ maxLen ∧ (a = none → c = 0) ∧
    (0 < l.length → ∃ b o, a = some ⟨b, o, none⟩ ∧ b < w.heap.size ∧ ∀ (j : Nat) (q : Mv), l[j]? = some q →
      ∃ dv, w.cell? ⟨b, o + j * 2, none⟩ = some (.int .i64 q.d) ∧ w.cell? ⟨b, o + j * 2 + 1, none⟩ = some dv ∧ InM w (.int .i64 q.d) dv q)
theorem open_moves {r : Reach} {b0 : Nat} {t : TypeId} {v : Value} {d : DataW H} {p : List MemPlace} (ht : Try.prog.underlying t = some (.slice 37)) (hv : Value.okWide Try.prog w r b0 t v) (h : DataW.Trod enc Try.prog w base spare held t v d p) (hw : (d.weights Try.prog t).all (· ≤ reachBytes) = true) :
    ∃ l : List Mv, MovesIn w v l ∧ l.length ≤ reachBytes := by
  obtain ⟨fuel, hf⟩ := h
  have hc : v.cells.toList = [v] := by
    simp only [Value.okWide, ht] at hv
    cases v <;> first | rfl | (simp only [Cell.okWide, Cell.ok, ht] at hv)
  rw [hc] at hf
  rcases Deep.open_slice ht hf with ⟨e0, e1⟩ | ⟨a, len, cap, m, k, D, Pl, e0, hb, hl, hm, hmm, e1, hx⟩
  · obtain rfl : v = .slice none 0 0 := by simpa using e0
    exact ⟨[], ⟨none, 0, rfl, by simp, by simp, fun _ => rfl, fun h => by simp at h⟩, by simp⟩
  · obtain rfl : v = .slice (some a) len cap := by simpa using e0
    injection e1 with e1 _
    subst e1
    have hlm : len ≤ m := by rw [hmm]; split <;> omega
    have hQ : ∀ i, i < len → ∃ z : Mv × Value, InM w (.int .i64 z.1.d) z.2 z.1 ∧ w.cells? base (a.add (i * 2)) 2 = some [.int .i64 z.1.d, z.2] := by
      intro i hi
      obtain ⟨cs, h1, h2⟩ := hx i (by omega)
      rw [Try.cellsM] at h1
      obtain ⟨_, hlen, _⟩ := World.cells?_some h1
      match cs, hlen with
      | [c0, c1], _ =>
        obtain ⟨q, hq⟩ := open_mv h2 (by
          simp [DataW.weights, ht] at hw ⊢
          intro z hz
          exact hw.2.1 z (weightsAll_mem (List.mem_map.2 ⟨i, by simpa using hi, rfl⟩) z hz))
        obtain ⟨rfl, h3, h4, h5, h6⟩ := hq
        exact ⟨(q, c1), ⟨rfl, h3, h4, h5, h6⟩, h1⟩
    haveI : Inhabited (Mv × Value) := ⟨(⟨0, []⟩, .slice none 0 0)⟩
    obtain ⟨Z, hZ⟩ := Deep.choose_lt (α := Mv × Value) hQ
    refine ⟨(List.range len).map (fun i => (Z i).1), ⟨some a, cap, by simp, by simpa using hl, hm, fun h => (by cases h), fun hp => ?_⟩, ?_⟩
    · have hlen0 : 0 < len := by simpa using hp
      obtain ⟨_, h1⟩ := hZ 0 hlen0
      have h0 := (World.cells?_some h1).2.2 0 (by omega)
      simp [Addr.add] at h0
      have hs := spot_none h0
      obtain ⟨b, o, s⟩ := a
      obtain rfl : s = none := hs
      refine ⟨b, o, rfl, World.block_lt_of_cell? w _ h0, fun j q hq => ?_⟩
      have hj := (List.getElem?_eq_some_iff.1 hq).1
      simp at hj
      simp [hj] at hq
      subst hq
      obtain ⟨g1, g2⟩ := hZ j hj
      have hc := (World.cells?_some g2).2.2
      have c0 := hc 0 (by omega)
      have c1 := hc 1 (by omega)
      rw [Deep.add_add, Addr.add_mid] at c0 c1
      exact ⟨(Z j).2, c0, c1, g1⟩
    · simp [DataW.weights, ht] at hw ⊢
      have h1 := hw.1
      have hb3 : 1 ≤ Try.prog.bytesOf 37 := by decide +kernel
      have := Nat.le_mul_of_pos_right len hb3
      have h2 : len * Try.prog.bytesOf 37 ≤ (len + (m - len)) * Try.prog.bytesOf 37 := Nat.mul_le_mul_right _ (by omega)
      omega
theorem MovesIn.at_ {v : Value} {l : List Mv} (h : MovesIn w v l) {j : Nat} {q : Mv} (hq : l[j]? = some q) : ∃ b o c dv, v = .slice (some ⟨b, o, none⟩) l.length c ∧ l.length ≤ c ∧ c ≤ maxLen ∧ b < w.heap.size ∧
    w.cell? ⟨b, o + j * 2, none⟩ = some (.int .i64 q.d) ∧ w.cell? ⟨b, o + j * 2 + 1, none⟩ = some dv ∧ InM w (.int .i64 q.d) dv q := by
  obtain ⟨a, c, rfl, h2, h3, h4, h5⟩ := h
  obtain ⟨b, o, rfl, hb, hc⟩ := h5 (by have := (List.getElem?_eq_some_iff.1 hq).1; omega)
  obtain ⟨dv, c0, c1, hm⟩ := hc j q hq
  exact ⟨b, o, c, dv, rfl, h2, h3, hb, c0, c1, hm⟩
end
end Go.Proofs.Ytlcjkfikfnfneaa
