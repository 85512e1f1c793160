/- How packets that came in are opened. -/
import Derived.Test.YtdjgmgppghipkaaBag
import Derived.Test.YtdjgmgppghipkaaOpen
namespace Go.Proofs.Ytdjgmgppghipkaa
open Go.RowKit Go.ChangeShapes Go.WideShapes

theorem Try.cellsP : Try.prog.cellsOf 30 = 3 := by kernel_rfl
theorem Try.cellsI : Try.prog.cellsOf 3 = 1 := by kernel_rfl
theorem Try.cellsB : Try.prog.cellsOf 28 = 1 := by kernel_rfl
theorem Try.cells8 : Try.prog.cellsOf 5 = 1 := by kernel_rfl
theorem Try.bytes8 : Try.prog.bytesOf 5 = 1 := by kernel_rfl

section
variable {H : Type} {enc : TypeId × Value → H} {w : World} {base : Nat} {spare : Nat → Bool} {held : Bool}
/-- A packet that came in: its numbers are ints, its bytes can be read, and they are no more than a slice can reach. -/
structure InP (w : World) (c0 c1 c2 : Value) (q : Pkt) : Prop where
  src : c0 = .int .i64 q.src
  dst : c1 = .int .i64 q.dst
  data : BytesV (fun _ => True) w c2 q.data
  len : q.data.length ≤ reachBytes
  sok : (Lit.int .i64 q.src).wf = true
  dok : (Lit.int .i64 q.dst).wf = true

theorem open_pkt {n : Nat} {c0 c1 c2 : Value} {x : DataW H × List MemPlace} (h : DataW.trod enc Try.prog w base spare held n 30 [c0, c1, c2] = some x) (hw : (x.1.weights Try.prog 30).all (· ≤ reachBytes) = true) :
    ∃ q : Pkt, InP w c0 c1 c2 q := by
  obtain ⟨xs, m, _, rfl, _, hlen, hf⟩ := DataW.trod_struct Try.underlying30 h
  have h0 := hf 0 _ rfl
  have h1 := hf 1 _ rfl
  have h2 := hf 2 _ rfl
  have hlen' : xs.length = 3 := hlen
  match xs, hlen' with
  | [y0, y1, y2], _ =>
    simp [Try.cellsI, Try.cellsB] at h0 h1 h2
    obtain ⟨a, e0, _, wa⟩ := DataW.trod_int Try.underlying3 h0
    obtain ⟨b, e1, _, wb⟩ := DataW.trod_int Try.underlying3 h1
    obtain ⟨l, hl, hll⟩ := open_bytes Try.underlying28 Try.underlying5 Try.cells8 Try.bytes8 h2
    simp at e0 e1
    have hw2 : (y2.1.weights Try.prog 28).all (· ≤ reachBytes) = true := by
      simp [DataW.weights, Try.underlying30, DataW.weightsEach] at hw ⊢
      exact hw.2.2
    exact ⟨⟨a, b, l⟩, e0, e1, hl, hll hw2, wa, wb⟩

/-- A packet as an argument. -/
theorem open_packet {r : Reach} {b0 : Nat} {v : Value} {d : DataW H} {p : List MemPlace} (hv : Value.okWide Try.prog w r b0 30 v) (h : DataW.Trod enc Try.prog w base spare held 30 v d p) (hw : (d.weights Try.prog 30).all (· ≤ reachBytes) = true) :
    ∃ (q : Pkt) (dv : Value), v = .agg #[.int .i64 q.src, .int .i64 q.dst, dv] ∧ BytesV (fun _ => True) w dv q.data ∧ q.data.length ≤ reachBytes := by
  simp only [Value.okWide, Try.underlying30] at hv
  obtain ⟨cs, rfl, hsz, _⟩ := hv
  obtain ⟨fuel, hf⟩ := h
  have hsz' : cs.size = 3 := hsz.trans Try.cellsP
  obtain ⟨c0, c1, c2, rfl⟩ : ∃ c0 c1 c2, cs = #[c0, c1, c2] := by
    obtain ⟨l⟩ := cs
    match l, hsz' with
    | [c0, c1, c2], _ => exact ⟨c0, c1, c2, rfl⟩
  obtain ⟨q, hq⟩ := open_pkt (x := (d, p)) (by simpa [Value.cells] using hf) hw
  obtain ⟨rfl, rfl, h2, h3, _, _⟩ := hq
  exact ⟨q, c2, rfl, h2, h3⟩

theorem weightsAll_mem {P : Program} {e : TypeId} : ∀ {l : List (DataW H)} {d : DataW H}, d ∈ l → ∀ z ∈ d.weights P e, z ∈ DataW.weightsAll P e l
  | [], _, h, _, _ => by cases h
  | y :: l, d, h, z, hz => by
    simp only [DataW.weightsAll, List.mem_append]
    rcases List.mem_cons.1 h with rfl | h
    · exact Or.inl hz
    · exact Or.inr (weightsAll_mem h z hz)

/-- Packets that came in, in a slice. -/
def PktsIn (w : World) (v : Value) (l : List Pkt) : Prop :=
  ∃ (a : Option Addr) (c : Nat), v = .slice a l.length c ∧ l.length ≤ c ∧ c ≤ maxLen ∧ (a = none → c = 0) ∧
    (0 < l.length → ∃ b o, a = some ⟨b, o, none⟩ ∧ b < w.heap.size ∧ ∀ (j : Nat) (q : Pkt), l[j]? = some q →
      ∃ dv, w.cell? ⟨b, o + j * 3, none⟩ = some (.int .i64 q.src) ∧ w.cell? ⟨b, o + j * 3 + 1, none⟩ = some (.int .i64 q.dst) ∧ w.cell? ⟨b, o + j * 3 + 2, none⟩ = some dv ∧ BytesV (fun _ => True) w dv q.data ∧ q.data.length ≤ reachBytes)

theorem open_pkts {t : TypeId} {n : Nat} {v : Value} {x : DataW H × List MemPlace} (ht : Try.prog.underlying t = some (.slice 30)) (h : DataW.trod enc Try.prog w base spare held n t [v] = some x) (hw : (x.1.weights Try.prog t).all (· ≤ reachBytes) = true) :
    ∃ l : List Pkt, PktsIn w v l ∧ l.length ≤ reachBytes := by
  rcases Deep.open_slice ht h with ⟨e0, rfl⟩ | ⟨a, len, cap, m, k, D, Pl, e0, hb, hl, hm, hmm, rfl, hx⟩
  · obtain rfl : v = .slice none 0 0 := by simpa using e0
    exact ⟨[], ⟨none, 0, rfl, by simp, by simp, fun _ => rfl, fun h => by simp at h⟩, by simp⟩
  · obtain rfl : v = .slice (some a) len cap := by simpa using e0
    have hlm : len ≤ m := by rw [hmm]; split <;> omega
    have hQ : ∀ i, i < len → ∃ z : Pkt × Value, InP w (.int .i64 z.1.src) (.int .i64 z.1.dst) z.2 z.1 ∧ w.cells? base (a.add (i * 3)) 3 = some [.int .i64 z.1.src, .int .i64 z.1.dst, z.2] := by
      intro i hi
      obtain ⟨cs, h1, h2⟩ := hx i (by omega)
      rw [Try.cellsP] at h1
      obtain ⟨_, hlen, _⟩ := World.cells?_some h1
      match cs, hlen with
      | [c0, c1, c2], _ =>
        obtain ⟨q, hq⟩ := open_pkt h2 (by
          simp [DataW.weights, ht] at hw ⊢
          intro z hz
          exact hw.2.1 z (weightsAll_mem (List.mem_map.2 ⟨i, by simpa using hi, rfl⟩) z hz))
        obtain ⟨rfl, rfl, h3, h4, h5, h6⟩ := hq
        exact ⟨(q, c2), ⟨rfl, rfl, h3, h4, h5, h6⟩, h1⟩
    haveI : Inhabited (Pkt × Value) := ⟨(⟨0, 0, []⟩, .slice none 0 0)⟩
    obtain ⟨Z, hZ⟩ := Deep.choose_lt (α := Pkt × Value) hQ
    refine ⟨(List.range len).map (fun i => (Z i).1), ⟨some a, cap, by simp, by simpa using hl, hm, fun h => (by cases h), fun hp => ?_⟩, ?_⟩
    · have hlen0 : 0 < len := by simpa using hp
      obtain ⟨_, h1⟩ := hZ 0 hlen0
      have h0 := (World.cells?_some h1).2.2 0 (by omega)
      simp [Addr.add] at h0
      have hs := spot_none h0
      obtain ⟨b, o, s⟩ := a
      obtain rfl : s = none := hs
      refine ⟨b, o, rfl, World.block_lt_of_cell? w _ h0, fun j q hq => ?_⟩
      have hj := (List.getElem?_eq_some_iff.1 hq).1
      simp at hj
      simp [hj] at hq
      subst hq
      obtain ⟨g1, g2⟩ := hZ j hj
      have hc := (World.cells?_some g2).2.2
      have c0 := hc 0 (by omega)
      have c1 := hc 1 (by omega)
      have c2 := hc 2 (by omega)
      rw [Deep.add_add, Addr.add_mid] at c0 c1 c2
      exact ⟨(Z j).2, c0, c1, c2, g1.data, g1.len⟩
    · simp [DataW.weights, ht] at hw ⊢
      have h1 := hw.1
      have hb3 : 1 ≤ Try.prog.bytesOf 30 := by decide +kernel
      have := Nat.le_mul_of_pos_right len hb3
      have h2 : len * Try.prog.bytesOf 30 ≤ (len + (m - len)) * Try.prog.bytesOf 30 := Nat.mul_le_mul_right _ (by omega)
      omega
end
end Go.Proofs.Ytdjgmgppghipkaa
