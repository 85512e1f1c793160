/- Scripts (slices of Op) as an argument. -/
import Derived.Test.YtdjgmgppghipkaaOpenArg
namespace Go.Proofs.Ytdjgmgppghipkaa
open Go.RowKit Go.ChangeShapes Go.WideShapes

/-- One call of a script. -/
structure Opn where
  kind : Int
  k : Int
  p : Pkt

section
variable {H : Type} {enc : TypeId × Value → H} {w : World} {base : Nat} {spare : Nat → Bool} {held : Bool}
structure InO (w : World) (c0 c1 c2 c3 c4 : Value) (o : Opn) : Prop where
  kind : c0 = .int .i64 o.kind
  num : c1 = .int .i64 o.k
  pkt : InP w c2 c3 c4 o.p

theorem Try.cellsO : Try.prog.cellsOf 32 = 5 := by kernel_rfl

theorem open_opn {n : Nat} {c0 c1 c2 c3 c4 : Value} {x : DataW H × List MemPlace} (h : DataW.trod enc Try.prog w base spare held n 32 [c0, c1, c2, c3, c4] = some x) (hw : (x.1.weights Try.prog 32).all (· ≤ reachBytes) = true) :
    ∃ o : Opn, InO w c0 c1 c2 c3 c4 o := by
  obtain ⟨xs, m, _, rfl, _, hlen, hf⟩ := DataW.trod_struct Try.underlying32 h
  have h0 := hf 0 _ rfl
  have h1 := hf 1 _ rfl
  have h2 := hf 2 _ rfl
  have hlen' : xs.length = 3 := hlen
  match xs, hlen' with
  | [y0, y1, y2], _ =>
    simp [Try.cellsI, Try.cellsP] at h0 h1 h2
    obtain ⟨a, e0, _, wa⟩ := DataW.trod_int Try.underlying3 h0
    obtain ⟨b, e1, _, wb⟩ := DataW.trod_int Try.underlying3 h1
    simp at e0 e1
    have hw2 : (y2.1.weights Try.prog 30).all (· ≤ reachBytes) = true := by
      simp [DataW.weights, Try.underlying32, DataW.weightsEach] at hw ⊢
      exact hw.2.2
    obtain ⟨q, hq⟩ := open_pkt h2 hw2
    exact ⟨⟨a, b, q⟩, e0, e1, hq⟩

/-- A script that came in. -/
def OpsIn (w : World) (v : Value) (l : List Opn) : Prop :=
  ∃ (a : Option Addr) (c : Nat), v = .slice a l.length c ∧ l.length ≤ c ∧ c ≤ maxLen ∧ (a = none → c = 0) ∧
    (0 < l.length → ∃ b o, a = some ⟨b, o, none⟩ ∧ b < w.heap.size ∧ ∀ (j : Nat) (q : Opn), l[j]? = some q →
      ∃ dv, w.cell? ⟨b, o + j * 5, none⟩ = some (.int .i64 q.kind) ∧ w.cell? ⟨b, o + j * 5 + 1, none⟩ = some (.int .i64 q.k) ∧ w.cell? ⟨b, o + j * 5 + 2, none⟩ = some (.int .i64 q.p.src) ∧ w.cell? ⟨b, o + j * 5 + 3, none⟩ = some (.int .i64 q.p.dst) ∧ w.cell? ⟨b, o + j * 5 + 4, none⟩ = some dv ∧ BytesV (fun _ => True) w dv q.p.data ∧ q.p.data.length ≤ reachBytes)

theorem open_ops {t : TypeId} {n : Nat} {v : Value} {x : DataW H × List MemPlace} (ht : Try.prog.underlying t = some (.slice 32)) (h : DataW.trod enc Try.prog w base spare held n t [v] = some x) (hw : (x.1.weights Try.prog t).all (· ≤ reachBytes) = true) :
    ∃ l : List Opn, OpsIn w v l ∧ l.length ≤ reachBytes := by
  rcases Deep.open_slice ht h with ⟨e0, rfl⟩ | ⟨a, len, cap, m, k, D, Pl, e0, hb, hl, hm, hmm, rfl, hx⟩
  · obtain rfl : v = .slice none 0 0 := by simpa using e0
    exact ⟨[], ⟨none, 0, rfl, by simp, by simp, fun _ => rfl, fun h => by simp at h⟩, by simp⟩
  · obtain rfl : v = .slice (some a) len cap := by simpa using e0
    have hlm : len ≤ m := by rw [hmm]; split <;> omega
    have hQ : ∀ i, i < len → ∃ z : Opn × Value, InO w (.int .i64 z.1.kind) (.int .i64 z.1.k) (.int .i64 z.1.p.src) (.int .i64 z.1.p.dst) z.2 z.1 ∧ w.cells? base (a.add (i * 5)) 5 = some [.int .i64 z.1.kind, .int .i64 z.1.k, .int .i64 z.1.p.src, .int .i64 z.1.p.dst, z.2] := by
      intro i hi
      obtain ⟨cs, h1, h2⟩ := hx i (by omega)
      rw [Try.cellsO] at h1
      obtain ⟨_, hlen, _⟩ := World.cells?_some h1
      match cs, hlen with
      | [c0, c1, c2, c3, c4], _ =>
        obtain ⟨q, hq⟩ := open_opn h2 (by
          simp [DataW.weights, ht] at hw ⊢
          intro z hz
          exact hw.2.1 z (weightsAll_mem (List.mem_map.2 ⟨i, by simpa using hi, rfl⟩) z hz))
        obtain ⟨rfl, rfl, ⟨rfl, rfl, h3, h4, h5, h6⟩⟩ := hq
        exact ⟨(q, c4), ⟨rfl, rfl, ⟨rfl, rfl, h3, h4, h5, h6⟩⟩, h1⟩
    haveI : Inhabited (Opn × Value) := ⟨(⟨0, 0, ⟨0, 0, []⟩⟩, .slice none 0 0)⟩
    obtain ⟨Z, hZ⟩ := Deep.choose_lt (α := Opn × Value) hQ
    refine ⟨(List.range len).map (fun i => (Z i).1), ⟨some a, cap, by simp, by simpa using hl, hm, fun h => (by cases h), fun hp => ?_⟩, ?_⟩
    · have hlen0 : 0 < len := by simpa using hp
      obtain ⟨_, h1⟩ := hZ 0 hlen0
      have h0 := (World.cells?_some h1).2.2 0 (by omega)
      simp [Addr.add] at h0
      have hs := spot_none h0
      obtain ⟨b, o, s⟩ := a
      obtain rfl : s = none := hs
      refine ⟨b, o, rfl, World.block_lt_of_cell? w _ h0, fun j q hq => ?_⟩
      have hj := (List.getElem?_eq_some_iff.1 hq).1
      simp at hj
      simp [hj] at hq
      subst hq
      obtain ⟨g1, g2⟩ := hZ j hj
      have hc := (World.cells?_some g2).2.2
      have c0 := hc 0 (by omega)
      have c1 := hc 1 (by omega)
      have c2 := hc 2 (by omega)
      have c3 := hc 3 (by omega)
      have c4 := hc 4 (by omega)
      rw [Deep.add_add, Addr.add_mid] at c0 c1 c2 c3 c4
      exact ⟨(Z j).2, c0, c1, c2, c3, c4, g1.pkt.data, g1.pkt.len⟩
    · simp [DataW.weights, ht] at hw ⊢
      have h1 := hw.1
      have hb3 : 1 ≤ Try.prog.bytesOf 32 := by decide +kernel
      have := Nat.le_mul_of_pos_right len hb3
      have h2 : len * Try.prog.bytesOf 32 ≤ (len + (m - len)) * Try.prog.bytesOf 32 := Nat.mul_le_mul_right _ (by omega)
      omega

theorem open_script {r : Reach} {b0 : Nat} {t : TypeId} {v : Value} {d : DataW H} {p : List MemPlace} (ht : Try.prog.underlying t = some (.slice 32)) (hv : Value.okWide Try.prog w r b0 t v) (h : DataW.Trod enc Try.prog w base spare held t v d p) (hw : (d.weights Try.prog t).all (· ≤ reachBytes) = true) :
    ∃ l : List Opn, OpsIn w v l ∧ l.length ≤ reachBytes := by
  obtain ⟨fuel, hf⟩ := h
  have hc : v.cells.toList = [v] := by
    simp only [Value.okWide, ht] at hv
    cases v <;> first | rfl | (simp only [Cell.okWide, Cell.ok, ht] at hv)
  rw [hc] at hf
  exact open_ops ht hf hw

/-- One call of a script that came in. -/
theorem OpsIn.at_ {v : Value} {l : List Opn} (h : OpsIn w v l) {j : Nat} {q : Opn} (hq : l[j]? = some q) : ∃ b o c dv, v = .slice (some ⟨b, o, none⟩) l.length c ∧ l.length ≤ c ∧ c ≤ maxLen ∧ b < w.heap.size ∧
    w.cell? ⟨b, o + j * 5, none⟩ = some (.int .i64 q.kind) ∧ w.cell? ⟨b, o + j * 5 + 1, none⟩ = some (.int .i64 q.k) ∧ w.cell? ⟨b, o + j * 5 + 2, none⟩ = some (.int .i64 q.p.src) ∧ w.cell? ⟨b, o + j * 5 + 3, none⟩ = some (.int .i64 q.p.dst) ∧ w.cell? ⟨b, o + j * 5 + 4, none⟩ = some dv ∧ BytesV (fun _ => True) w dv q.p.data ∧ q.p.data.length ≤ reachBytes := by
  obtain ⟨a, c, rfl, h2, h3, h4, h5⟩ := h
  obtain ⟨b, o, rfl, hb, hc⟩ := h5 (by have := (List.getElem?_eq_some_iff.1 hq).1; omega)
  obtain ⟨dv, c0, c1, c2, c3, c4, hd, hl⟩ := hc j q hq
  exact ⟨b, o, c, dv, rfl, h2, h3, hb, c0, c1, c2, c3, c4, hd, hl⟩
end
end Go.Proofs.Ytdjgmgppghipkaa
