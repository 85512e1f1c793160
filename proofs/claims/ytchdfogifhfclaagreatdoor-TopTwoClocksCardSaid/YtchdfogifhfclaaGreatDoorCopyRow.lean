/- copy into a row of bytes whose values nobody asks for. -/
import Derived.Test.YtchdfogifhfclaaGreatDoorAppendBytes
import Derived.Test.YtchdfogifhfclaaGreatDoorSetl
import Derived.Laws.IdiomCopy
import Derived.Deep.RegionHeldLaw
namespace Go.Proofs.YtchdfogifhfclaaGreatDoor
open Go.RowKit

/-- A block of n bytes. -/
def RowB (w : World) (g n : Nat) : Prop := ∃ cs, w.heap[g]? = some (.cells cs 5 (0, 0)) ∧ cs.size = n ∧ ∀ j, j < n → ∃ x : UInt8, cs[j]? = some (B8 x)
theorem RowB.keep {w w' : World} {g n : Nat} (h : RowB w g n) (hh : w'.heap[g]? = w.heap[g]?) : RowB w' g n := by
  obtain ⟨cs, h1, h2⟩ := h
  exact ⟨cs, hh.trans h1, h2⟩
theorem RowB.lt {w : World} {g n : Nat} (h : RowB w g n) : g < w.heap.size := by
  obtain ⟨cs, h1, h2⟩ := h
  exact lt_of_heap h1
theorem RowB.set {w : World} {g n : Nat} (h : RowB w g n) (o : Nat) (l : List UInt8) (hl : o + l.length ≤ n) : RowB (w.setCells g o (l.map B8)) g n := by
  obtain ⟨cs, h1, h2, h3⟩ := h
  refine ⟨setL cs o (l.map B8), setCells_heap _ _ _ _ _ _ _ h1, by rw [setL_size]; exact h2, fun j hj => ?_⟩
  by_cases hin : o ≤ j ∧ j < o + l.length
  · obtain ⟨i, rfl⟩ : ∃ i, j = o + i := ⟨j - o, by omega⟩
    rw [setL_in _ _ _ _ (by simp; omega) (by simp; omega), List.getElem?_map, List.getElem?_eq_getElem (by omega)]
    exact ⟨_, rfl⟩
  · rw [setL_out _ _ _ _ (by simp; omega)]
    exact h3 j hj
/-- The bytes of such a block. -/
theorem RowB.bytes {w : World} {g n : Nat} (h : RowB w g n) (hn : n ≤ 1000) (o m c : Nat) (hm : o + m ≤ n) (hc : m ≤ c ∧ c ≤ 1000) : ∃ l, l.length = m ∧ BytesV (fun k => k = g) w (.slice (some ⟨g, o, none⟩) m c) l := by
  obtain ⟨cs, h1, h2, h3⟩ := h
  have hex : ∀ k, k ≤ m → ∃ l : List UInt8, l.length = k ∧ ∀ j x, l[j]? = some x → cs[o + j]? = some (B8 x) := by
    intro k
    induction k with
    | zero => exact fun _ => ⟨[], rfl, fun j x hx => by simp at hx⟩
    | succ k ih =>
      intro hk
      obtain ⟨l, e1, e2⟩ := ih (by omega)
      obtain ⟨x, hx⟩ := h3 (o + k) (by omega)
      refine ⟨l ++ [x], by simp [e1], fun j y hy => ?_⟩
      by_cases hj : j < k
      · rw [List.getElem?_append_left (by omega)] at hy
        exact e2 j y hy
      · have hj2 := (List.getElem?_eq_some_iff.1 hy).1
        simp at hj2
        have : j = k := by omega
        subst this
        rw [List.getElem?_append_right (by omega), e1, Nat.sub_self] at hy
        simp at hy
        subst hy
        exact hx
  obtain ⟨l, e1, e2⟩ := hex m (Nat.le_refl _)
  refine ⟨l, e1, _, c, by rw [e1], by omega, by unfold maxLen; omega, fun h => (by cases h), fun _ => ⟨g, o, rfl, lt_of_heap h1, rfl, fun j x hx => ?_⟩⟩
  rw [blk_cell h1]
  exact e2 j x hx
theorem copy_row {P : Program} (w : World) (t ty e : TypeId) (hu : P.underlying t = some (.slice e)) (hs : (P.info? e).map (·.size) = some 1) {g N off dLen dCap : Nat} (hr : RowB w g N) (hfit : off + dLen ≤ N) (D : Nat → Prop) (sv : Value) (l : List UInt8) (hb : BytesV D w sv l) :
    ∃ v w', (Builtin.copy_ #[t, t] ty #[.slice (some ⟨g, off, none⟩) dLen dCap, sv]).run P w = .ok v w' ∧ RowB w' g N ∧ Mod (fun x => x = g) w w' := by
  obtain ⟨a, c, rfl, h3, h4, h5, h6⟩ := hb
  by_cases h0 : Nat.min l.length dLen = 0
  · exact ⟨_, w, run_copy_none w t t ty e (some ⟨g, off, none⟩) a dLen dCap l.length c hu hs h0, hr, Mod.refl _ _⟩
  · obtain ⟨b, o, rfl, hb, hD, hc⟩ := h6 (by
      rcases Nat.eq_zero_or_pos l.length with h | h
      · rw [h] at h0; simp [Nat.min_def] at h0
      · exact h)
    have hmin : Nat.min l.length dLen ≤ dLen := Nat.min_le_right _ _
    have hmin2 : Nat.min l.length dLen ≤ l.length := Nat.min_le_left _ _
    obtain ⟨cs, e1, e2, e3⟩ := id hr
    have hlen : ((l.take (Nat.min l.length dLen)).map B8).length = Nat.min l.length dLen := by rw [List.length_map, List.length_take, Nat.min_eq_left hmin2]
    have := run_copy_cells (P := P) w t t ty e g off dLen dCap ⟨b, o, none⟩ l.length c ((l.take (Nat.min l.length dLen)).map B8) hu hs hlen
      (fun j v hv => by
        rw [List.getElem?_map] at hv
        obtain ⟨x, hx, rfl⟩ := Option.map_eq_some_iff.1 hv
        have hx2 : l[j]? = some x := by
          rw [List.getElem?_take] at hx
          split at hx
          · exact hx
          · cases hx
        rw [Addr.add_mid]
        exact hc j x hx2)
      (fun j hj => by
        rw [hlen] at hj
        obtain ⟨x, hx⟩ := e3 (off + j) (by omega)
        rw [blk_cell e1, hx]; rfl)
      (fun j hj => blk_free e1 _) (B8_one _)
    refine ⟨_, _, this, hr.set off _ (by rw [List.length_take, Nat.min_eq_left hmin2]; omega), (Mod.refl (fun x => x = g) w).setCells (fun _ => rfl) _ _⟩
theorem wpList_copy_row {P : Program} {w : World} {ops : Array Oper} {rest : List Oper} {o : Oper} {a : Act} {Q : Exit → Act → World → Prop} (hgd : o.guard = none) (d s : Operand) (t : TypeId)
    (ho : o.op = .call { callee := .builtin .copy, args := #[d, s], argTypes := #[t, t] }) (e : TypeId) (hu : P.underlying t = some (.slice e)) (hs : (P.info? e).map (·.size) = some 1) {g N off dLen dCap : Nat} (hd : a.eval d = .slice (some ⟨g, off, none⟩) dLen dCap) (hr : RowB w g N) (hfit : off + dLen ≤ N) (D : Nat → Prop) (sv : Value) (l : List UInt8) (hx : a.eval s = sv) (hb : BytesV D w sv l)
    (h : ∀ v w', RowB w' g N → Mod (fun x => x = g) w w' → wpList P ops Q rest (a.put o.dst v) w') : wpList P ops Q (o :: rest) a w := by
  obtain ⟨v, w', hrun, a1, a2⟩ := copy_row (P := P) w t o.type e hu hs (dCap := dCap) hr hfit D sv l hb
  refine wpList_plain hgd fun K hK => ?_
  unfold Oper.wp execOp
  simp only [ho, resolve, invoke, builtin, Sem.run_bind, Sem.run_pure, Result.andThen_ok, List.map_toArray, List.map_cons, List.map_nil, hd, hx, hrun]
  exact hK _ _ (h v w' a1 a2)
theorem step_copy_row {P : Program} {w : World} {ops : Array Oper} {o : Oper} {a : Act} {K : Act → World → Prop} {Q : Exit → Act → World → Prop} {E : Prop} (hgd : o.guard = none) (d s : Operand) (t : TypeId)
    (ho : o.op = .call { callee := .builtin .copy, args := #[d, s], argTypes := #[t, t] }) (e : TypeId) (hu : P.underlying t = some (.slice e)) (hs : (P.info? e).map (·.size) = some 1) {g N off dLen dCap : Nat} (hd : a.eval d = .slice (some ⟨g, off, none⟩) dLen dCap) (hr : RowB w g N) (hfit : off + dLen ≤ N) (D : Nat → Prop) (sv : Value) (l : List UInt8) (hx : a.eval s = sv) (hb : BytesV D w sv l)
    (h : ∀ v w', RowB w' g N → Mod (fun x => x = g) w w' → K (a.put o.dst v) w') : if Region.wanted o (yielded ops a.tmps) = true then Oper.wp P o a w K Q else E := by
  have hw : Region.wanted o (yielded ops a.tmps) = true := by simp [Region.wanted, hgd]
  rw [if_pos hw]
  obtain ⟨v, w', hrun, a1, a2⟩ := copy_row (P := P) w t o.type e hu hs (dCap := dCap) hr hfit D sv l hb
  unfold Oper.wp execOp
  simp only [ho, resolve, invoke, builtin, Sem.run_bind, Sem.run_pure, Result.andThen_ok, List.map_toArray, List.map_cons, List.map_nil, hd, hx, hrun]
  exact h v w' a1 a2
end Go.Proofs.YtchdfogifhfclaaGreatDoor

