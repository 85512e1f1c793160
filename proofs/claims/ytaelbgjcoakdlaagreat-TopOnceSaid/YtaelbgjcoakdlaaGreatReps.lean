/- replies.New. -/
import Derived.Test.YtaelbgjcoakdlaaGreatKeep
namespace Go.Proofs.YtaelbgjcoakdlaaGreat
open Go.RowKit Go.Maps

theorem zero1104_size : Tryz.zeroCells68.size = 1104 := by kernel_rfl
theorem zero1104_boot : Tryz.zeroCells68[138]? = some (.int .i64 0) := by kernel_rfl
theorem zero1104_low : Tryz.zeroCells68[139]? = some (.int .i64 0) := by kernel_rfl
theorem zero1104_slots : (Tryz.zeroCells68.toList.drop 140).take 136 = (List.replicate 8 (slotCells 0 Sl.zero)).flatten := by kernel_rfl
theorem take_drop_at (l : List Value) (n m i : Nat) (h : i < m) : l[n + i]? = ((l.drop n).take m)[i]? := by
  rw [List.getElem?_take, if_pos h, List.getElem?_drop]
/-- The memory's first state. -/
def Rep.first (low : Nat) : Rep := ⟨0, low, fun _ => Sl.zero⟩
theorem RepAt.zero {w : World} : RepAt (w.alloc (.cells Tryz.zeroCells68 68)) w.heap.size (Rep.first 0) := by
  refine ⟨⟨Tryz.zeroCells68, heap_at w _ _ rfl, zero1104_size, zero1104_boot, zero1104_low, fun k hk i hi => ?_⟩⟩
  have h := zero1104_slots
  have hl := rep_at 8 (slotCells 0 Sl.zero) rfl k hk i hi
  rw [← Array.getElem?_toList]
  generalize Tryz.zeroCells68.toList = Z at h ⊢
  rw [Nat.add_assoc, take_drop_at Z 140 136 (k * 17 + i) (by omega), h]
  exact hl
/-- A cell outside. -/
theorem RepAt.setOut {w : World} {p : Nat} {r : Rep} (h : RepAt w p r) (o : Nat) (v : Value) (ho : o < 138 ∨ 276 ≤ o) : RepAt (w.setCell ⟨p, o, none⟩ v) p r := by
  refine h.set (cs' := fun cs => cs.setIfInBounds o v) (fun cs hc => blk_set hc o v) (fun cs h1 h2 h3 h4 => ⟨by simp [h1], ?_, ?_, fun j hj i hi => ?_⟩)
  · rw [Array.getElem?_setIfInBounds, if_neg (by omega)]; exact h2
  · rw [Array.getElem?_setIfInBounds, if_neg (by omega)]; exact h3
  · rw [Array.getElem?_setIfInBounds, if_neg (by omega)]; exact h4 j hj i hi
theorem RepAt.setLow {w : World} {p : Nat} {r : Rep} (h : RepAt w p r) (low : Nat) : RepAt (w.setCell ⟨p, 139, none⟩ (.int .i64 (low : Int))) p { r with low := low } := by
  refine h.set (cs' := fun cs => cs.setIfInBounds 139 (.int .i64 (low : Int))) (fun cs hc => blk_set hc 139 _) (fun cs h1 h2 h3 h4 => ⟨by simp [h1], ?_, ?_, fun j hj i hi => ?_⟩)
  · rw [Array.getElem?_setIfInBounds, if_neg (by omega)]; exact h2
  · rw [Array.getElem?_setIfInBounds, if_pos rfl, if_pos (by omega)]
  · rw [Array.getElem?_setIfInBounds, if_neg (by omega)]; exact h4 j hj i hi
theorem RepAt.firsts {w : World} {p j : Nat} (h : RepAt w p (Rep.first (if j ≤ 1 then 0 else 1))) (hj : j < 8) : RepAt (w.setCell ⟨p, j * 138 + 1, none⟩ (.int .i64 1)) p (Rep.first (if j + 1 ≤ 1 then 0 else 1)) := by
  by_cases e : j = 1
  · subst e
    exact h.setLow 1
  · have := h.setOut (j * 138 + 1) (.int .i64 1) (by omega)
    have e2 : (if j + 1 ≤ 1 then 0 else 1) = (if j ≤ 1 then 0 else 1 : Nat) := by split <;> split <;> omega
    rw [e2]
    exact this
/-- New's outcome. -/
def RepsPost (w : World) (e : Ending) (w' : World) : Prop := e = .returned (.pointer (some ⟨w.heap.size, 0, none⟩)) ∧ RepAt w' w.heap.size (Rep.first 1) ∧ Below w.heap.size w w'
set_option maxRecDepth 100000 in
set_option maxHeartbeats 1000000 in
theorem reps_any (w : World) : Calls Tryz.prog 5 #[] w (RepsPost w) := by
  have H0 := Lib.hid (@RepAt.zero w)
  have HM0 := Lib.hid (((Mod.refl (fun _ => False) w).alloc (.cells Tryz.zeroCells68 68)))
  go_enter Tryz.func5, Tryz.ntmps5
  go_wp2_with fail
  go_loopw [5] (fun i wt => ∃ j : Nat, j ≤ 8 ∧ i = .int .i64 j ∧ RepAt wt w.heap.size (Rep.first (if j ≤ 1 then 0 else 1)) ∧ Mod (fun _ => False) w wt) (fun i _ => 8 - (intOf i).toNat)
  case atStart => exact ⟨0, by omega, rfl, H0.out.keep rfl, HM0.out⟩
  case round =>
    obtain ⟨j, hj, rfl, hS, hM⟩ := hrel
    have HS := Lib.hid hS
    have HM := Lib.hid hM
    by_cases hlt : j < 8
    · obtain ⟨v1, g1⟩ : ∃ v1, wr.cell? ⟨w.heap.size, j * 138 + 1, none⟩ = some v1 := by
        obtain ⟨cs, h1, h2, _⟩ := hS.h
        exact ⟨_, (blk_cell h1 _).trans (Array.getElem?_eq_getElem (by omega))⟩
      have gf := hS.free (j * 138 + 1)
      have k0 : (0 : Int) ≤ (j : Int) := by omega
      have k1 : (j : Int) < 8 := by omega
      clear hS hM
      go_wp2_with fail
      refine ⟨⟨j + 1, by omega, by push_cast; rfl, ?_⟩, by simp only [intOf]; omega⟩
      exact ⟨HS.out.firsts hlt, HM.out.setCell (fun h => absurd h (by show ¬ w.heap.size < w.heap.size; omega)) _⟩
    · obtain rfl : j = 8 := by omega
      clear hS hM
      go_wp2_with fail
      go_ret
      exact ⟨rfl, HS.out, HM.out.toBelow (Nat.le_refl _) (fun _ h => h.elim)⟩
end Go.Proofs.YtaelbgjcoakdlaaGreat
