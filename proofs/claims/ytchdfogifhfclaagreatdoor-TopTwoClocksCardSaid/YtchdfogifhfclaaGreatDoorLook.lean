/- Look of a sector of zeros. -/
import Derived.Test.YtchdfogifhfclaaGreatDoorSum
import Derived.Test.YtchdfogifhfclaaGreatDoorPath
import Derived.Deep.RegionHeldLaw
import Derived.RegionCalls
import Derived.Deep.DeepCutAuto
import Derived.Deep.DeepMust
namespace Go.Proofs.YtchdfogifhfclaaGreatDoor
open Go.RowKit

def zeros (n : Nat) : List UInt8 := List.replicate n 0
theorem zeros_len (n : Nat) : (zeros n).length = n := by simp [zeros]
theorem ofFour_zeros : ofFour (zeros 4) = 0 := by decide
theorem sum_zeros : sumOf (zeros 60) = 68323592 := by decide +kernel
theorem number_any (D : Nat → Prop) (l : List UInt8) (x : Nat) (hx : ofFour l = x) (dv : Value) (w : World) (hd : BytesV D w dv l) : Calls Tryz.prog 114 #[dv] w fun e w' => e = .returned (.int .i64 (x : Int)) ∧ ∃ n, w' = w.drewN n := by
  have HD := Lib.hid hd
  have hlt := ofFour_lt l
  rw [hx] at hlt
  have HX := Lib.hid hx
  clear hd hx
  go_enter Tryz.func114, Tryz.ntmps114
  go_wp2_with fail
  refine (ofFour_any D l dv _ HD.out).mono ?_
  rintro e w1 ⟨rfl, n, rfl⟩
  rw [HX.out]
  go_wp2_with fail
  go_ret
  exact ⟨rfl, n, rfl⟩
/-- A block of zeros, read as bytes. -/
theorem zeros_bytes {w : World} {b : Nat} {cs : Array Value} {t : TypeId} {fr : Nat × Nat} (h : w.heap[b]? = some (.cells cs t fr)) (hz : ∀ j, j < 64 → cs[j]? = some (.int .u8 0)) (o n c : Nat) (ho : o + n ≤ 64) (hc : n ≤ c ∧ c ≤ 64) (h0 : 0 < n) : BytesV (fun k => k = b) w (.slice (some ⟨b, o, none⟩) n c) (zeros n) := by
  refine ⟨_, c, by rw [zeros_len], by rw [zeros_len]; omega, by unfold maxLen; omega, fun h => (by cases h), fun _ => ⟨b, o, rfl, lt_of_heap h, rfl, fun j x hx => ?_⟩⟩
  have hj : j < n := by
    have := (List.getElem?_eq_some_iff.1 hx).1
    rwa [zeros_len] at this
  have hx0 : x = 0 := by
    unfold zeros at hx
    rw [List.getElem?_replicate, if_pos hj] at hx
    injection hx with hx
    exact hx.symm
  rw [blk_cell h, hz _ (by omega), hx0]
  rfl
theorem below_drewNx {B : Nat} {w w' : World} (h : Below B w w') (n : Nat) : Below B w (w'.drewN n) := ⟨h.os, h.tape, h.output, h.size, h.block⟩
def LookBad (w : World) (e : Ending) (w' : World) : Prop := e = .returned (.tuple #[.agg #[.int .i64 0, .int .i64 0, .int .i64 0, .int .i64 0, .slice none 0 0], .int .i64 43]) ∧ Below w.heap.size w w'
set_option maxRecDepth 100000 in
set_option maxHeartbeats 1000000 in
theorem lookZero_any {w : World} {b : Nat} {cs : Array Value} {t : TypeId} {fr : Nat × Nat} (h : w.heap[b]? = some (.cells cs t fr)) (hz : ∀ j, j < 64 → cs[j]? = some (.int .u8 0)) : Calls Tryz.prog 75 #[.slice (some ⟨b, 0, none⟩) 64 64] w (LookBad w) := by
  have HH := Lib.hid h
  have HZ := Lib.hid hz
  have hb := lt_of_heap h
  have hne : b ≠ w.heap.size := by omega
  clear h hz
  go_enter Tryz.func75, Tryz.ntmps75
  go_upto_region 1 with fail
  go_region_with (first
    | (go_at_call 114; go_loud (refine (number_any (fun k => k = b) (zeros 4) 0 ofFour_zeros _ _ (zeros_bytes (by exact (Below.heap_alloc _ _ _ hb).trans HH.out) HZ.out 60 4 4 (by omega) (by omega) (by omega))).mono ?_); rintro e w1 ⟨rfl, n, rfl⟩)
    | (go_at_call 115; go_loud (refine (sum_any (fun k => k = b) (zeros 60) _ _ (zeros_bytes (by exact (Below.heap_alloc _ _ _ hb).trans HH.out) HZ.out 0 60 64 (by omega) (by omega) (by omega))).mono ?_); rintro e w1 ⟨rfl, rfl⟩; rw [sum_zeros])
    | fail)
  go_wp2_with fail
  refine bodyPost_ret (v := .tuple #[.agg #[.int .i64 0, .int .i64 0, .int .i64 0, .int .i64 0, .slice none 0 0], .int .i64 43]) (by simp [results, Tryz.results75, go_sem]) rfl ⟨rfl, ?_⟩
  iterate 5 (refine Below.setCell ?_ ?_ _; rotate_left; exact Nat.le_refl _)
  exact below_drewNx ((Below.refl _ w).alloc (Nat.le_refl _) _) _
end Go.Proofs.YtchdfogifhfclaaGreatDoor
