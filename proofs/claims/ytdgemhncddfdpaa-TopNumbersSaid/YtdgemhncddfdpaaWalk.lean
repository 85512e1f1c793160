/- THE WALK of TopNumbers: the four tables are equal two by two, so it returns true; of the old memory nothing turns. -/
import Derived.Test.YtdgemhncddfdpaaRows
import Derived.WalkKit
import Derived.WalkSpells
import Derived.Outline
import Derived.BigQuiet
import Derived.Lib.Hide
namespace Go.Proofs.Ytdgemhncddfdpaa
open Go.RowKit

def lims : List Int := [4, 6, 999, 4, 1048576, 1152921504606846976, 4611686018427387904, 2, 4, 1099511627776, 64, 8, 4, 48, 200, 64, 512, 47, 4, 1073741824, 24, 6, 32, 4, 8, 8, 8, 8, 200, 65536]
def codes : List Int := [0, 1, 2, 10, 11, 12, 13, 14, 20, 21, 22, 30, 40, 41, 42, 43, 50, 51, 52, 60, 61, 62, 63, 64, 65, 66, 67, 68, 70, 71, 72, 80, 81]
def cellsOf (l : List Int) : Array Value := (l.map (Value.int .i64)).toArray

theorem cellsOf_get (l : List Int) (j : Nat) (h : j < l.length) : (cellsOf l)[j]? = some (.int .i64 (l.getD j 0)) := by
  simp [cellsOf, h]

/-- The four tables lie in the blocks from B on; below B all is as it was. -/
structure Tabs (w wr : World) : Prop where
  c0 : ∀ j, j < 30 → wr.cell? ⟨w.heap.size, j, none⟩ = some (.int .i64 (lims.getD j 0))
  c1 : ∀ j, j < 30 → wr.cell? ⟨w.heap.size + 1, j, none⟩ = some (.int .i64 (lims.getD j 0))
  c2 : ∀ j, j < 33 → wr.cell? ⟨w.heap.size + 2, j, none⟩ = some (.int .i64 (codes.getD j 0))
  c3 : ∀ j, j < 33 → wr.cell? ⟨w.heap.size + 3, j, none⟩ = some (.int .i64 (codes.getD j 0))
  below : Below w.heap.size w wr

theorem Tabs.drewN {w wr : World} (h : Tabs w wr) (n : Nat) : Tabs w (wr.drewN n) := ⟨h.c0, h.c1, h.c2, h.c3, ⟨h.below.os, h.below.tape, h.below.output, h.below.size, h.below.block⟩⟩

theorem tabs_start (w : World) (t1 t2 t3 t4 : TypeId) : Tabs w ((((w.alloc (.cells (cellsOf lims) t1)).alloc (.cells (cellsOf lims) t2)).alloc (.cells (cellsOf codes) t3)).alloc (.cells (cellsOf codes) t4)) := by
  refine ⟨fun j hj => ?_, fun j hj => ?_, fun j hj => ?_, fun j hj => ?_, ?_⟩
  · rw [← cellsOf_get lims j hj]; simp [go_sem]
  · rw [← cellsOf_get lims j hj]; simp [go_sem]
  · rw [← cellsOf_get codes j hj]; simp [go_sem]
  · rw [← cellsOf_get codes j hj]; simp [go_sem]
  · exact ((((Below.refl _ _).alloc (Nat.le_refl _) _).alloc (by simp) _).alloc (by simp; omega) _).alloc (by simp; omega) _

set_option maxRecDepth 100000 in
set_option maxHeartbeats 1000000 in
theorem numbers_any (w : World) : Calls Try.prog 3 #[] w fun e w' => e = .returned (.bool true) ∧ Below w.heap.size w w' := by
  go_enter Try.func3, Try.ntmps3
  go_wp2
  go_loopw [25] (fun i wr => ∃ k : Nat, k ≤ 30 ∧ i = .int .i64 k ∧ Tabs w wr) (fun i _ => 30 - (intOf i).toNat)
  case atStart => exact ⟨0, by omega, rfl, tabs_start w 3 3 23 3⟩
  case round =>
    obtain ⟨k, hk, rfl, hT⟩ := hrel
    by_cases hlt : k < 30
    · have c0 := hT.c0 k hlt
      have c1 := hT.c1 k hlt
      generalize lims.getD k 0 = x at *
      have b0 : (0 : Int) ≤ (k : Int) := by omega
      have b1 : (k : Int) < 30 := by omega
      go_wp2_with fail
      go_quiet (fail)
      go_wp2_with fail
      go_roundw
      case rel => exact ⟨k + 1, by omega, by go_num, hT.drewN _⟩
      case measure => simp [intOf]; omega
    · obtain rfl : k = 30 := by omega
      go_wp2_with fail
      go_loopw [40] (fun i wr => ∃ k : Nat, k ≤ 33 ∧ i = .int .i64 k ∧ Tabs w wr) (fun i _ => 33 - (intOf i).toNat)
      case atStart => exact ⟨0, by omega, rfl, hT⟩
      case round =>
        clear hT
        obtain ⟨k, hk, rfl, hT⟩ := hrel
        by_cases hlt : k < 33
        · have c2 := hT.c2 k hlt
          have c3 := hT.c3 k hlt
          generalize codes.getD k 0 = x at *
          have b0 : (0 : Int) ≤ (k : Int) := by omega
          have b1 : (k : Int) < 33 := by omega
          go_wp2_with fail
          go_quiet (fail)
          go_wp2_with fail
          go_roundw
          case rel => exact ⟨k + 1, by omega, by go_num, hT.drewN _⟩
          case measure => simp [intOf]; omega
        · obtain rfl : k = 33 := by omega
          go_wp2_with fail
          go_ret
          exact ⟨rfl, hT.below⟩
end Go.Proofs.Ytdgemhncddfdpaa
