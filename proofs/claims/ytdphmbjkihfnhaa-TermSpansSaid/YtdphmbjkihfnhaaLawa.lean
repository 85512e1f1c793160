/- THE WALKS of layer 3's laws whose arguments are ints: each returns true, at any ints; of the old memory nothing turns. And the row's last step over 'Below'. -/
import Derived.Test.YtdphmbjkihfnhaaRefb
import Derived.ProofKit
import Derived.Deep.DeepCutAuto
namespace Go.Proofs.Ytdphmbjkihfnhaa
open Go.RowKit

theorem i64_of_wf {x : Int} (h : (Lit.int .i64 x).wf = true) : I64 x := by
  simp [Lit.wf, IntKind.min, IntKind.max, IntKind.signed, IntKind.bits] at h
  exact ⟨by omega, by omega⟩

set_option maxHeartbeats 1000000 in
theorem awake_any (w : World) : Calls Try.prog 10 #[] w fun e w' => e = .returned (.bool true) ∧ Below w.heap.size w w' := by
  have f1 : T3.shrT 100 500 = 33 := by decide +kernel
  have f2 : T3.addT 5 7 = 12 := by decide +kernel
  have f3 : T3.leftT 12 5 = 7 := by decide +kernel
  have f4 : T3.legalB 4 = true := by decide +kernel
  have f5 : T3.legalB 3 = false := by decide +kernel
  have f6 : T3.honB 100 99 10 = true := by decide +kernel
  have f7 : T3.honB 100 98 10 = false := by decide +kernel
  have f8 : T3.leastT 3 4 = 334 := by decide +kernel
  go_enter Try.func10, Try.ntmps10
  go_wp2_with fail
  refine (shrink_ok _ _ _ (by decide)).mono ?_; rintro e w1 ⟨rfl, rfl⟩
  go_wp2_with fail
  refine (add_any _ _ _).mono ?_; rintro e w1 ⟨rfl, rfl⟩
  go_wp2_with fail
  refine (left_any _ _ _).mono ?_; rintro e w1 ⟨rfl, rfl⟩
  go_wp2_with fail
  refine (legal_any _ _).mono ?_; rintro e w1 ⟨rfl, rfl⟩
  go_wp2_with fail
  refine (legal_any _ _).mono ?_; rintro e w1 ⟨rfl, rfl⟩
  go_wp2_with fail
  refine (honest_any _ _ _ _ (by unfold I64; omega) (by unfold I64; omega)).mono ?_; rintro e w1 ⟨rfl, hb1⟩
  go_wp2_with fail
  refine (honest_any _ _ _ _ (by unfold I64; omega) (by unfold I64; omega)).mono ?_; rintro e w2 ⟨rfl, hb2⟩
  go_wp2_with fail
  refine (least_any _ _ _ (by unfold I64; omega) (by unfold I64; omega)).mono ?_; rintro e w3 ⟨rfl, hb3⟩
  go_wp2_with fail
  go_ret
  exact ⟨rfl, below_step (below_step hb1 hb2) hb3⟩

/-- Shrink, at any ints -/
def shrV (t rho : Int) : Int := if T3.shrB t rho then T3.shrT t rho else 0
def shrE (t rho : Int) : Int := if T3.shrB t rho then 0 else 2
theorem shrink_any (t rho : Int) (w : World) :
    Calls Try.prog 19 #[.int .i64 t, .int .i64 rho] w fun e w' => e = .returned (.tuple #[.int .i64 (shrV t rho), .int .i64 (shrE t rho)]) ∧ w = w' := by
  unfold shrV shrE
  cases h : T3.shrB t rho
  · exact shrink_no t rho w h
  · exact shrink_ok t rho w h
theorem rshrink_any (t rho : Int) (w : World) :
    Calls Try.prog 20 #[.int .i64 t, .int .i64 rho] w fun e w' => e = .returned (.tuple #[.int .i64 (shrV t rho), .int .i64 (shrE t rho)]) ∧ w = w' := by
  unfold shrV shrE
  cases h : T3.shrB t rho
  · exact rshrink_no t rho w h
  · exact rshrink_ok t rho w h

theorem names_any (w : World) : Calls Try.prog 3 #[] w fun e w' => e = .returned (.bool true) ∧ Below w.heap.size w w' := by
  have f1 : T3.addT 4611686018427387903 5 = 4611686018427387904 := by decide +kernel
  have f2 : T3.honB 9223372036854775807 9223372036854775807 0 = true := by decide +kernel
  have f3 : T3.honB 9223372036854775807 9223372036854775806 0 = false := by decide +kernel
  have f4 : T3.leastT 9223372036854775807 9223372036854775806 = 1 := by decide +kernel
  go_enter Try.func3, Try.ntmps3
  go_wp2_with fail
  refine (awake_any _).mono ?_; rintro e w1 ⟨rfl, hb1⟩
  go_wp2_with fail
  refine (add_any _ _ _).mono ?_; rintro e w2 ⟨rfl, rfl⟩
  go_wp2_with fail
  refine (honest_any _ _ _ _ (by unfold I64; omega) (by unfold I64; omega)).mono ?_; rintro e w2 ⟨rfl, hb2⟩
  go_wp2_with fail
  refine (honest_any _ _ _ _ (by unfold I64; omega) (by unfold I64; omega)).mono ?_; rintro e w3 ⟨rfl, hb3⟩
  go_wp2_with fail
  refine (least_any _ _ _ (by unfold I64; omega) (by unfold I64; omega)).mono ?_; rintro e w4 ⟨rfl, hb4⟩
  go_wp2_with fail
  go_ret
  exact ⟨rfl, below_step (below_step (below_step hb1 hb2) hb3) hb4⟩

theorem sums_any (a b : Int) (w : World) : Calls Try.prog 4 #[.int .i64 a, .int .i64 b] w fun e w' => e = .returned (.bool true) ∧ Below w.heap.size w w' := by
  go_enter Try.func4, Try.ntmps4
  go_wp2_with fail
  refine (awake_any _).mono ?_; rintro e w1 ⟨rfl, hb1⟩
  go_wp2_with fail
  refine (add_any _ _ _).mono ?_; rintro e w2 ⟨rfl, rfl⟩
  go_wp2_with fail
  refine (radd_any _ _ _).mono ?_; rintro e w2 ⟨rfl, rfl⟩
  go_wp2_with fail
  refine (left_any _ _ _).mono ?_; rintro e w2 ⟨rfl, rfl⟩
  go_wp2_with fail
  refine (rleft_any _ _ _).mono ?_; rintro e w2 ⟨rfl, rfl⟩
  go_wp2_with fail
  refine (legal_any _ _).mono ?_; rintro e w2 ⟨rfl, rfl⟩
  go_wp2_with fail
  refine (rlegal_any _ _).mono ?_; rintro e w2 ⟨rfl, rfl⟩
  go_wp2_with fail
  go_ret
  exact ⟨by simp, hb1⟩

theorem shrinks_any (a b : Int) (w : World) : Calls Try.prog 5 #[.int .i64 a, .int .i64 b] w fun e w' => e = .returned (.bool true) ∧ Below w.heap.size w w' := by
  have hE : -9223372036854775808 ≤ shrE a b ∧ shrE a b ≤ 9223372036854775807 := by unfold shrE; split <;> omega
  go_enter Try.func5, Try.ntmps5
  go_wp2_with fail
  refine (awake_any _).mono ?_; rintro e w1 ⟨rfl, hb1⟩
  go_wp2_with fail
  refine (shrink_any _ _ _).mono ?_; rintro e w2 ⟨rfl, rfl⟩
  go_wp2_with fail
  refine (rshrink_any _ _ _).mono ?_; rintro e w2 ⟨rfl, rfl⟩
  go_wp2_with fail
  go_ret
  exact ⟨by simp, hb1⟩

theorem honests_any (d a rho : Int) (hd : I64 d) (ha : I64 a) (w : World) : Calls Try.prog 6 #[.int .i64 d, .int .i64 a, .int .i64 rho] w fun e w' => e = .returned (.bool true) ∧ Below w.heap.size w w' := by
  go_enter Try.func6, Try.ntmps6
  go_wp2_with fail
  refine (awake_any _).mono ?_; rintro e w1 ⟨rfl, hb1⟩
  go_wp2_with fail
  refine (honest_any _ _ _ _ hd ha).mono ?_; rintro e w2 ⟨rfl, hb2⟩
  go_wp2_with fail
  refine (rhonest_any _ _ _ _ hd ha).mono ?_; rintro e w3 ⟨rfl, hb3⟩
  go_wp2_with fail
  refine (least_any _ _ _ hd ha).mono ?_; rintro e w4 ⟨rfl, hb4⟩
  go_wp2_with fail
  refine (rleast_any _ _ _ hd ha).mono ?_; rintro e w5 ⟨rfl, hb5⟩
  go_wp2_with fail
  go_ret
  exact ⟨by simp, below_step (below_step (below_step (below_step hb1 hb2) hb3) hb4) hb5⟩
end Go.Proofs.Ytdphmbjkihfnhaa
