/- THE WALKS of subletref03 (the document's answer), and term.Least: each function, at any ints, returns what the plain functions of YtdphmbjkihfnhaaPlain compute; of the old memory nothing turns. -/
import Derived.Test.YtdphmbjkihfnhaaTerm
namespace Go.Proofs.Ytdphmbjkihfnhaa
open Go.RowKit

theorem rclamp_any (t : Int) (w : World) :
    Calls Try.prog 26 #[.int .i64 t] w fun e w' => e = .returned (.int .i64 (T3.clampT t)) ∧ w = w' := by
  go_enter Try.func26, Try.ntmps26
  go_wp2
  all_goals
    go_ret
    exact ⟨ret_int (by unfold T3.clampT T3.F; omega), rfl⟩

theorem radd_any (a b : Int) (w : World) :
    Calls Try.prog 14 #[.int .i64 a, .int .i64 b] w fun e w' => e = .returned (.int .i64 (T3.addT a b)) ∧ w = w' := by
  have ha := T3.clampT_bd a
  have hb := T3.clampT_bd b
  rw [T3.F_eq] at ha hb
  go_enter Try.func14, Try.ntmps14
  go_wp2_with (go_at_call 26; refine (rclamp_any _ _).mono ?_; rintro e w' ⟨rfl, rfl⟩)
  all_goals
    go_ret
    exact ⟨ret_int (by unfold T3.addT; rw [T3.F_eq]; omega), rfl⟩

theorem rleft_any (a b : Int) (w : World) :
    Calls Try.prog 16 #[.int .i64 a, .int .i64 b] w fun e w' => e = .returned (.int .i64 (T3.leftT a b)) ∧ w = w' := by
  have ha := T3.clampT_bd a
  have hb := T3.clampT_bd b
  rw [T3.F_eq] at ha hb
  go_enter Try.func16, Try.ntmps16
  go_wp2_with (go_at_call 26; refine (rclamp_any _ _).mono ?_; rintro e w' ⟨rfl, rfl⟩)
  all_goals
    go_ret
    exact ⟨ret_int (by unfold T3.leftT; omega), rfl⟩

theorem rlegal_any (t : Int) (w : World) :
    Calls Try.prog 18 #[.int .i64 t] w fun e w' => e = .returned (.bool (T3.legalB t)) ∧ w = w' := by
  by_cases h : 4 ≤ t
  all_goals
    go_enter Try.func18, Try.ntmps18
    go_wp2
    go_ret
    exact ⟨ret_bool (by unfold T3.legalB; simp; try omega), rfl⟩

theorem rshrink_no (t rho : Int) (w : World) (h : T3.shrB t rho = false) :
    Calls Try.prog 20 #[.int .i64 t, .int .i64 rho] w fun e w' => e = .returned (.tuple #[.int .i64 0, .int .i64 2]) ∧ w = w' := by
  have hr := of_decide_eq_false h
  rcases (show t < 0 ∨ (0 ≤ t ∧ 1048576 < t) ∨ (0 ≤ t ∧ t ≤ 1048576 ∧ rho < 0) ∨ (0 ≤ t ∧ t ≤ 1048576 ∧ 0 ≤ rho ∧ 999 < rho) from by omega) with h1 | ⟨h1, h2⟩ | ⟨h1, h2, h3⟩ | ⟨h1, h2, h3, h4⟩
  all_goals
    clear h hr
    go_enter Try.func20, Try.ntmps20
    go_wp2
    go_ret2
    exact ⟨rfl, rfl⟩

theorem rshrink_ok (t rho : Int) (w : World) (h : T3.shrB t rho = true) :
    Calls Try.prog 20 #[.int .i64 t, .int .i64 rho] w fun e w' => e = .returned (.tuple #[.int .i64 (T3.shrT t rho), .int .i64 0]) ∧ w = w' := by
  obtain ⟨q0, q1, _, _, s1, s2⟩ := T3.shr_spec h
  have hr := of_decide_eq_true h
  have H := Lib.hid h
  clear h
  go_enter Try.func20, Try.ntmps20
  go_wp2
  go_loop [6, 7] (fun n s => ∃ (m : Int) (k : Nat), k ≤ 21 ∧ n = .int .i64 m ∧ s = .int .i64 (T3.stp k) ∧ T3.Near (T3.shrT t rho) m k) (fun _ s => (intOf s).toNat)
  case atStart => exact ⟨0, 21, Nat.le_refl _, rfl, by rw [show T3.stp 21 = 1048576 from by decide], T3.near_start q0 (by omega)⟩
  case round =>
    obtain ⟨m, k, hk, rfl, rfl, hn⟩ := hrel
    have hm := T3.near_bd hn
    have Hn := Lib.hid hn
    clear hn
    cases k with
    | zero =>
      have h0 : ¬ (0 : Int) < T3.stp 0 := by simp [T3.stp]
      go_wp2
      go_ret2
      exact ⟨ret_int2 (T3.near_end Hn.out) rfl, rfl⟩
    | succ k =>
      have hp := T3.stp_pos k
      have hl := T3.stp_le (k + 1) hk
      have hh := T3.stp_half k
      have hst : ∀ m', (m + T3.stp (k + 1) ≤ T3.shrT t rho ∧ m' = m + T3.stp (k + 1)) ∨ (T3.shrT t rho < m + T3.stp (k + 1) ∧ m' = m) → T3.Near (T3.shrT t rho) m' k := fun m' h => T3.near_step Hn.out h
      have Hst := Lib.hid hst
      have hiff := T3.shr_le_iff (m := m + T3.stp (k + 1)) H.out
      have b0 : 0 ≤ (m + T3.stp (k + 1)) * (1000 + rho) := Int.mul_nonneg (by omega) (by omega)
      have b1 : (m + T3.stp (k + 1)) * (1000 + rho) ≤ 2097152 * 1999 := by
        have := Int.mul_le_mul_of_nonneg_left (show 1000 + rho ≤ 1999 by omega) (show 0 ≤ m + T3.stp (k + 1) by omega)
        omega
      have Hh := Lib.hid hh
      clear hh hst
      by_cases hc : (m + T3.stp (k + 1)) * (1000 + rho) ≤ t * (1000 - rho)
      · have hc' := hiff.1 hc
        have HR := Hst.out _ (Or.inl ⟨hc', rfl⟩)
        have HR := Lib.hid HR
        clear hiff hc'
        generalize hs : T3.stp (k + 1) = s at *
        clear hs
        go_wp2
        go_round
        case rel => exact ⟨_, k, by omega, rfl, by rw [Hh.out], HR.out⟩
        case measure => simp [intOf]; omega
      · have hc' : T3.shrT t rho < m + T3.stp (k + 1) := by
          apply Int.lt_of_not_ge; intro h; exact hc (hiff.2 h)
        have HR := Hst.out _ (Or.inr ⟨hc', rfl⟩)
        have HR := Lib.hid HR
        clear hiff hc'
        generalize hs : T3.stp (k + 1) = s at *
        clear hs
        go_wp2
        go_round
        case rel => exact ⟨_, k, by omega, rfl, by rw [Hh.out], HR.out⟩
        case measure => simp [intOf]; omega
end Go.Proofs.Ytdphmbjkihfnhaa
