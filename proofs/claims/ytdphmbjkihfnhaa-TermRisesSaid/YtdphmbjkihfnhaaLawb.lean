/- THE WALK of TermRises: it returns true, at any ints; of the old memory nothing turns. -/
import Derived.Test.YtdphmbjkihfnhaaLawa
namespace Go.Proofs.Ytdphmbjkihfnhaa
open Go.RowKit

theorem shrV_ok {t rho : Int} (h : T3.shrB t rho = true) : shrV t rho = T3.shrT t rho ∧ shrE t rho = 0 := by unfold shrV shrE; rw [h]; exact ⟨rfl, rfl⟩
theorem shrV_no {t rho : Int} (h : T3.shrB t rho = false) : shrV t rho = 0 ∧ shrE t rho = 2 := by unfold shrV shrE; rw [h]; exact ⟨rfl, rfl⟩
theorem shr_facts {a b : Int} (h : T3.shrB a b = true) : 0 ≤ a ∧ 0 ≤ b ∧ shrE a b = 0 ∧ shrE a (b - b.tmod 7) = 0 ∧ shrE (a - a.tmod 5) b = 0 ∧ shrV a b ≤ shrV a (b - b.tmod 7) ∧ shrV (a - a.tmod 5) b ≤ shrV a b := by
  have hr := of_decide_eq_true h
  rw [Int.tmod_eq_emod_of_nonneg hr.1, Int.tmod_eq_emod_of_nonneg hr.2.2.1]
  have m1 := T3.shr_mono_rho (sig := b - b % 7) h (by omega) (by omega)
  have m2 := T3.shr_mono_t (u := a - a % 5) h (by omega) (by omega)
  rw [(shrV_ok h).1, (shrV_ok h).2, (shrV_ok m1.1).1, (shrV_ok m1.1).2, (shrV_ok m2.1).1, (shrV_ok m2.1).2]
  exact ⟨hr.1, hr.2.2.1, rfl, rfl, rfl, m1.2, m2.2⟩

theorem emod_le_self {b m : Int} (hb : 0 ≤ b) (hm : 0 < m) : b % m ≤ b := by
  have h1 := Int.emod_add_mul_ediv b m
  have h2 := Int.mul_nonneg (show 0 ≤ m by omega) (Int.ediv_nonneg hb (show 0 ≤ m by omega))
  omega
theorem shr_either (a b : Int) : (shrE a b == 0) = false ∨ (0 ≤ a ∧ 0 ≤ b ∧ (shrE a b == 0) = true ∧ (shrE a (b - b.tmod 7) != 0) = false ∧ (shrE (a - a.tmod 5) b != 0) = false ∧ shrV a b ≤ shrV a (b - b.tmod 7) ∧ shrV (a - a.tmod 5) b ≤ shrV a b) := by
  cases h : T3.shrB a b
  · exact Or.inl (by rw [(shrV_no h).2]; rfl)
  · obtain ⟨k1, k2, k3, k4, k5, k6, k7⟩ := shr_facts h
    exact Or.inr ⟨k1, k2, by rw [k3]; rfl, by rw [k4]; rfl, by rw [k5]; rfl, k6, k7⟩
theorem tmod_bd {b : Int} (hb : I64 b) (m : Int) (hm : 0 < m) : -9223372036854775808 ≤ b - b.tmod m ∧ b - b.tmod m ≤ 9223372036854775807 := by
  obtain ⟨h1, h2⟩ := hb
  by_cases h : 0 ≤ b
  · rw [Int.tmod_eq_emod_of_nonneg h]
    have a1 := Int.emod_nonneg b (show m ≠ 0 by omega)
    have a2 : b % m ≤ b := emod_le_self h hm
    omega
  · have e : b.tmod m = -((-b) % m) := by
      rw [← Int.tmod_eq_emod_of_nonneg (show 0 ≤ -b by omega), Int.neg_tmod, Int.neg_neg]
    rw [e]
    have a1 := Int.emod_nonneg (-b) (show m ≠ 0 by omega)
    have a2 : (-b) % m ≤ -b := emod_le_self (by omega) hm
    omega
theorem least_facts (a b c : Int) : (T3.leastT a b = 1000 ∧ T3.honB a b c = false ∧ T3.honB a b 999 = false) ∨
    (∃ n, T3.leastT a b = n ∧ 0 ≤ n ∧ n ≤ 999 ∧ T3.honB a b n = true ∧ (n = 0 ∨ 1 ≤ n ∧ T3.honB a b (n - 1) = false) ∧ (T3.honB a b c = false ∨ (T3.honB a b c = true ∧ n ≤ c ∧ T3.honB a b 999 = true))) := by
  have hb := T3.leastT_bd a b
  by_cases h : T3.leastT a b = 1000
  · refine Or.inl ⟨h, ?_, T3.leastT_low a b 999 (by omega)⟩
    cases hc : T3.honB a b c
    · rfl
    · have h1 := T3.leastT_le a b c hc
      have h2 := of_decide_eq_true hc
      omega
  · refine Or.inr ⟨_, rfl, hb.1, by omega, T3.leastT_hon a b (by omega), ?_, ?_⟩
    · by_cases h0 : T3.leastT a b = 0
      · exact Or.inl h0
      · exact Or.inr ⟨by omega, T3.leastT_low a b _ (by omega)⟩
    · cases hc : T3.honB a b c
      · exact Or.inl rfl
      · exact Or.inr ⟨rfl, T3.leastT_le a b c hc, T3.leastT_up a b 999 (by omega) (by omega)⟩

set_option maxRecDepth 100000 in
set_option maxHeartbeats 2000000 in
theorem rises_any (a b c : Int) (ha : I64 a) (hb : I64 b) (hc : I64 c) (w : World) : Calls Try.prog 9 #[.int .i64 a, .int .i64 b, .int .i64 c] w fun e w' => e = .returned (.bool true) ∧ Below w.heap.size w w' := by
  have hs := T3.addT_bd a b
  rw [T3.F_eq] at hs
  have ha' := ha
  have hb' := hb
  have t1 := tmod_bd ha 5 (by omega)
  have t2 := tmod_bd hb 7 (by omega)
  have hE : -9223372036854775808 ≤ shrE a b ∧ shrE a b ≤ 9223372036854775807 := by unfold shrE; split <;> omega
  unfold I64 at ha' hb'
  go_enter Try.func9, Try.ntmps9
  go_wp2_with fail
  refine (awake_any _).mono ?_; rintro e w1 ⟨rfl, hb1⟩
  go_upto_region 3 with fail
  go_cut [57] (fun s wx => s = .bool false ∧ Below w.heap.size w wx)
  case first =>
    have hcm : T3.addT b a = T3.addT a b := T3.addT_comm b a
    by_cases h : b ≤ c
    · have m1 := T3.addT_mono a h
      have m2 := T3.leftT_mono a h
      go_wp2_with (first | (go_at_call 11; refine (add_any _ _ _).mono ?_; rintro e w2 ⟨rfl, rfl⟩) | (go_at_call 15; refine (left_any _ _ _).mono ?_; rintro e w2 ⟨rfl, rfl⟩))
      go_meet
      exact ⟨by simp; omega, hb1⟩
    · go_wp2_with (first | (go_at_call 11; refine (add_any _ _ _).mono ?_; rintro e w2 ⟨rfl, rfl⟩) | (go_at_call 15; refine (left_any _ _ _).mono ?_; rintro e w2 ⟨rfl, rfl⟩))
      go_meet
      exact ⟨by simp; omega, hb1⟩
  case rest =>
  obtain ⟨rfl, hB⟩ := hcut
  clear hb1
  go_upto_region 5 with fail
  go_cut [89] (fun s wx => s = .bool false ∧ Below w.heap.size w wx)
  case first =>
    rcases (show a < 0 ∨ (0 ≤ a ∧ b < 0) ∨ (0 ≤ a ∧ 0 ≤ b ∧ 1152921504606846976 < a) ∨ (0 ≤ a ∧ 0 ≤ b ∧ a ≤ 1152921504606846976 ∧ 1152921504606846976 < b) ∨ (0 ≤ a ∧ 0 ≤ b ∧ a ≤ 1152921504606846976 ∧ b ≤ 1152921504606846976) from by omega) with h1 | ⟨h1, h2⟩ | ⟨h1, h2, h3⟩ | ⟨h1, h2, h3, h4⟩ | ⟨h1, h2, h3, h4⟩
    · go_wp2_with fail
      go_meet
      exact ⟨rfl, hB⟩
    · go_wp2_with fail
      go_meet
      exact ⟨rfl, hB⟩
    · go_wp2_with fail
      go_meet
      exact ⟨rfl, hB⟩
    · go_wp2_with fail
      go_meet
      exact ⟨rfl, hB⟩
    · have k1 : (T3.leftT (T3.addT a b) a != b) = false := by rw [T3.left_add h1 h2 h3 h4]; simp
      have k2 : (T3.addT a b != a + b) = false := by rw [T3.addT_small h1 h2 h3 h4]; simp
      go_wp2_with (first | (go_at_call 11; refine (add_any _ _ _).mono ?_; rintro e w2 ⟨rfl, rfl⟩) | (go_at_call 15; refine (left_any _ _ _).mono ?_; rintro e w2 ⟨rfl, rfl⟩))
      go_meet
      exact ⟨rfl, hB⟩
  case rest =>
  obtain ⟨rfl, hB⟩ := hcut
  go_upto_region 10 with (go_at_call 19; refine (shrink_any _ _ _).mono ?_; rintro e w2 ⟨rfl, rfl⟩)
  have K := Lib.hid (shr_either a b)
  generalize shrE a b = e at *
  generalize shrV a b = x at *
  generalize shrE a (b - b.tmod 7) = f at *
  generalize shrV a (b - b.tmod 7) = y at *
  generalize shrE (a - a.tmod 5) b = g at *
  generalize shrV (a - a.tmod 5) b = z at *
  go_cut [141] (fun s wx => s = .bool false ∧ Below w.heap.size w wx)
  case first =>
    rcases K.out with k1 | ⟨k1, k2, k3, k4, k5, k6, k7⟩
    · go_wp2_with fail
      go_meet
      exact ⟨rfl, hB⟩
    · go_wp2_with fail
      go_meet
      exact ⟨by simp; try omega, hB⟩
  case rest =>
  obtain ⟨rfl, hB⟩ := hcut
  have L := Lib.hid (least_facts a b c)
  go_wp2_with fail
  refine (least_any _ _ _ ha hb).mono ?_; rintro e w2 ⟨rfl, hb2⟩
  have hB2 := below_step hB hb2
  clear hb2 hB
  rcases L.out with ⟨l1, l2, l3⟩ | ⟨n, l1, l2, l3, l4, l5, l6⟩
  · rw [l1]
    clear l1
    go_wp2_with (go_at_call 12; refine (honest_any _ _ _ _ ha hb).mono ?_; rintro e w3 ⟨rfl, hb3⟩; replace hB2 := below_step hB2 hb3; clear hb3)
    go_ret
    exact ⟨rfl, hB2⟩
  · rw [l1]
    clear l1
    rcases l5 with rfl | ⟨l5, l7⟩
    all_goals
      rcases l6 with l6 | ⟨l6, l8, l9⟩
      all_goals
        go_wp2_with (go_at_call 12; refine (honest_any _ _ _ _ ha hb).mono ?_; rintro e w3 ⟨rfl, hb3⟩; replace hB2 := below_step hB2 hb3; clear hb3)
        go_ret
        exact ⟨rfl, hB2⟩
end Go.Proofs.Ytdphmbjkihfnhaa
