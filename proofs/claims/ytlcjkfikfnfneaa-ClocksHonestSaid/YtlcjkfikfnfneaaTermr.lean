/- THE WALKS of subletref03's wide numbers, Honest, Least, and of term.Least: what the plain functions of YtlcjkfikfnfneaaPlain compute; of the old memory nothing turns. -/
import Derived.Test.YtlcjkfikfnfneaaTermh
import Derived.Laws.BitsAllLaws
import Derived.Laws.BitsLemmas
namespace Go.Proofs.Ytlcjkfikfnfneaa
open Go.RowKit

theorem ofInt_i64 (a : Nat) (ha : a < 9223372036854775808) : (BitVec.ofInt 64 (a : Int)).toNat = a := by
  rw [BitVec.ofInt_natCast, BitVec.toNat_ofNat]; exact Nat.mod_eq_of_lt (by omega)
theorem i64_and_nat (a b : Nat) (ha : a < 9223372036854775808) (hb : b < 9223372036854775808) : bits .and .i64 (a : Int) (b : Int) = ((a &&& b : Nat) : Int) := by
  have hx : a &&& b < 2 ^ 63 := Nat.and_lt_two_pow _ (by omega)
  show IntKind.i64.wrap ((BitVec.ofInt 64 (a : Int) &&& BitVec.ofInt 64 (b : Int)).toNat : Int) = _
  rw [BitVec.toNat_and, ofInt_i64 a ha, ofInt_i64 b hb, IntKind.wrap_i64]
  omega
/-- the low 31 bits -/
theorem and31 (x : Int) (h0 : 0 ≤ x) (h1 : x ≤ 9223372036854775807) : bits .and .i64 x 2147483647 = x % 2147483648 := by
  obtain ⟨a, rfl⟩ := Int.eq_ofNat_of_zero_le h0
  have h := i64_and_nat a 2147483647 (by omega) (by omega)
  have e : a &&& 2147483647 = a % 2147483648 := Nat.and_two_pow_sub_one_eq_mod a 31
  rw [e] at h
  exact h

def hiR (m : Int) : Int := m / 4611686018427387904
def loR (m : Int) : Int := m % 4611686018427387904

theorem wide_parts {n k hi lo x y0 : Int} (hq : n / 2147483648 = hi) (hl : n % 2147483648 = lo) (hx : lo * k = x) (hy : hi * k = y0) :
    (y0 + x / 2147483648) / 2147483648 = hiR (n * k) ∧ (y0 + x / 2147483648) % 2147483648 * 2147483648 + x % 2147483648 = loR (n * k) := by
  have e : n * k = 2147483648 * y0 + x := by
    have : n = 2147483648 * hi + lo := by omega
    rw [this, Int.add_mul, Int.mul_assoc, hy, hx]
  rw [e]; unfold hiR loR; omega

set_option maxHeartbeats 400000 in
theorem times_any (n k : Int) (w : World) (hn : 0 ≤ n ∧ n ≤ 9223372036854775807) (hk : 0 ≤ k ∧ k ≤ 2000) :
    Calls Try.prog 31 #[.int .i64 n, .int .i64 k] w fun e w' => e = .returned (.agg #[.int .i64 (hiR (n * k)), .int .i64 (loR (n * k))]) ∧ Below w.heap.size w w' := by
  obtain ⟨hi, hq⟩ : ∃ hi, n / 2147483648 = hi := ⟨_, rfl⟩
  obtain ⟨lo, hl⟩ : ∃ lo, n % 2147483648 = lo := ⟨_, rfl⟩
  obtain ⟨x, hx⟩ : ∃ x, lo * k = x := ⟨_, rfl⟩
  obtain ⟨y0, hy⟩ : ∃ y0, hi * k = y0 := ⟨_, rfl⟩
  have ha := and31 n hn.1 hn.2
  rw [hl] at ha
  have bx0 : 0 ≤ x := hx ▸ Int.mul_nonneg (by omega) hk.1
  have by0 : 0 ≤ y0 := hy ▸ Int.mul_nonneg (by omega) hk.1
  have bx1 : x ≤ 2147483648 * 2000 := by
    have h1 := Int.mul_le_mul_of_nonneg_left hk.2 (show 0 ≤ lo by omega)
    omega
  have by1 : y0 ≤ 4294967296 * 2000 := by
    have h1 := Int.mul_le_mul_of_nonneg_left hk.2 (show 0 ≤ hi by omega)
    omega
  have hax := and31 x bx0 (by omega)
  have hay := and31 (y0 + x / 2147483648) (by omega) (by omega)
  have HP := Lib.hid (wide_parts hq hl hx hy)
  clear hl
  go_enter Try.func31, Try.ntmps31
  go_wp2_with fail
  refine bodyPost_ret (v := .agg #[.int .i64 ((y0 + x / 2147483648) / 2147483648), .int .i64 ((y0 + x / 2147483648) % 2147483648 * 2147483648 + x % 2147483648)]) (by simp [results, Try.results31, go_sem]) rfl ⟨by rw [HP.out.1, HP.out.2], ?_⟩
  exact (Below.refl _ _).alloc (Nat.le_refl _) _

set_option maxHeartbeats 400000 in
theorem below_any (h l h' l' : Int) (w : World) :
    Calls Try.prog 30 #[.agg #[.int .i64 h, .int .i64 l], .agg #[.int .i64 h', .int .i64 l']] w fun e w' => e = .returned (.bool (leW h l h' l')) ∧ Below w.heap.size w w' := by
  rcases (show (h = h' ∧ l ≤ l') ∨ (h = h' ∧ l' < l) ∨ h < h' ∨ h' < h from by omega) with ⟨rfl, h2⟩ | ⟨rfl, h2⟩ | h2 | h2
  all_goals
    go_enter Try.func30, Try.ntmps30
    go_wp2
    go_ret
    exact ⟨ret_bool (by unfold leW; simp; try omega), ((Below.refl _ _).alloc (Nat.le_refl _) _).alloc (by simp) _⟩

theorem leR_of (m m' : Int) : leW (hiR m) (loR m) (hiR m') (loR m') = decide (m ≤ m') := by
  unfold leW hiR loR
  rw [decide_eq_decide]
  have e := T3.wide_le (M := 4611686018427387904) (h := m / 4611686018427387904) (l := m % 4611686018427387904) (h' := m' / 4611686018427387904) (l' := m' % 4611686018427387904) (by omega) (by omega) (by omega) (by omega)
  rw [e]; omega

theorem rhonest_no (d a rho : Int) (w : World) (h : ¬ (0 ≤ d ∧ 0 ≤ a ∧ 0 ≤ rho ∧ rho ≤ 999)) :
    Calls Try.prog 28 #[.int .i64 d, .int .i64 a, .int .i64 rho] w fun e w' => e = .returned (.bool false) ∧ w = w' := by
  rcases (show d < 0 ∨ (0 ≤ d ∧ a < 0) ∨ (0 ≤ d ∧ 0 ≤ a ∧ rho < 0) ∨ (0 ≤ d ∧ 0 ≤ a ∧ 0 ≤ rho ∧ 999 < rho) from by omega) with h1 | ⟨h1, h2⟩ | ⟨h1, h2, h3⟩ | ⟨h1, h2, h3, h4⟩
  all_goals
    clear h
    go_enter Try.func28, Try.ntmps28
    go_wp2
    go_ret
    exact ⟨rfl, rfl⟩

set_option maxHeartbeats 1000000 in
theorem rhonest_yes (d a rho : Int) (w : World) (hd : 0 ≤ d ∧ d ≤ 9223372036854775807) (ha : 0 ≤ a ∧ a ≤ 9223372036854775807) (hr : 0 ≤ rho ∧ rho ≤ 999) :
    Calls Try.prog 28 #[.int .i64 d, .int .i64 a, .int .i64 rho] w fun e w' => e = .returned (.bool (T3.honB d a rho)) ∧ Below w.heap.size w w' := by
  have e0 : T3.honB d a rho = (leW (hiR (d * (1000 - rho))) (loR (d * (1000 - rho))) (hiR (a * 1000)) (loR (a * 1000)) && leW (hiR (a * 1000)) (loR (a * 1000)) (hiR (d * (1000 + rho))) (loR (d * (1000 + rho)))) := by
    rw [leR_of, leR_of, T3.honB, Bool.eq_iff_iff, Bool.and_eq_true, decide_eq_true_eq, decide_eq_true_eq, decide_eq_true_eq]
    exact ⟨fun h => h.2.2.2.2, fun h => ⟨hd.1, ha.1, hr.1, hr.2, h⟩⟩
  have E0 := Lib.hid e0
  clear e0
  go_enter Try.func28, Try.ntmps28
  go_wp2_with fail
  refine (times_any _ _ _ (by omega) (by omega)).mono ?_; rintro e w1 ⟨rfl, hb1⟩
  go_wp2_with fail
  refine (times_any _ _ _ (by omega) (by omega)).mono ?_; rintro e w2 ⟨rfl, hb2⟩
  go_wp2_with fail
  refine (below_any _ _ _ _ _).mono ?_; rintro e w3 ⟨rfl, hb3⟩
  go_wp2_with fail
  refine (times_any _ _ _ (by omega) (by omega)).mono ?_; rintro e w4 ⟨rfl, hb4⟩
  go_wp2_with fail
  refine (times_any _ _ _ (by omega) (by omega)).mono ?_; rintro e w5 ⟨rfl, hb5⟩
  go_wp2_with fail
  refine (below_any _ _ _ _ _).mono ?_; rintro e w6 ⟨rfl, hb6⟩
  cases hq : leW (hiR (d * (1000 - rho))) (loR (d * (1000 - rho))) (hiR (a * 1000)) (loR (a * 1000))
  all_goals
    have Hq := Lib.hid hq
    clear hq
    go_wp2
    go_ret
    exact ⟨ret_bool (by rw [E0.out, Hq.out]; rfl), below_step (below_step (below_step (below_step (below_step hb1 hb2) hb3) hb4) hb5) hb6⟩

theorem honB_no {d a rho : Int} (h : ¬ (0 ≤ d ∧ 0 ≤ a ∧ 0 ≤ rho ∧ rho ≤ 999)) : T3.honB d a rho = false := decide_eq_false (fun k => h ⟨k.1, k.2.1, k.2.2.1, k.2.2.2.1⟩)

/-- an int -/
def I64 (x : Int) : Prop := -9223372036854775808 ≤ x ∧ x ≤ 9223372036854775807

theorem honest_any (d a rho : Int) (w : World) (hd : I64 d) (ha : I64 a) :
    Calls Try.prog 18 #[.int .i64 d, .int .i64 a, .int .i64 rho] w fun e w' => e = .returned (.bool (T3.honB d a rho)) ∧ Below w.heap.size w w' := by
  by_cases h : 0 ≤ d ∧ 0 ≤ a ∧ 0 ≤ rho ∧ rho ≤ 999
  · exact honest_yes d a rho w ⟨h.1, hd.2⟩ ⟨h.2.1, ha.2⟩ h.2.2
  · rw [honB_no h]; exact (honest_no d a rho w h).mono fun e w' ⟨he, hw⟩ => ⟨he, hw ▸ Below.refl _ _⟩
theorem rhonest_any (d a rho : Int) (w : World) (hd : I64 d) (ha : I64 a) :
    Calls Try.prog 28 #[.int .i64 d, .int .i64 a, .int .i64 rho] w fun e w' => e = .returned (.bool (T3.honB d a rho)) ∧ Below w.heap.size w w' := by
  by_cases h : 0 ≤ d ∧ 0 ≤ a ∧ 0 ≤ rho ∧ rho ≤ 999
  · exact rhonest_yes d a rho w ⟨h.1, hd.2⟩ ⟨h.2.1, ha.2⟩ h.2.2
  · rw [honB_no h]; exact (rhonest_no d a rho w h).mono fun e w' ⟨he, hw⟩ => ⟨he, hw ▸ Below.refl _ _⟩

set_option maxHeartbeats 400000 in
theorem rleast_any (d a : Int) (w : World) (hd : I64 d) (ha : I64 a) :
    Calls Try.prog 23 #[.int .i64 d, .int .i64 a] w fun e w' => e = .returned (.int .i64 (T3.leastT d a)) ∧ Below w.heap.size w w' := by
  have hl := T3.leastT_bd d a
  go_enter Try.func23, Try.ntmps23
  go_wp2
  go_loopw [5] (fun r wr => ∃ k : Int, 0 ≤ k ∧ k ≤ T3.leastT d a ∧ r = .int .i64 k ∧ Below w.heap.size w wr) (fun r _ => (1000 - intOf r).toNat)
  case atStart => exact ⟨0, by omega, by omega, rfl, Below.refl _ _⟩
  case round =>
    obtain ⟨k, hk0, hk, rfl, hB⟩ := hrel
    by_cases h9 : k ≤ 999
    · go_wp2_with fail
      refine (rhonest_any _ _ _ _ hd ha).mono ?_; rintro e w1 ⟨rfl, hb1⟩
      cases hh : T3.honB d a k
      · have hlt : k + 1 ≤ T3.leastT d a := by
          apply Int.not_lt.1; intro h
          rw [T3.leastT_up d a k (by omega) h9] at hh; cases hh
        clear hh
        go_wp2
        go_roundw
        case rel => exact ⟨k + 1, by omega, by omega, rfl, below_step hB hb1⟩
        case measure => simp [intOf]; omega
      · have he := T3.leastT_le d a k hh
        have he : k = T3.leastT d a := by omega
        have He := Lib.hid he
        clear he hh
        go_wp2
        go_ret
        exact ⟨ret_int He.out, below_step hB hb1⟩
    · have he : 1000 = T3.leastT d a := by omega
      have He := Lib.hid he
      clear he
      go_wp2
      go_ret
      exact ⟨ret_int He.out, hB⟩

set_option maxHeartbeats 400000 in
theorem least_any (d a : Int) (w : World) (hd : I64 d) (ha : I64 a) :
    Calls Try.prog 21 #[.int .i64 d, .int .i64 a] w fun e w' => e = .returned (.int .i64 (T3.leastT d a)) ∧ Below w.heap.size w w' := by
  have hl := T3.leastT_bd d a
  go_enter Try.func21, Try.ntmps21
  go_wp2
  go_loopw [5, 6] (fun l h wr => ∃ lo hi : Int, 0 ≤ lo ∧ hi ≤ 1000 ∧ lo ≤ T3.leastT d a ∧ T3.leastT d a ≤ hi ∧ l = .int .i64 lo ∧ h = .int .i64 hi ∧ Below w.heap.size w wr) (fun l h _ => (intOf h - intOf l).toNat)
  case atStart => exact ⟨0, 1000, by omega, by omega, by omega, by omega, rfl, rfl, Below.refl _ _⟩
  case round =>
    obtain ⟨lo, hi, h0, h1, h2, h3, rfl, rfl, hB⟩ := hrel
    by_cases hlt : lo < hi
    · go_wp2_with fail
      refine (honest_any _ _ _ _ hd ha).mono ?_; rintro e w1 ⟨rfl, hb1⟩
      cases hh : T3.honB d a ((lo + hi) / 2)
      · have hlt : (lo + hi) / 2 + 1 ≤ T3.leastT d a := by
          apply Int.not_lt.1; intro h
          rw [T3.leastT_up d a _ (by omega) (by omega)] at hh; cases hh
        clear hh
        go_wp2
        go_roundw
        case rel => exact ⟨_, hi, by omega, h1, hlt, h3, rfl, rfl, below_step hB hb1⟩
        case measure => simp [intOf]; omega
      · have he := T3.leastT_le d a _ hh
        clear hh
        go_wp2
        go_roundw
        case rel => exact ⟨lo, _, h0, by omega, h2, he, rfl, rfl, below_step hB hb1⟩
        case measure => simp [intOf]; omega
    · have he : lo = T3.leastT d a := by omega
      have He := Lib.hid he
      clear he
      go_wp2
      go_ret
      exact ⟨ret_int He.out, hB⟩
end Go.Proofs.Ytlcjkfikfnfneaa
