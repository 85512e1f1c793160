/- THE WALKS of the reader: num, NewReader, Num, Text, Left, Err. -/
import Derived.Test.YtflacchpgcggnaaWrb
import Derived.Deep.DeepCutAuto
import Derived.BigQuiet
import Derived.Deep.QuietTactic
namespace Go.Proofs.Ytflacchpgcggnaa
open Go.RowKit

theorem and127 : ∀ n : Fin 256, bits .and .u8 (n.val : Int) 127 = ((n.val % 128 : Nat) : Int) := by decide +kernel
theorem and127_of (u : Nat) (h : u < 256) : bits .and .u8 (u : Int) 127 = ((u % 128 : Nat) : Int) := and127 ⟨u, h⟩
theorem pow7 (k : Nat) : (2 : Int) ^ (7 * k) = ((128 ^ k : Nat) : Int) := by
  rw [Int.pow_mul]; norm_cast
theorem or_sum (X y k : Nat) (hX : X < 128 ^ k) (hb : X + y * 128 ^ k < 18446744073709551616) : bits .or .u64 (X : Int) ((y * 128 ^ k : Nat) : Int) = ((X + y * 128 ^ k : Nat) : Int) := by
  have e : (128 : Nat) ^ k = 2 ^ (7 * k) := by rw [Nat.pow_mul]
  rw [bits_join_low .u64 64 (by decide) wraps_u64 (7 * k) (X : Int) ((y * 128 ^ k : Nat) : Int) (by omega) (by rw [pow7]; omega) (by omega) (by omega) (by rw [pow7]; push_cast; exact Int.mul_emod_left _ _) (by omega)]
  push_cast
  rfl
theorem tk_drop {l : List UInt8} {k : Nat} (h : k < l.length) (X : Nat) : tk (l.drop k) k X = if (l[k].toNat < 128 ∧ l[k].toNat = 0 ∧ 0 < k) ∨ (128 ≤ l[k].toNat ∧ k = 8) then ⟨0, 0, 21⟩ else if l[k].toNat < 128 then ⟨X + l[k].toNat * 128 ^ k, k + 1, 0⟩ else tk (l.drop (k + 1)) (k + 1) (X + (l[k].toNat - 128) * 128 ^ k) := by
  rw [List.drop_eq_getElem_cons h]; rfl

set_option maxHeartbeats 1000000 in
theorem num_any (D : Nat → Prop) (l : List UInt8) (dv : Value) (w : World) (hd : BytesV D w dv l) :
    Calls Try.prog 31 #[dv] w fun e w' => e = .returned (.tuple #[.int .i64 (tk l 0 0).n, .int .i64 (tk l 0 0).k, .int .i64 (tk l 0 0).e]) ∧ w = w' := by
  have HD := Lib.hid hd
  obtain ⟨a, c, rfl, hc, hcm, _, hcell⟩ := hd
  unfold maxLen at hcm
  have HC := Lib.hid hcell
  clear hcell
  go_enter Try.func31, Try.ntmps31
  go_wp2_with fail
  go_loop [5, 10] (fun x i => ∃ k X : Nat, k ≤ l.length ∧ i = .int .i64 k ∧ x = .int .u64 X ∧ X < 128 ^ k ∧ k ≤ 8 ∧ Hid (tk (l.drop k) k X = tk l 0 0)) (fun _ i => l.length - (intOf i).toNat)
  case atStart => exact ⟨0, 0, by omega, rfl, rfl, by decide, by omega, Lib.hid rfl⟩
  case round =>
    obtain ⟨k, X, hk, rfl, rfl, hX, hk8, HE⟩ := hrel
    by_cases hlt : k < l.length
    · obtain ⟨b, o, rfl, hb, _, hcell⟩ := HC.out (by omega)
      have c0 := hcell k l[k] (List.getElem?_eq_getElem hlt)
      have hu := l[k].toNat_lt
      obtain ⟨u, hu0⟩ : ∃ u, u = l[k].toNat := ⟨_, rfl⟩
      have HU := Lib.hid hu0
      unfold B8 at c0
      rw [← hu0] at c0 hu
      have k0 : (0 : Int) ≤ (k : Int) := by omega
      have k1 : (k : Int) < (l.length : Int) := by omega
      clear hcell hu0
      have h9 : (128 : Nat) ^ 8 = 72057594037927936 := by decide
      have hXb : X < 72057594037927936 := Nat.lt_of_lt_of_le hX (by rw [← h9]; exact Nat.pow_le_pow_right (by omega) hk8)
      have hp : (128 : Nat) ^ k ≤ 72057594037927936 := by rw [← h9]; exact Nat.pow_le_pow_right (by omega) hk8
      have hy : u % 128 * 128 ^ k ≤ 127 * 128 ^ k := Nat.mul_le_mul_right _ (by omega)
      have hand0 := and127_of u hu
      have hor0 := or_sum X (u % 128) k hX (by omega)
      have hps : (128 : Nat) ^ (k + 1) = 128 ^ k * 128 := Nat.pow_succ ..
      have htk := tk_drop hlt X
      rw [← HU.out] at htk
      obtain ⟨P, hP⟩ : ∃ P, P = (128 : Nat) ^ k := ⟨_, rfl⟩
      have hsh0 : IntKind.u64.wrap (((u % 128 : Nat) : Int) * 2 ^ (7 * k)) = ((u % 128 * 128 ^ k : Nat) : Int) := by
        rw [pow7, ← Int.natCast_mul]; exact wraps_u64 _ (by omega) (by omega)
      rw [← hP] at hor0 hsh0 hps hy hp htk hX
      obtain ⟨y, hy0⟩ : ∃ y, y = u % 128 := ⟨_, rfl⟩
      have hyb : y < 128 := by omega
      rw [← hy0] at hor0 hsh0 hand0 hy
      obtain ⟨Y, hY⟩ : ∃ Y, Y = y * P := ⟨_, rfl⟩
      rw [← hY] at hor0 hsh0 hy
      obtain ⟨Z, hZ⟩ : ∃ Z, Z = X + Y := ⟨_, rfl⟩
      rw [← hZ] at hor0
      have hwr : IntKind.u64.wrap (y : Int) = (y : Int) := wraps_u64 _ (by omega) (by omega)
      have hZb : Z < P * 128 := by omega
      have hZc : Z ≤ 9223372036854775807 := by omega
      have HPS := Lib.hid hps
      have HZ := Lib.hid hZ
      have HYY := Lib.hid hY
      have HY0 := Lib.hid hy0
      have HTK := Lib.hid htk
      have HPP := Lib.hid hP
      clear hps hZ hY hy0 htk hP h9
      by_cases h8 : u < 128
      · have h8i : (u : Int) < 128 := by omega
        have h8j : ¬ (128 : Int) ≤ (u : Int) := by omega
        have hyu : y = u := by rw [HY0.out]; exact Nat.mod_eq_of_lt h8
        have HYU := Lib.hid hyu
        clear hyu
        by_cases hu1 : u = 0
        · have hZX : Z = X := by rw [HZ.out, HYY.out, HYU.out, hu1]; omega
          have hor1 : bits .or .u64 (X : Int) 0 = (X : Int) := by
            have h1 := or_sum X 0 k (by rw [← HPP.out]; exact hX) (by omega)
            simpa using h1
          have hand1 : bits .and .u8 0 127 = 0 := by decide
          have hwr1 : IntKind.u64.wrap 0 = 0 := by decide
          by_cases hz : 0 < k
          · have hr : tk l 0 0 = ⟨0, 0, 21⟩ := by rw [← HE.out, HTK.out, if_pos (by omega)]
            have HR := Lib.hid hr
            have e1 : (0 : Int) < (k : Int) := by omega
            clear hz hr hand0 hwr hsh0 hor0 hZX
            subst hu1
            go_wp2_with fail
            go_ret3
            exact ⟨by rw [HR.out]; rfl, rfl⟩
          · have hr : tk l 0 0 = ⟨X, k + 1, 0⟩ := by
              rw [← HE.out, HTK.out, if_neg (by omega), if_pos h8, hu1, Nat.zero_mul]; rfl
            have HR := Lib.hid hr
            have e1 : ¬ (0 : Int) < (k : Int) := by omega
            have hXc : X ≤ 9223372036854775807 := by omega
            clear hz hr hand0 hwr hsh0 hor0 hZX
            subst hu1
            go_wp2_with fail
            go_ret3
            exact ⟨by rw [HR.out]; push_cast; rfl, rfl⟩
        · have hr : tk l 0 0 = ⟨Z, k + 1, 0⟩ := by
            rw [← HE.out, HTK.out, if_neg (by omega), if_pos h8, HZ.out, HYY.out, HYU.out]
          have HR := Lib.hid hr
          have e0 : ((u : Int) == 0) = false := by rw [beq_eq_false_iff_ne]; omega
          clear hr hu1
          go_wp2_with fail
          go_ret3
          exact ⟨by rw [HR.out]; push_cast; rfl, rfl⟩
      · have h8i : ¬ (u : Int) < 128 := by omega
        have h8j : (128 : Int) ≤ (u : Int) := by omega
        by_cases hk9 : k = 8
        · have hr : tk l 0 0 = ⟨0, 0, 21⟩ := by rw [← HE.out, HTK.out, if_pos (by omega)]
          have HR := Lib.hid hr
          have e0 : ((k : Int) == 8) = true := by rw [beq_iff_eq]; omega
          clear hk9 hr
          go_wp2_with fail
          go_ret3
          exact ⟨by rw [HR.out]; rfl, rfl⟩
        · have e0 : ((k : Int) == 8) = false := by rw [beq_eq_false_iff_ne]; omega
          have hr : tk (l.drop (k + 1)) (k + 1) Z = tk l 0 0 := by
            rw [← HE.out, HTK.out, if_neg (by omega), if_neg h8, HZ.out, HYY.out, HY0.out, show u % 128 = u - 128 from by omega]
          have HR := Lib.hid hr
          have hk7 : k + 1 ≤ 8 := by omega
          clear hk9 hr
          go_wp2_with fail
          exact ⟨⟨k + 1, Z, by omega, by push_cast; rfl, rfl, by rw [HPS.out]; exact hZb, hk7, HR⟩, by simp only [intOf]; omega⟩
    · obtain rfl : k = l.length := by omega
      have hr : tk l 0 0 = ⟨0, 0, 20⟩ := by rw [← HE.out, List.drop_length]; rfl
      have HR := Lib.hid hr
      clear hr
      go_wp2_with fail
      go_ret3
      exact ⟨by rw [HR.out]; rfl, rfl⟩
end Go.Proofs.Ytflacchpgcggnaa
