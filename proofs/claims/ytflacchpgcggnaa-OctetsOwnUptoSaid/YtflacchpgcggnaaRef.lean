/- THE WALKS of subletref02: TakeNum, TakeText, Sum, Four, OfFour. -/
import Derived.Test.YtflacchpgcggnaaOc
namespace Go.Proofs.Ytflacchpgcggnaa
open Go.RowKit

set_option maxRecDepth 100000 in
set_option maxHeartbeats 1000000 in
theorem takeNum_any (D : Nat → Prop) (l : List UInt8) (dv : Value) (w : World) (hd : BytesV D w dv l) :
    Calls Try.prog 33 #[dv] w fun e w' => e = .returned (.tuple #[.int .i64 (tk l 0 0).n, .int .i64 (tk l 0 0).k, .int .i64 (tk l 0 0).e]) ∧ w = w' := by
  obtain ⟨a, c, rfl, hc, hcm, _, hcell⟩ := hd
  unfold maxLen at hcm
  have HC := Lib.hid hcell
  clear hcell
  go_enter Try.func33, Try.ntmps33
  go_wp2_with fail
  go_loop [5, 6, 7] (fun x u i => ∃ k X U : Nat, k ≤ l.length ∧ i = .int .i64 k ∧ x = .int .i64 X ∧ u = .int .i64 U ∧ Hid (U = 128 ^ k) ∧ X < U ∧ U ≤ 72057594037927936 ∧ k ≤ 8 ∧ Hid (tk (l.drop k) k X = tk l 0 0)) (fun _ _ i => 9 - (intOf i).toNat)
  case atStart => exact ⟨0, 0, 1, by omega, rfl, rfl, rfl, Lib.hid rfl, by omega, by omega, by omega, Lib.hid rfl⟩
  case round =>
    obtain ⟨k, X, U, hk, rfl, rfl, rfl, HU, hX, hUb, hk8, HE⟩ := hrel
    have k0 : (0 : Int) ≤ (k : Int) := by omega
    have k9 : (k : Int) < 9 := by omega
    by_cases hlt : k < l.length
    · obtain ⟨b, o, rfl, hb, _, hcell⟩ := HC.out (by omega)
      have c0 := hcell k l[k] (List.getElem?_eq_getElem hlt)
      have hu := l[k].toNat_lt
      have htk := tk_drop hlt X
      obtain ⟨y, hy0⟩ : ∃ y, y = l[k].toNat := ⟨_, rfl⟩
      unfold B8 at c0
      rw [← hy0] at c0 hu htk
      rw [← HU.out] at htk
      have HTK := Lib.hid htk
      have hy0i : (0 : Int) ≤ (y : Int) := by omega
      have hy1i : (y : Int) < 256 := by omega
      have k1 : (k : Int) < (l.length : Int) := by omega
      clear hcell hy0 htk
      by_cases h8 : y < 128
      · have h8i : (y : Int) < 128 := by omega
        have hYb : y * U ≤ 127 * U := Nat.mul_le_mul_right _ (by omega)
        obtain ⟨Y, hY⟩ : ∃ Y, Y = y * U := ⟨_, rfl⟩
        rw [← hY] at hYb
        have hmul : IntKind.i64.wrap ((y : Int) * (U : Int)) = (Y : Int) := by
          rw [← Int.natCast_mul, ← hY]; exact IntWalk.i64_in _ (by omega)
        have HY := Lib.hid hY
        clear hY
        by_cases hu1 : y = 0
        · have e0 : ((y : Int) == 0) = true := by rw [beq_iff_eq]; omega
          by_cases hz : 0 < k
          · have hr : tk l 0 0 = ⟨0, 0, 21⟩ := by rw [← HE.out, HTK.out, if_pos (by omega)]
            have HR := Lib.hid hr
            have e1 : (0 : Int) < (k : Int) := by omega
            clear hz hr hmul
            subst hu1
            go_wp2_with fail
            go_ret3
            exact ⟨by rw [HR.out]; rfl, rfl⟩
          · have hr : tk l 0 0 = ⟨X, k + 1, 0⟩ := by
              rw [← HE.out, HTK.out, if_neg (by omega), if_pos h8, hu1, Nat.zero_mul]; rfl
            have HR := Lib.hid hr
            have e1 : ¬ (0 : Int) < (k : Int) := by omega
            clear hz hr hmul
            subst hu1
            go_wp2_with fail
            go_ret3
            exact ⟨by rw [HR.out]; push_cast; rfl, rfl⟩
        · have hr : tk l 0 0 = ⟨X + Y, k + 1, 0⟩ := by
            rw [← HE.out, HTK.out, if_neg (by omega), if_pos h8, HY.out]
          have HR := Lib.hid hr
          have e0 : ((y : Int) == 0) = false := by rw [beq_eq_false_iff_ne]; omega
          clear hr hu1
          go_wp2_with fail
          go_ret3
          exact ⟨by rw [HR.out]; push_cast; rfl, rfl⟩
      · have h8i : ¬ (y : Int) < 128 := by omega
        by_cases hk9 : k = 8
        · have hr : tk l 0 0 = ⟨0, 0, 21⟩ := by rw [← HE.out, HTK.out, if_pos (by omega)]
          have HR := Lib.hid hr
          have e0 : ((k : Int) == 8) = true := by rw [beq_iff_eq]; omega
          clear hk9 hr
          go_wp2_with fail
          go_ret3
          exact ⟨by rw [HR.out]; rfl, rfl⟩
        · have e0 : ((k : Int) == 8) = false := by rw [beq_eq_false_iff_ne]; omega
          have hYb : (y - 128) * U ≤ 127 * U := Nat.mul_le_mul_right _ (by omega)
          obtain ⟨Y, hY⟩ : ∃ Y, Y = (y - 128) * U := ⟨_, rfl⟩
          rw [← hY] at hYb
          have hmul : IntKind.i64.wrap (((y : Int) - 128) * (U : Int)) = (Y : Int) := by
            rw [show ((y : Int) - 128) = ((y - 128 : Nat) : Int) from by omega, ← Int.natCast_mul, ← hY]; exact IntWalk.i64_in _ (by omega)
          have hr : tk (l.drop (k + 1)) (k + 1) (X + Y) = tk l 0 0 := by
            rw [← HE.out, HTK.out, if_neg (by omega), if_neg h8, hY]
          have HR := Lib.hid hr
          have hU1 : U * 128 = 128 ^ (k + 1) := by rw [HU.out, Nat.pow_succ]
          have HU1 := Lib.hid hU1
          have hk7 : k + 1 ≤ 8 := by omega
          have hU7 : U * 128 ≤ 72057594037927936 := by
            rw [hU1]
            have : (128 : Nat) ^ (k + 1) ≤ 128 ^ 8 := Nat.pow_le_pow_right (by omega) hk7
            have h9 : (128 : Nat) ^ 8 = 72057594037927936 := by decide
            omega
          clear hk9 hr hY hU1
          go_wp2_with fail
          exact ⟨⟨k + 1, X + Y, U * 128, by omega, by push_cast; rfl, by push_cast; rfl, by push_cast; rfl, HU1, by omega, hU7, hk7, HR⟩, by simp only [intOf]; omega⟩
    · obtain rfl : k = l.length := by omega
      have hr : tk l 0 0 = ⟨0, 0, 20⟩ := by rw [← HE.out, List.drop_length]; rfl
      have HR := Lib.hid hr
      clear hr
      go_wp2_with fail
      go_ret3
      exact ⟨by rw [HR.out]; rfl, rfl⟩

set_option maxHeartbeats 2000000 in
theorem takeText_any (D : Nat → Prop) (l : List UInt8) (dv : Value) (most : Int) (w : World) (hd : BytesV D w dv l) :
    Calls Try.prog 32 #[dv, .int .i64 most] w fun e w' => e = .returned (.tuple #[.string (strOf (tkText l most).1), .int .i64 (tkText l most).2.1, .int .i64 (tkText l most).2.2]) ∧ w = w' := by
  have H2 := Lib.hid hd
  have hb := tk_bound l 0 0 (by omega) (by omega)
  obtain ⟨a, c, rfl, hc, hcm, _⟩ := hd
  unfold maxLen at hcm
  by_cases hte : (tk l 0 0).e = 0
  · have hw := tk_width l 0 0 hte
    obtain ⟨hw1, hw2, -⟩ := hw
    have te : (((tk l 0 0).e : Int) != 0) = false := by rw [hte]; rfl
    have HTE := Lib.hid hte
    clear hte
    have k0 : (0 : Int) ≤ ((tk l 0 0).k : Int) := by omega
    have k1 : ((tk l 0 0).k : Int) ≤ (l.length : Int) := by omega
    have k2 : (l.length : Int) ≤ (c : Int) := by omega
    have n0 : (0 : Int) ≤ ((tk l 0 0).n : Int) := by omega
    obtain ⟨M, hM⟩ : ∃ M, M = (max most 0).toNat := ⟨_, rfl⟩
    have HTM := Lib.hid (show tkText l most = tkT l M by rw [hM]; rfl)
    rcases (show (∃ m : Nat, most = m) ∨ most < 0 from by by_cases h : most < 0; exact Or.inr h; exact Or.inl ⟨most.toNat, by omega⟩) with ⟨m, rfl⟩ | hlt
    all_goals
      first | (have hmm : ¬ (m : Int) < 0 := by omega) | skip
      by_cases hnm : M < (tk l 0 0).n
      · have ht : tkT l M = ([], 0, 21) := by unfold tkT; rw [if_neg (by have := HTE.out; omega), if_pos hnm]
        have HT := Lib.hid ht
        have hi := hnm
        rw [hM] at hi
        first
          | (have hi2 : (m : Int) < ((tk l 0 0).n : Int) := by omega)
          | (have hi2 : (0 : Int) < ((tk l 0 0).n : Int) := by omega)
        clear ht hnm hi hM
        go_enter Try.func32, Try.ntmps32
        go_wp2_with fail
        refine (takeNum_any _ l _ w H2.out).mono ?_
        rintro e w1 ⟨rfl, rfl⟩
        go_wp2_with fail
        go_ret3
        exact ⟨by rw [HTM.out, HT.out]; rfl, rfl⟩
      · by_cases hnl : l.length - (tk l 0 0).k < (tk l 0 0).n
        · try (exfalso; omega)
          all_goals
            have ht : tkT l M = ([], 0, 20) := by unfold tkT; rw [if_neg (by have := HTE.out; omega), if_neg hnm, if_pos hnl]
            have HT := Lib.hid ht
            have hi := hnm
            rw [hM] at hi
            first
              | (have hi2 : ¬ (m : Int) < ((tk l 0 0).n : Int) := by omega)
              | (have hi2 : ¬ (0 : Int) < ((tk l 0 0).n : Int) := by omega)
            have hi3 : (l.length : Int) - ((tk l 0 0).k : Int) < ((tk l 0 0).n : Int) := by omega
            clear ht hnm hi hM hnl
            go_enter Try.func32, Try.ntmps32
            go_wp2_with fail
            refine (takeNum_any _ l _ w H2.out).mono ?_
            rintro e w1 ⟨rfl, rfl⟩
            go_wp2_with fail
            go_ret3
            exact ⟨by rw [HTM.out, HT.out]; rfl, rfl⟩
        · have ht : tkT l M = ((l.drop (tk l 0 0).k).take (tk l 0 0).n, (tk l 0 0).k + (tk l 0 0).n, 0) := by unfold tkT; rw [if_neg (by have := HTE.out; omega), if_neg hnm, if_neg hnl]
          have HT := Lib.hid ht
          have hi := hnm
          rw [hM] at hi
          first
            | (have hi2 : ¬ (m : Int) < ((tk l 0 0).n : Int) := by omega)
            | (have hi2 : ¬ (0 : Int) < ((tk l 0 0).n : Int) := by omega)
          have hi3 : ¬ (l.length : Int) - ((tk l 0 0).k : Int) < ((tk l 0 0).n : Int) := by omega
          have hi4 : ((tk l 0 0).k : Int) + ((tk l 0 0).n : Int) ≤ (l.length : Int) := by omega
          have hi5 : (tk l 0 0).k + (tk l 0 0).n ≤ l.length := by omega
          clear ht hnm hi hM hnl
          go_enter Try.func32, Try.ntmps32
          go_wp2_with fail
          refine (takeNum_any _ l _ w H2.out).mono ?_
          rintro e w1 ⟨rfl, rfl⟩
          by_cases hck : c = (tk l 0 0).k
          · have HCK := Lib.hid hck
            have hcv := (cut_to_end H2.out hi5 hck).string 22 9 5 Try.underlying22 Try.underlying5 Try.underlying9 (w' := w) (fun _ _ _ => rfl)
            go_wp2_with fail
            all_goals
              go_ret3
              exact ⟨by rw [HTM.out, HT.out]; push_cast; rfl, rfl⟩
          · have hcv := (cut_to H2.out hi5).string 22 9 5 Try.underlying22 Try.underlying5 Try.underlying9 (w' := w) (fun _ _ _ => rfl)
            go_wp2_with fail
            all_goals
              go_ret3
              exact ⟨by rw [HTM.out, HT.out]; push_cast; rfl, rfl⟩
  · have te : (((tk l 0 0).e : Int) != 0) = true := by rw [bne_iff_ne]; omega
    have ht : tkText l most = ([], 0, (tk l 0 0).e) := by unfold tkText tkT; rw [if_pos hte]
    have HT := Lib.hid ht
    clear ht hte
    go_enter Try.func32, Try.ntmps32
    go_wp2_with fail
    refine (takeNum_any _ l _ w H2.out).mono ?_
    rintro e w1 ⟨rfl, rfl⟩
    go_wp2_with fail
    go_ret3
    exact ⟨by rw [HT.out]; rfl, rfl⟩
end Go.Proofs.Ytflacchpgcggnaa
