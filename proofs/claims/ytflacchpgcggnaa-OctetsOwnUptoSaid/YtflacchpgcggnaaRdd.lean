/- THE WALK of the reader's Text. -/
import Derived.Test.YtflacchpgcggnaaRdc
namespace Go.Proofs.Ytflacchpgcggnaa
open Go.RowKit

theorem tkText_width (l : List UInt8) (most : Int) : (tkText l most).2.1 ≤ l.length := by
  have h := tk_width l 0 0
  unfold tkText tkT
  split
  · exact Nat.zero_le _
  · split
    · exact Nat.zero_le _
    · split
      · exact Nat.zero_le _
      · rename_i h1 h2 h3
        have := (h (by omega)).2.1
        simp only
        omega

theorem cut_to_end {D : Nat → Prop} {w : World} {a : Option Addr} {n c k : Nat} {l : List UInt8} (h : BytesV D w (.slice a l.length c) l) (hk : k + n ≤ l.length) (hck : c = k) : BytesV D w (.slice a n 0) ((l.drop k).take n) := by
  have hc : l.length ≤ c := by obtain ⟨_, _, e, h2, _⟩ := h; injection e with _ _ e; omega
  obtain rfl : n = 0 := by omega
  rw [List.take_zero]
  exact ⟨a, 0, rfl, Nat.le_refl _, Nat.zero_le _, fun _ => rfl, fun h => absurd h (by simp)⟩

set_option maxHeartbeats 2000000 in
theorem rtext_any (G : Nat → Prop) (p : Nat) (r : Rd) (most : Int) (w : World) (h : RdAt G w p r) :
    Calls Try.prog 21 #[.pointer (some ⟨p, 0, none⟩), .int .i64 most] w fun e w' => e = .returned (.string (strOf (r.text most))) ∧ RdAt G w' p (r.textR most) ∧ Mod G w w' := by
  have H := Lib.hid h
  obtain ⟨⟨hG, hp⟩, sv, h1, h2⟩ := h
  obtain ⟨a0, a1, b0, b1⟩ := blk2 h1
  have H1 := Lib.hid h1
  have H2 := Lib.hid h2
  have hb := tk_bound r.left 0 0 (by omega) (by omega)
  obtain ⟨a, c, rfl, hc, hcm, _⟩ := h2
  unfold maxLen at hcm
  clear h1
  by_cases he : r.err = 0
  · have e0 : ((r.err : Int) != 0) = false := by rw [he]; rfl
    have hn : r.text most = (tkText r.left most).1 := by unfold Rd.text; rw [if_pos he]
    have hr : r.textR most = ⟨r.left.drop (tkText r.left most).2.1, (tkText r.left most).2.2⟩ := by unfold Rd.textR; rw [if_pos he]
    have HN := Lib.hid hn
    have HR := Lib.hid hr
    have HE0 := Lib.hid he
    clear he hn hr
    by_cases hte : (tk r.left 0 0).e = 0
    · have hw := tk_width r.left 0 0 hte
      obtain ⟨hw1, hw2, -⟩ := hw
      have te : (((tk r.left 0 0).e : Int) != 0) = false := by rw [hte]; rfl
      have HTE := Lib.hid hte
      clear hte
      have k0 : (0 : Int) ≤ ((tk r.left 0 0).k : Int) := by omega
      have k1 : ((tk r.left 0 0).k : Int) ≤ (r.left.length : Int) := by omega
      have k2 : (r.left.length : Int) ≤ (c : Int) := by omega
      have n0 : (0 : Int) ≤ ((tk r.left 0 0).n : Int) := by omega
      obtain ⟨M, hM⟩ : ∃ M, M = (max most 0).toNat := ⟨_, rfl⟩
      have HTM := Lib.hid (show tkText r.left most = tkT r.left M by rw [hM]; rfl)
      rcases (show (∃ m : Nat, most = m) ∨ most < 0 from by by_cases h : most < 0; exact Or.inr h; exact Or.inl ⟨most.toNat, by omega⟩) with ⟨m, rfl⟩ | hlt
      all_goals
        by_cases hnm : M < (tk r.left 0 0).n
        · have ht : tkT r.left M = ([], 0, 21) := by unfold tkT; rw [if_neg (by have := HTE.out; omega), if_pos hnm]
          have HT := Lib.hid ht
          have hi := hnm
          rw [hM] at hi
          first
            | (have hi2 : (m : Int) < ((tk r.left 0 0).n : Int) := by omega)
            | (have hi2 : (0 : Int) < ((tk r.left 0 0).n : Int) := by omega)
          clear ht hnm hi hM
          go_enter Try.func21, Try.ntmps21
          go_wp2_with fail
          refine (num_any _ r.left _ w H2.out).mono ?_
          rintro e w1 ⟨rfl, rfl⟩
          go_wp2_with fail
          go_ret
          rw [HN.out, HR.out, HTM.out, HT.out]
          exact ⟨rfl, RdAt.done1 hG H1.out H2.out⟩
        · by_cases hnl : r.left.length - (tk r.left 0 0).k < (tk r.left 0 0).n
          · try (exfalso; omega)
            all_goals
              have ht : tkT r.left M = ([], 0, 20) := by unfold tkT; rw [if_neg (by have := HTE.out; omega), if_neg hnm, if_pos hnl]
              have HT := Lib.hid ht
              have hi := hnm
              rw [hM] at hi
              first
                | (have hi2 : ¬ (m : Int) < ((tk r.left 0 0).n : Int) := by omega)
                | (have hi2 : ¬ (0 : Int) < ((tk r.left 0 0).n : Int) := by omega)
              have hi3 : (r.left.length : Int) - ((tk r.left 0 0).k : Int) < ((tk r.left 0 0).n : Int) := by omega
              clear ht hnm hi hM hnl
              go_enter Try.func21, Try.ntmps21
              go_wp2_with fail
              refine (num_any _ r.left _ w H2.out).mono ?_
              rintro e w1 ⟨rfl, rfl⟩
              go_wp2_with fail
              go_ret
              rw [HN.out, HR.out, HTM.out, HT.out]
              exact ⟨rfl, RdAt.done1 hG H1.out H2.out⟩
          · have ht : tkT r.left M = ((r.left.drop (tk r.left 0 0).k).take (tk r.left 0 0).n, (tk r.left 0 0).k + (tk r.left 0 0).n, 0) := by unfold tkT; rw [if_neg (by have := HTE.out; omega), if_neg hnm, if_neg hnl]
            have HT := Lib.hid ht
            have hi := hnm
            rw [hM] at hi
            first
              | (have hi2 : ¬ (m : Int) < ((tk r.left 0 0).n : Int) := by omega)
              | (have hi2 : ¬ (0 : Int) < ((tk r.left 0 0).n : Int) := by omega)
            have hi3 : ¬ (r.left.length : Int) - ((tk r.left 0 0).k : Int) < ((tk r.left 0 0).n : Int) := by omega
            have hi4 : ((tk r.left 0 0).k : Int) + ((tk r.left 0 0).n : Int) ≤ (r.left.length : Int) := by omega
            have hi5 : (tk r.left 0 0).k + (tk r.left 0 0).n ≤ r.left.length := by omega
            clear ht hnm hi hM hnl
            go_enter Try.func21, Try.ntmps21
            go_wp2_with fail
            refine (num_any _ r.left _ w H2.out).mono ?_
            rintro e w1 ⟨rfl, rfl⟩
            by_cases hck : c = (tk r.left 0 0).k
            · have HCK := Lib.hid hck
              have hcv := (cut_to_end H2.out hi5 hck).string 22 9 5 Try.underlying22 Try.underlying5 Try.underlying9 (w' := w) (fun _ _ _ => rfl)
              go_wp2_with fail
              all_goals
                go_ret
                rw [HN.out, HR.out, HTM.out, HT.out]
                first
                  | (refine ⟨rfl, ?_⟩; have R := RdAt.done0 hG H1.out (cut_end H2.out hi5 (by have := HCK.out; omega)); rw [HE0.out] at R; exact R)
                  | (refine ⟨rfl, ?_⟩; have R := RdAt.done0 hG H1.out (cut_from H2.out hi5); rw [HE0.out] at R; exact R)
            · have hcv := (cut_to H2.out hi5).string 22 9 5 Try.underlying22 Try.underlying5 Try.underlying9 (w' := w) (fun _ _ _ => rfl)
              go_wp2_with fail
              all_goals
                go_ret
                rw [HN.out, HR.out, HTM.out, HT.out]
                first
                  | (refine ⟨rfl, ?_⟩; have R := RdAt.done0 hG H1.out (cut_end H2.out hi5 (by assumption)); rw [HE0.out] at R; exact R)
                  | (refine ⟨rfl, ?_⟩; have R := RdAt.done0 hG H1.out (cut_from H2.out hi5); rw [HE0.out] at R; exact R)
    · have te : (((tk r.left 0 0).e : Int) != 0) = true := by rw [bne_iff_ne]; omega
      have ht : tkText r.left most = ([], 0, (tk r.left 0 0).e) := by unfold tkText tkT; rw [if_pos hte]
      have HT := Lib.hid ht
      clear ht hte
      go_enter Try.func21, Try.ntmps21
      go_wp2_with fail
      refine (num_any _ r.left _ w H2.out).mono ?_
      rintro e w1 ⟨rfl, rfl⟩
      go_wp2_with fail
      go_ret
      rw [HN.out, HR.out, HT.out]
      exact ⟨rfl, RdAt.done1 hG H1.out H2.out⟩
  · have e0 : ((r.err : Int) != 0) = true := by rw [bne_iff_ne]; omega
    have hn : r.text most = [] := by unfold Rd.text; rw [if_neg he]
    have hr : r.textR most = r := by unfold Rd.textR; rw [if_neg he]
    rw [hn, hr]
    clear he hn hr
    go_enter Try.func21, Try.ntmps21
    go_wp2_with fail
    go_ret
    exact ⟨rfl, H.out, Mod.refl _ _⟩
end Go.Proofs.Ytflacchpgcggnaa
