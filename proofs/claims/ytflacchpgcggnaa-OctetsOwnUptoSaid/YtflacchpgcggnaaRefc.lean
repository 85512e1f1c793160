/- THE WALK of subletref02.ReadText. -/
import Derived.Test.YtflacchpgcggnaaRefb
namespace Go.Proofs.Ytflacchpgcggnaa
open Go.RowKit

theorem tkText_err (l : List UInt8) (most : Int) (h : ¬ (tkText l most).2.2 = 0) : (tkText l most).1 = [] ∧ (tkText l most).2.1 = 0 := by
  unfold tkText tkT at h ⊢
  split
  · exact ⟨rfl, rfl⟩
  · rename_i h1
    rw [if_neg h1] at h
    split
    · exact ⟨rfl, rfl⟩
    · rename_i h2
      rw [if_neg h2] at h
      split
      · exact ⟨rfl, rfl⟩
      · rename_i h3
        rw [if_neg h3] at h
        exact absurd rfl h

set_option maxHeartbeats 400000 in
theorem readText_any (D : Nat → Prop) (r : Rd) (most : Int) (lv : Value) (w : World) (hd : BytesV D w lv r.left) :
    Calls Try.prog 22 #[.agg #[lv, .int .i64 r.err], .int .i64 most] w (RRead D w (.string (strOf (r.text most))) (r.textR most)) := by
  have HD := Lib.hid hd
  obtain ⟨a, c, rfl, hc, hcm, _⟩ := hd
  unfold maxLen at hcm
  have hk : (tkText r.left most).2.1 ≤ r.left.length := tkText_width _ _
  by_cases he : r.err = 0
  · have e0 : ((r.err : Int) != 0) = false := by rw [he]; rfl
    have hn : r.text most = (tkText r.left most).1 := by unfold Rd.text; rw [if_pos he]
    have hr : r.textR most = ⟨r.left.drop (tkText r.left most).2.1, (tkText r.left most).2.2⟩ := by unfold Rd.textR; rw [if_pos he]
    have HN := Lib.hid hn
    have HR := Lib.hid hr
    clear he hn hr
    have k0 : (0 : Int) ≤ ((tkText r.left most).2.1 : Int) := by omega
    have k1 : ((tkText r.left most).2.1 : Int) ≤ (r.left.length : Int) := by omega
    have k2 : (r.left.length : Int) ≤ (c : Int) := by omega
    by_cases hte : (tkText r.left most).2.2 = 0
    · have te : (((tkText r.left most).2.2 : Int) != 0) = false := by rw [hte]; rfl
      have HTE := Lib.hid hte
      clear hte
      go_enter Try.func22, Try.ntmps22
      go_wp2_with fail
      refine (takeText_any _ r.left _ most _ (HD.out.below (two w _ _))).mono ?_
      rintro e w1 ⟨rfl, rfl⟩
      by_cases hck : c = (tkText r.left most).2.1
      · have HCK := Lib.hid hck
        go_wp2_with fail
        go_region
        all_goals
          go_wp2_with fail
          refine bodyPost_ret (v := .tuple #[.string (strOf (tkText r.left most).1), .agg #[.slice a (r.left.length - (tkText r.left most).2.1) 0, .int .i64 0]]) (by simp [results, Try.results22, go_sem]) rfl ?_
          rw [HN.out, HR.out, HTE.out]
          exact ⟨_, _, _, rfl, (cut_end HD.out hk HCK.out).below (two_drew w _ _), two_drew w _ _⟩
      · go_wp2_with fail
        go_region
        all_goals
          go_wp2_with fail
          refine bodyPost_ret (v := .tuple #[.string (strOf (tkText r.left most).1), .agg #[.slice (Option.map (fun x => x.add (tkText r.left most).2.1) a) (r.left.length - (tkText r.left most).2.1) (c - (tkText r.left most).2.1), .int .i64 0]]) (by simp [results, Try.results22, go_sem]) rfl ?_
          rw [HN.out, HR.out, HTE.out]
          exact ⟨_, _, _, rfl, (cut_from HD.out hk).below (two_drew w _ _), two_drew w _ _⟩
    · have te : (((tkText r.left most).2.2 : Int) != 0) = true := by rw [bne_iff_ne]; omega
      have HTK := Lib.hid (tkText_err _ _ hte)
      clear hte
      go_enter Try.func22, Try.ntmps22
      go_wp2_with fail
      refine (takeText_any _ r.left _ most _ (HD.out.below (two w _ _))).mono ?_
      rintro e w1 ⟨rfl, rfl⟩
      go_wp2_with fail
      go_region
      all_goals
        go_wp2_with fail
        refine bodyPost_ret (v := .tuple #[.string ⟨#[]⟩, .agg #[.slice a r.left.length c, .int .i64 (tkText r.left most).2.2]]) (by simp [results, Try.results22, go_sem]) rfl ?_
        rw [HN.out, HR.out, HTK.out.1, HTK.out.2, List.drop_zero]
        exact ⟨_, _, _, rfl, HD.out.below (two_drew w _ _), two_drew w _ _⟩
  · have e0 : ((r.err : Int) != 0) = true := by rw [bne_iff_ne]; omega
    have hn : r.text most = [] := by unfold Rd.text; rw [if_neg he]
    have hr : r.textR most = r := by unfold Rd.textR; rw [if_neg he]
    rw [hn, hr]
    clear he hn hr
    go_enter Try.func22, Try.ntmps22
    go_wp2_with fail
    go_region
    all_goals
      go_wp2_with fail
      refine bodyPost_ret (v := .tuple #[.string ⟨#[]⟩, .agg #[.slice a r.left.length c, .int .i64 r.err]]) (by simp [results, Try.results22, go_sem]) rfl ?_
      exact ⟨_, _, _, rfl, HD.out.below (two_drew w _ _), two_drew w _ _⟩
end Go.Proofs.Ytflacchpgcggnaa
