/- THE WALKS of subletref02: ReadNum, ReadText. -/
import Derived.Test.YtflacchpgcggnaaRef
namespace Go.Proofs.Ytflacchpgcggnaa
open Go.RowKit

/-- What ReadNum and ReadText answer: a value, the reader behind it; its bytes lie where those of the first lay. -/
def RRead (D : Nat → Prop) (w : World) (v : Value) (r : Rd) (e : Ending) (w' : World) : Prop :=
  ∃ a n c, e = .returned (.tuple #[v, .agg #[.slice a n c, .int .i64 r.err]]) ∧ BytesV D w' (.slice a n c) r.left ∧ Below w.heap.size w w'
theorem two (w : World) (o1 o2 : Obj) : Below w.heap.size w ((w.alloc o1).alloc o2) := ((Below.refl _ _).alloc (Nat.le_refl _) _).alloc (by simp) _
theorem two_drew (w : World) (o1 o2 : Obj) : Below w.heap.size w ((w.alloc o1).alloc o2).drew := (two w o1 o2).drew

set_option maxHeartbeats 400000 in
theorem readNum_any (D : Nat → Prop) (r : Rd) (lv : Value) (w : World) (hd : BytesV D w lv r.left) :
    Calls Try.prog 23 #[.agg #[lv, .int .i64 r.err]] w (RRead D w (.int .i64 r.num) r.numR) := by
  have HD := Lib.hid hd
  obtain ⟨a, c, rfl, hc, hcm, _⟩ := hd
  unfold maxLen at hcm
  have hk : (tk r.left 0 0).k ≤ r.left.length := by
    rcases tk_err r.left 0 0 with h | h
    · have := (tk_width r.left 0 0 h).2.1; omega
    · omega
  by_cases he : r.err = 0
  · have e0 : ((r.err : Int) != 0) = false := by rw [he]; rfl
    have hn : r.num = (tk r.left 0 0).n := by unfold Rd.num; rw [if_pos he]
    have hr : r.numR = ⟨r.left.drop (tk r.left 0 0).k, (tk r.left 0 0).e⟩ := by unfold Rd.numR; rw [if_pos he]
    have HN := Lib.hid hn
    have HR := Lib.hid hr
    clear he hn hr
    have k0 : (0 : Int) ≤ ((tk r.left 0 0).k : Int) := by omega
    have k1 : ((tk r.left 0 0).k : Int) ≤ (r.left.length : Int) := by omega
    have k2 : (r.left.length : Int) ≤ (c : Int) := by omega
    by_cases hte : (tk r.left 0 0).e = 0
    · have te : (((tk r.left 0 0).e : Int) != 0) = false := by rw [hte]; rfl
      have HTE := Lib.hid hte
      clear hte
      go_enter Try.func23, Try.ntmps23
      go_wp2_with fail
      refine (takeNum_any _ r.left _ _ (HD.out.below (two w _ _))).mono ?_
      rintro e w1 ⟨rfl, rfl⟩
      by_cases hck : c = (tk r.left 0 0).k
      · have HCK := Lib.hid hck
        go_wp2_with fail
        go_region
        all_goals
          go_wp2_with fail
          refine bodyPost_ret (v := .tuple #[.int .i64 (tk r.left 0 0).n, .agg #[.slice a (r.left.length - (tk r.left 0 0).k) 0, .int .i64 0]]) (by simp [results, Try.results23, go_sem]) rfl ?_
          rw [HN.out, HR.out, HTE.out]
          exact ⟨_, _, _, rfl, (cut_end HD.out hk HCK.out).below (two_drew w _ _), two_drew w _ _⟩
      · go_wp2_with fail
        go_region
        all_goals
          go_wp2_with fail
          refine bodyPost_ret (v := .tuple #[.int .i64 (tk r.left 0 0).n, .agg #[.slice (Option.map (fun x => x.add (tk r.left 0 0).k) a) (r.left.length - (tk r.left 0 0).k) (c - (tk r.left 0 0).k), .int .i64 0]]) (by simp [results, Try.results23, go_sem]) rfl ?_
          rw [HN.out, HR.out, HTE.out]
          exact ⟨_, _, _, rfl, (cut_from HD.out hk).below (two_drew w _ _), two_drew w _ _⟩
    · have te : (((tk r.left 0 0).e : Int) != 0) = true := by rw [bne_iff_ne]; omega
      have HTK := Lib.hid ((tk_err r.left 0 0).resolve_left hte).2
      clear hte
      go_enter Try.func23, Try.ntmps23
      go_wp2_with fail
      refine (takeNum_any _ r.left _ _ (HD.out.below (two w _ _))).mono ?_
      rintro e w1 ⟨rfl, rfl⟩
      go_wp2_with fail
      go_region
      all_goals
        go_wp2_with fail
        refine bodyPost_ret (v := .tuple #[.int .i64 0, .agg #[.slice a r.left.length c, .int .i64 (tk r.left 0 0).e]]) (by simp [results, Try.results23, go_sem]) rfl ?_
        rw [HN.out, HR.out, HTK.out.1, HTK.out.2, List.drop_zero]
        exact ⟨_, _, _, rfl, HD.out.below (two_drew w _ _), two_drew w _ _⟩
  · have e0 : ((r.err : Int) != 0) = true := by rw [bne_iff_ne]; omega
    have hn : r.num = 0 := by unfold Rd.num; rw [if_neg he]
    have hr : r.numR = r := by unfold Rd.numR; rw [if_neg he]
    rw [hn, hr]
    clear he hn hr
    go_enter Try.func23, Try.ntmps23
    go_wp2_with fail
    go_region
    all_goals
      go_wp2_with fail
      refine bodyPost_ret (v := .tuple #[.int .i64 0, .agg #[.slice a r.left.length c, .int .i64 r.err]]) (by simp [results, Try.results23, go_sem]) rfl ?_
      exact ⟨_, _, _, rfl, HD.out.below (two_drew w _ _), two_drew w _ _⟩
end Go.Proofs.Ytflacchpgcggnaa
