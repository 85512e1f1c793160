/- THE WALKS of Drop and Double. -/
import Derived.Test.YtdjgmgppghipkaaTake
namespace Go.Proofs.Ytdjgmgppghipkaa
open Go.RowKit

theorem drop_no (G : Nat → Prop) (p : Nat) (b : Bg) (k : Int) (w : World) (h : BagAt G w p b) (hk : k < 0 ∨ b.l.length ≤ k) :
    Calls Try.prog 26 #[.pointer (some ⟨p, 0, none⟩), .int .i64 k] w fun e w' => e = .returned (.bool false) ∧ Below w.heap.size w w' := by
  go_enter Try.func26, Try.ntmps26
  go_wp2_with fail
  refine (take_no G p b k _ h hk).mono ?_
  rintro e w1 ⟨rfl, hb⟩
  go_wp2_with fail
  go_ret
  exact ⟨rfl, hb.alloc hb.size _⟩

theorem drop_yes (G : Nat → Prop) (p : Nat) (b : Bg) (i : Nat) (q : Pkt) (w : World) (h : BagAt G w p b) (hq : b.l[i]? = some q) :
    Calls Try.prog 26 #[.pointer (some ⟨p, 0, none⟩), .int .i64 i] w fun e w' => e = .returned (.bool true) ∧ BagAt (Up G w) w' p ⟨b.l.eraseIdx i, b.sent, b.lost⟩ ∧ Mod G w w' := by
  go_enter Try.func26, Try.ntmps26
  go_wp2_with fail
  refine (take_yes G p b i q _ h hq).mono ?_
  rintro e w1 ⟨v, rfl, ⟨d, rfl, _, _⟩, hB, hM⟩
  go_wp2_with fail
  go_ret
  exact ⟨rfl, (hB.mono (fun _ _ hk => Or.inl hk.1)).below ((Below.refl _ _).alloc (Nat.le_refl _) _), hM.alloc _⟩

theorem double_gone (G : Nat → Prop) (p : Nat) (b : Bg) (k : Int) (w : World) (h : BagAt G w p b) (hk : k < 0 ∨ b.l.length ≤ k) :
    Calls Try.prog 18 #[.pointer (some ⟨p, 0, none⟩), .int .i64 k] w fun e w' => e = .returned (.int .i64 72) ∧ Below w.heap.size w w' := by
  go_enter Try.func18, Try.ntmps18
  go_wp2_with fail
  refine (look_no G p b k _ h hk).mono ?_
  rintro e w1 ⟨rfl, hb⟩
  go_wp2_with fail
  go_ret
  exact ⟨rfl, hb.alloc hb.size _⟩

theorem double_full (G : Nat → Prop) (p : Nat) (b : Bg) (i : Nat) (q : Pkt) (w : World) (h : BagAt G w p b) (hq : b.l[i]? = some q) (hf : 48 ≤ b.l.length) :
    Calls Try.prog 18 #[.pointer (some ⟨p, 0, none⟩), .int .i64 i] w fun e w' => e = .returned (.int .i64 51) ∧ Below w.heap.size w w' := by
  have hi : i < b.l.length := (List.getElem?_eq_some_iff.1 hq).1
  go_enter Try.func18, Try.ntmps18
  go_wp2_with fail
  refine (look_yes G p b i q _ h hq).mono ?_
  rintro e w1 ⟨v, rfl, ⟨d, rfl, hd, hdw⟩, hb⟩
  have hx1 := h.below hb
  obtain ⟨_, _, _, _, hhead, sv, cs, h5, h6, h7, h8⟩ := id hx1
  obtain ⟨a0, a1, a2, b0, b1, b2⟩ := blk3 h5
  obtain ⟨g, cap, rfl, hc, hm, hg, _⟩ := row_cells h6 hi
  have hp1 := hhead.2
  clear h5 h6 h7 h8 hx1
  go_wp2_with fail
  go_ret
  exact ⟨rfl, hb.alloc hb.size _⟩

set_option maxHeartbeats 2000000 in
theorem double_ok (G : Nat → Prop) (p : Nat) (b : Bg) (i : Nat) (q : Pkt) (w : World) (h : BagAt G w p b) (hq : b.l[i]? = some q) (hf : b.l.length < 48) :
    Calls Try.prog 18 #[.pointer (some ⟨p, 0, none⟩), .int .i64 i] w fun e w' => e = .returned (.int .i64 0) ∧ BagAt (Up G w) w' p ⟨b.l ++ [q], b.sent, b.lost⟩ ∧ Mod G w w' := by
  have hi : i < b.l.length := (List.getElem?_eq_some_iff.1 hq).1
  have hq200 := h.data q (List.mem_of_getElem? hq)
  go_enter Try.func18, Try.ntmps18
  go_wp2_with fail
  refine (look_yes G p b i q _ h hq).mono ?_
  rintro e w1 ⟨v, rfl, ⟨d, rfl, hd, hdw⟩, hb⟩
  have hx1 := h.below hb
  obtain ⟨_, _, _, _, hhead, sv, cs, h5, h6, h7, h8⟩ := id hx1
  obtain ⟨g, cap, rfl, hc, hm, hg, _⟩ := row_cells h6 hi
  have hB2 : Below w1.heap.size w1 (w1.alloc (.cells #[.int .i64 q.src, .int .i64 q.dst, .slice (some ⟨d, 0, none⟩) q.data.length q.data.length] 30)).drew := ((Below.refl _ _).alloc (Nat.le_refl _) _).drew
  have hM : Mid G (fun _ => False) w p b.l b.sent b.lost (.slice (some ⟨g, 0, none⟩) b.l.length cap) cs ⟨0, 0, []⟩ (.slice none 0 0) w1 := ⟨h5, h6, h8, BytesV.nil _ _, Mod.of_below hb⟩
  have HM := Lib.hid (hM.below hB2)
  have HD := Lib.hid ((hB2.block d (lt_of_heap hd)).trans hd)
  have H7 := Lib.hid h7
  obtain ⟨a0, a1, a2, b0, b1, b2⟩ := blk3 h5
  have hp1 := hhead.2
  obtain ⟨i0, hi0, hz0, hz1, hz2⟩ := info_parts Try.info30
  clear h5 h6 h7 h8 hx1 hM hd hB2
  go_wp2_with fail
  go_region_law
    ((refine step_append_lies _ (by rfl) _ _ _ (by rfl) 0 30 i0 _ 3 40 Try.underlying40 hi0 hz0 hz1 hz2 rfl (by omega) (.slice (some ⟨g, 0, none⟩) b.l.length cap) b.l.length cs (by rfl) (HM.out.own.alloc _) ⟨w1.heap.size + 1, 0, none⟩ 1 1 [.int .i64 q.src, .int .i64 q.dst, .slice (some ⟨d, 0, none⟩) q.data.length q.data.length] (by rfl) (by rfl)
        (World.news_of_block (cs := #[.int .i64 q.src, .int .i64 q.dst, .slice (some ⟨d, 0, none⟩) q.data.length q.data.length]) (t := 30) (fr := (0, 0)) (heap_at _ _ _ (by simp))) (by simp [Value.oneCell']) (by omega) (by unfold maxLen; omega) (by omega) (by omega) (w1.heap.size + 1 + 1) (by simp) ?_
      intro gg cap2 w3 hown3 hgrow hat hlt
      obtain ⟨z0, z1, z2, f0, f1, f2⟩ := blk3 (HM.out.grown hgrow)))
  all_goals
    go_wp2_with fail
    go_ret
    have R := push_bag (q := q) HM.out hhead.1 H7.out h.lows h.low hf hq200 h.data h.head.2 HD.out hdw hown3 hgrow (by
      rcases hat with e | e
      · exact Or.inl e
      · exact Or.inr (by rw [e]; show _ = (w1.alloc _).heap.size + 1; simp))
    exact ⟨rfl, R.1, R.2⟩

/-- The packets of a list that is new: the row and the bytes lie behind w. -/
def NewPkts (w w' : World) (v : Value) (l : List Pkt) : Prop := ∃ cs, w'.ownsRow w.heap.size 30 3 v l.length cs ∧ PktsC (fun k => w.heap.size ≤ k ∧ v.ownBlock ≠ some k) w' cs l
def ListPost (w : World) (l : List Pkt) (e : Ending) (w' : World) : Prop := ∃ v, e = .returned v ∧ NewPkts w w' v l ∧ Below w.heap.size w w'
end Go.Proofs.Ytdjgmgppghipkaa
