/- THE WALKS of package bag's methods over the bag in memory. -/
import Derived.Test.YtdjgmgppghipkaaBag
namespace Go.Proofs.Ytdjgmgppghipkaa
open Go.RowKit

theorem ret_int {k : IntKind} {a b : Int} (h : a = b) : Ending.returned (.int k a) = .returned (.int k b) := by rw [h]
theorem ret_bool {a b : Bool} (h : a = b) : Ending.returned (.bool a) = .returned (.bool b) := by rw [h]
theorem below_step {w w1 w2 : World} (h : Below w.heap.size w w1) (h' : Below w1.heap.size w1 w2) : Below w.heap.size w w2 := h.trans (h'.mono h.size)

theorem new_any (w : World) : Calls Try.prog 10 #[] w fun e w' => e = .returned (.pointer (some ⟨w.heap.size, 0, none⟩)) ∧ BagAt (fun k => k = w.heap.size) w' w.heap.size ⟨[], 0, 0⟩ ∧ Below w.heap.size w w' := by
  go_enter Try.func10, Try.ntmps10
  go_wp2_with fail
  go_ret
  refine ⟨rfl, ⟨by simp, by simp, by simp, by simp, ⟨rfl, by simp⟩, .slice none 0 0, [], heap_at w _ _ rfl, World.ownsRow_nil _ _ _ _, by simp [Value.ownBlock], .nil⟩, (Below.refl _ _).alloc (Nat.le_refl _) _⟩

theorem len_any (G : Nat → Prop) (p : Nat) (b : Bg) (w : World) (h : BagAt G w p b) : Calls Try.prog 14 #[.pointer (some ⟨p, 0, none⟩)] w fun e w' => e = .returned (.int .i64 b.l.length) ∧ w = w' := by
  obtain ⟨h1, h2, h3, h3', h4, sv, cs, h5, h6, h7, h8⟩ := h
  obtain ⟨a0, a1, a2, b0, b1, b2⟩ := blk3 h5
  have hf : ∃ a c, sv = .slice a b.l.length c := by
    rcases h6.2 with ⟨h, h'⟩ | ⟨g, cap, cur, hv, _⟩
    · exact ⟨none, 0, by rw [h, h']⟩
    · exact ⟨_, _, hv⟩
  obtain ⟨a, c, rfl⟩ := hf
  clear h8 h7 h6 h5 h4 h3' b0 b1 b2
  go_enter Try.func14, Try.ntmps14
  go_wp2_with fail
  go_ret
  exact ⟨rfl, rfl⟩
theorem sent_any (G : Nat → Prop) (p : Nat) (b : Bg) (w : World) (h : BagAt G w p b) : Calls Try.prog 13 #[.pointer (some ⟨p, 0, none⟩)] w fun e w' => e = .returned (.int .i64 b.sent) ∧ w = w' := by
  obtain ⟨h1, h2, h3, h3', h4, sv, cs, h5, h6, h7, h8⟩ := h
  obtain ⟨a0, a1, a2, b0, b1, b2⟩ := blk3 h5
  clear h8 h7 h6 h5 h4 h3' b0 b1 b2
  go_enter Try.func13, Try.ntmps13
  go_wp2_with fail
  go_ret
  exact ⟨rfl, rfl⟩
theorem lost_any (G : Nat → Prop) (p : Nat) (b : Bg) (w : World) (h : BagAt G w p b) : Calls Try.prog 25 #[.pointer (some ⟨p, 0, none⟩)] w fun e w' => e = .returned (.int .i64 b.lost) ∧ w = w' := by
  obtain ⟨h1, h2, h3, h3', h4, sv, cs, h5, h6, h7, h8⟩ := h
  obtain ⟨a0, a1, a2, b0, b1, b2⟩ := blk3 h5
  clear h8 h7 h6 h5 h4 h3' b0 b1 b2
  go_enter Try.func25, Try.ntmps25
  go_wp2_with fail
  go_ret
  exact ⟨rfl, rfl⟩

theorem look_no (G : Nat → Prop) (p : Nat) (b : Bg) (k : Int) (w : World) (h : BagAt G w p b) (hk : k < 0 ∨ b.l.length ≤ k) :
    Calls Try.prog 17 #[.pointer (some ⟨p, 0, none⟩), .int .i64 k] w fun e w' => e = .returned (.tuple #[.agg #[.int .i64 0, .int .i64 0, .slice none 0 0], .bool false]) ∧ Below w.heap.size w w' := by
  rcases (show k < 0 ∨ (0 ≤ k ∧ (b.l.length : Int) ≤ k) from by omega) with hk | ⟨hk, hk'⟩
  · go_enter Try.func17, Try.ntmps17
    go_wp2_with fail
    refine bodyPost_ret (v := .tuple #[.agg #[.int .i64 0, .int .i64 0, .slice none 0 0], .bool false]) (by simp [results, Try.results17, go_sem]) rfl ⟨rfl, ?_⟩
    exact (Below.refl _ _).alloc (Nat.le_refl _) _
  · go_enter Try.func17, Try.ntmps17
    go_wp2_with fail
    refine (len_any G p b _ (h.below ((Below.refl _ _).alloc (Nat.le_refl _) _))).mono ?_
    rintro e w1 ⟨rfl, rfl⟩
    go_wp2_with fail
    refine bodyPost_ret (v := .tuple #[.agg #[.int .i64 0, .int .i64 0, .slice none 0 0], .bool false]) (by simp [results, Try.results17, go_sem]) rfl ⟨rfl, ?_⟩
    exact (Below.refl _ _).alloc (Nat.le_refl _) _

/-- v is the packet p, its bytes in a block of its own that is new. -/
def NewPkt (w w' : World) (v : Value) (p : Pkt) : Prop :=
  ∃ d, v = .agg #[.int .i64 p.src, .int .i64 p.dst, .slice (some ⟨d, 0, none⟩) p.data.length p.data.length] ∧ w'.heap[d]? = some (.cells (p.data.map B8).toArray 5 (0, 0)) ∧ w.heap.size ≤ d
def LookYes (w : World) (p : Pkt) (e : Ending) (w' : World) : Prop := ∃ v, e = .returned (.tuple #[v, .bool true]) ∧ NewPkt w w' v p ∧ Below w.heap.size w w'

/-- The row of a bag that is not empty. -/
theorem row_cells {w : World} {sv : Value} {n : Nat} {cs : List Value} {i : Nat} (h : w.ownsRow 0 30 3 sv n cs) (hi : i < n) :
    ∃ g cap, sv = .slice (some ⟨g, 0, none⟩) n cap ∧ n ≤ cap ∧ cap ≤ maxLen ∧ g < w.heap.size ∧ w.cell? ⟨g, i * 3, none⟩ = cs[i * 3]? ∧ w.cell? ⟨g, i * 3 + 1, none⟩ = cs[i * 3 + 1]? ∧ w.cell? ⟨g, i * 3 + 2, none⟩ = cs[i * 3 + 2]? := by
  have hl := h.lt
  rcases id h.2 with ⟨_, h'⟩ | ⟨g, cap, cur, rfl, _, hh, hc, hm, _⟩
  · omega
  · exact ⟨g, cap, rfl, hc, hm, (hl g rfl).2, h.cellAt (i * 3) (by omega), h.cellAt (i * 3 + 1) (by omega), h.cellAt (i * 3 + 2) (by omega)⟩

set_option maxHeartbeats 1000000 in
theorem look_yes (G : Nat → Prop) (p : Nat) (b : Bg) (i : Nat) (q : Pkt) (w : World) (h : BagAt G w p b) (hq : b.l[i]? = some q) :
    Calls Try.prog 17 #[.pointer (some ⟨p, 0, none⟩), .int .i64 i] w (LookYes w q) := by
  have hi : i < b.l.length := (List.getElem?_eq_some_iff.1 hq).1
  have hq200 := h.data q (List.mem_of_getElem? hq)
  have hsm := h.small
  have hx := h.below ((Below.refl _ _).alloc (Nat.le_refl _) (.cells #[.int .i64 0, .int .i64 0, .slice none 0 0] 30))
  obtain ⟨_, _, _, _, _, sv, cs, h5, h6, h7, h8⟩ := id hx
  obtain ⟨a0, a1, a2, b0, b1, b2⟩ := blk3 h5
  obtain ⟨g, cap, rfl, hc, hm, hg, k0, k1, k2⟩ := row_cells h6 hi
  obtain ⟨v, v1, v2, v3, v4⟩ := h8.at_ i q hq
  have c0 := k0.trans v2
  have c1 := k1.trans v3
  have c2 := k2.trans v4
  have hlt : (i : Int) < (b.l.length : Int) := by omega
  have hge : (0 : Int) ≤ (i : Int) := by omega
  have HX := Lib.hid hx
  have V1 := Lib.hid v1
  clear hx h h5 h6 h7 h8 k0 k1 k2 v1 v2 v3 v4 b0 b1 b2 hq hg
  go_enter Try.func17, Try.ntmps17
  go_wp2_with fail
  refine (len_any G p b _ HX.out).mono ?_
  rintro e w1 ⟨rfl, rfl⟩
  go_wp2_with fail
  refine (twin_any _ _ _ _ q.data _ V1.out (by omega)).mono ?_
  rintro e w1 ⟨rfl, hh, hb⟩
  obtain ⟨d0, d1, d2, e0, e1, e2⟩ := blk3 ((hb.block w.heap.size (by simp)).trans (heap_at w _ _ rfl))
  go_wp2_with fail
  refine bodyPost_ret (v := .tuple #[.agg #[.int .i64 q.src, .int .i64 q.dst, .slice (some ⟨w.heap.size + 1 + 2, 0, none⟩) q.data.length q.data.length], .bool true]) (by simp [results, Try.results17, go_sem, d0, d1, d2]) rfl ⟨_, rfl, ⟨_, rfl, ?_, ?_⟩, ?_⟩
  · exact blk_far (blk_far (blk_far (by simpa using hh) (by simp <;> omega) _) (by simp <;> omega) _) (by simp <;> omega) _
  · omega
  · exact (((((Below.refl _ _).alloc (Nat.le_refl _) _).trans (hb.mono (by simp))).setCell (by simp) _).setCell (by simp) _).setCell (by simp) _
end Go.Proofs.Ytdjgmgppghipkaa
