/- THE WALK of BagNil. -/
import Derived.Test.YtdjgmgppghipkaaNil
namespace Go.Proofs.Ytdjgmgppghipkaa
open Go.RowKit

theorem same_zero (w : World) : Calls Try.prog 20 #[.agg #[.int .i64 0, .int .i64 0, .slice none 0 0], .agg #[.int .i64 0, .int .i64 0, .slice none 0 0]] w fun e w' => e = .returned (.bool true) ∧ Below w.heap.size w w' :=
  same_any (fun _ => True) (fun _ => True) ⟨0, 0, []⟩ ⟨0, 0, []⟩ _ _ w (BytesV.nil _ _) (BytesV.nil _ _)

set_option maxHeartbeats 4000000 in
theorem bagNil_any (D : Nat → Prop) (q : Pkt) (dv : Value) (k : Int) (w : World) (hd : BytesV D w dv q.data) (hl : q.data.length ≤ 140737488355328) :
    Calls Try.prog 8 #[.agg #[.int .i64 q.src, .int .i64 q.dst, dv], .int .i64 k] w fun e w' => e = .returned (.bool true) ∧ Below w.heap.size w w' := by
  have HD := Lib.hid hd
  obtain ⟨a, c, rfl, _⟩ := hd
  go_enter Try.func8, Try.ntmps8
  go_wp2_with fail
  refine (awake_any _).mono ?_
  rintro e w1 ⟨rfl, hb1⟩
  have B1 : Below w.heap.size w w1 := below_step ((Below.refl _ _).alloc (Nat.le_refl _) _) hb1
  have h1 : w.heap.size < w1.heap.size := Nat.lt_of_lt_of_le (by simp) hb1.size
  have x1 := (hb1.block w.heap.size (by simp)).trans (heap_at w _ _ rfl)
  go_wp2_with fail
  refine (nil_take k _).mono ?_
  rintro e w2 ⟨rfl, hb2⟩
  go_wp2_with fail
  refine (nil_look k _).mono ?_
  rintro e w3 ⟨rfl, hb3⟩
  have h2 := hb2.size
  have h3 : w2.heap.size < w3.heap.size := Nat.lt_of_lt_of_le (by simp) hb3.size
  have x2 := (hb3.block w.heap.size (by simp; omega)).trans (blk_alloc ((hb2.block w.heap.size h1).trans x1) _)
  have y2 := (hb3.block w2.heap.size (by simp)).trans (heap_at w2 _ _ rfl)
  obtain ⟨a0, a1, a2, -, -, -⟩ := blk3 (blk_alloc x2 (.cells #[.int .i64 0, .int .i64 0, .slice none 0 0] 30))
  have y3 := blk_alloc y2 (.cells #[.int .i64 0, .int .i64 0, .slice none 0 0] 30)
  have z3 := heap_at w3 (.cells #[.int .i64 0, .int .i64 0, .slice none 0 0] 30) _ rfl
  have B3 : Below w.heap.size w (w3.alloc (.cells #[.int .i64 0, .int .i64 0, .slice none 0 0] 30)) :=
    (below_step ((B1.trans (hb2.mono B1.size)).alloc (by omega) _) hb3).alloc (by omega) _
  have HB3 := Lib.hid B3
  have HY3 := Lib.hid y3
  have HZ3 := Lib.hid z3
  clear x1 x2 y2 y3 z3
  go_wp2_with fail
  refine (own_any D q _ _ (HD.out.below HB3.out) hl).mono ?_
  rintro e w4 ⟨v4, rfl, hd4, hb4⟩
  go_wp2_with fail
  refine (nil_send _ _ _ _ _ _ hd4).mono ?_
  rintro e w5 ⟨rfl, hb5⟩
  go_wp2_with fail
  refine (nil_double k _).mono ?_
  rintro e w6 ⟨rfl, rfl⟩
  have h4 := hb4.size
  have h5 := hb5.size
  have y5 := (hb5.block w2.heap.size (by simp at h4; omega)).trans ((hb4.block w2.heap.size (by simp; omega)).trans HY3.out)
  have z5 := (hb5.block w3.heap.size (by simp at h4; omega)).trans ((hb4.block w3.heap.size (by simp)).trans HZ3.out)
  obtain ⟨b0, b1, b2, -, -, -⟩ := blk3 y5
  have B5 := (below_step HB3.out hb4).trans (hb5.mono (by have := (below_step HB3.out hb4).size; exact this))
  go_wp2_with fail
  refine (same_zero _).mono ?_
  rintro e w7 ⟨rfl, hb7⟩
  obtain ⟨c0, c1, c2, -, -, -⟩ := blk3 ((hb7.block w3.heap.size (by simp at h4; omega)).trans z5)
  go_wp2_with fail
  refine (same_zero _).mono ?_
  rintro e w8 ⟨rfl, hb8⟩
  go_wp2_with fail
  refine (nil_drop k _).mono ?_
  rintro e w9 ⟨rfl, hb9⟩
  go_wp2_with fail
  refine (nil_len _).mono ?_
  rintro e w10 ⟨rfl, rfl⟩
  go_wp2_with fail
  refine (nil_sent _).mono ?_
  rintro e w10 ⟨rfl, rfl⟩
  go_wp2_with fail
  refine (nil_lost _).mono ?_
  rintro e w10 ⟨rfl, rfl⟩
  go_wp2_with fail
  refine (nil_list _).mono ?_
  rintro e w10 ⟨rfl, rfl⟩
  go_wp2_with fail
  go_ret
  exact ⟨rfl, below_step (below_step (below_step B5 hb7) hb8) hb9⟩
end Go.Proofs.Ytdjgmgppghipkaa
