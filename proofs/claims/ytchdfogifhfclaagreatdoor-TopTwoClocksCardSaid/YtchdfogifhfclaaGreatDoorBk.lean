/- The book: counter, newest, stamped, heads, sameGrant, mayGrant. -/
import Derived.Test.YtchdfogifhfclaaGreatDoorPutM
import Derived.Test.YtchdfogifhfclaaGreatDoorPath
import Derived.Test.YtchdfogifhfclaaGreatDoorStamp
import Derived.Deep.QuietTactic
import Derived.BigQuiet
import Derived.Deep.RegionHeld3
import Derived.Deep.RegionHeldLaw
namespace Go.Proofs.YtchdfogifhfclaaGreatDoor
open Go.RowKit

theorem quiet_eq {P : Program} {f : FuncId} {args : Array Value} {w : World} {n : Nat} {v : Value} (h : Calls P f args (w.drewN n) fun e w' => e = .returned v ∧ w.drewN n = w') : Calls P f args (w.drewN n) fun e w'' => e = .returned v ∧ ∃ m, w'' = w.drewN m :=
  h.mono fun _ _ ⟨he, hm⟩ => ⟨he, n, hm.symm⟩
/-- A grant's cells; a record's. -/
def gC (id h : Int) (p : ByteArray) (m : Int) (sv : Value) (t : Int) : Array Value := #[.int .i64 id, .int .i64 h, .string p, .int .i64 m, sv, .int .i64 t]
def rC (k id h : Int) (p : ByteArray) (m : Int) (sv : Value) (t rid : Int) (rs : Value) (next longest : Int) : Array Value :=
  #[.int .i64 k, .int .i64 id, .int .i64 h, .string p, .int .i64 m, sv, .int .i64 t, .int .i64 rid, rs, .int .i64 next, .int .i64 0, .int .i64 longest]
def estr : ByteArray := ⟨#[]⟩
theorem Tryz.infoG : (Tryz.prog.info? 45).map (fun i => (i.zero, i.size, i.bytes)) = some (some (.agg (gC 0 0 estr 0 (.slice none 0 0) 0)), 6, 72) := by kernel_rfl
theorem Tryz.infoR : (Tryz.prog.info? 98).map (fun i => (i.zero, i.size)) = some (some (.agg (rC 0 0 0 estr 0 (.slice none 0 0) 0 0 (.slice none 0 0) 0 0)), 12) := by kernel_rfl
theorem counter_any (n : Int) (w : World) (h : 1 ≤ n ∧ n ≤ 1099511627776) : Calls Tryz.prog 171 #[.int .i64 n] w fun e w' => e = .returned (.bool true) ∧ w = w' := by
  have d1 : decide (1 ≤ n) = true := decide_eq_true h.1
  have d2 : decide (n ≤ 1099511627776) = true := decide_eq_true h.2
  clear h
  go_enter Tryz.func171, Tryz.ntmps171
  go_wp2_with fail
  go_ret
  exact ⟨rfl, rfl⟩
theorem heads_any (n : Int) (w : World) (h : 1 ≤ n ∧ n ≤ 1099511627777) : Calls Tryz.prog 167 #[.int .i64 n, .int .i64 0] w fun e w' => e = .returned (.bool true) ∧ w = w' := by
  have d1 : decide (1 ≤ n) = true := decide_eq_true h.1
  have d2 : decide (n ≤ 1099511627777) = true := decide_eq_true h.2
  clear h
  go_enter Tryz.func167, Tryz.ntmps167
  go_wp2_with fail
  go_ret
  exact ⟨rfl, rfl⟩
theorem newest_any (D : Nat → Prop) (x : Int) (sv : Value) (w : World) (h : Ck8.IntsV D w sv [x]) : Calls Tryz.prog 169 #[sv] w fun e w' => e = .returned (.int .i64 x) ∧ w = w' := by
  obtain ⟨b, o, c, rfl, hc1, hc2, hb, _, t0⟩ := h.at_ (j := 0) rfl
  have t1 : w.cell? ⟨b, o, none⟩ = some (.int .i64 x) := t0
  clear h t0
  go_enter Tryz.func169, Tryz.ntmps169
  go_wp2_with fail
  go_ret
  exact ⟨rfl, rfl⟩
theorem bstamped_any (D : Nat → Prop) (x : Int) (sv : Value) (w : World) (h : Ck8.IntsV D w sv [x]) (hx : 1 ≤ x ∧ x ≤ 1099511627776) : Calls Tryz.prog 172 #[sv] w fun e w' => e = .returned (.bool true) ∧ w = w' := by
  have H := Lib.hid h
  have hc : countersOK [x] := fun y hy => by simp at hy; subst hy; exact hx
  have HC := Lib.hid hc
  obtain ⟨b, o, c, rfl, hc1, hc2, hb, _, t0⟩ := h.at_ (j := 0) rfl
  clear h hc
  go_enter Tryz.func172, Tryz.ntmps172
  go_wp2_with fail
  refine (stampValid_any D [x] _ _ H.out HC.out (by simp)).mono ?_
  rintro e w1 ⟨rfl, rfl⟩
  go_wp2_with fail
  go_ret
  exact ⟨rfl, rfl⟩
theorem equalNil_any (w : World) : Calls Tryz.prog 203 #[.slice none 0 0, .slice none 0 0] w fun e w' => e = .returned (.bool true) ∧ w = w' := by
  go_enter Tryz.func203, Tryz.ntmps203
  go_wp2_with fail
  refine wp_loop_rounds 1 ?_
  rw [rounds_succ]
  go_wp2_with fail
  go_ret
  exact ⟨rfl, rfl⟩
theorem equalOne_any (a : Option Addr) (c : Nat) (w : World) : Calls Tryz.prog 203 #[.slice a 1 c, .slice none 0 0] w fun e w' => e = .returned (.bool false) ∧ w = w' := by
  go_enter Tryz.func203, Tryz.ntmps203
  go_wp2_with fail
  go_ret
  exact ⟨rfl, rfl⟩
set_option maxRecDepth 100000 in
set_option maxHeartbeats 1000000 in
theorem sameZero_any (w : World) : Calls Tryz.prog 170 #[.agg (gC 0 0 estr 0 (.slice none 0 0) 0), .agg (gC 0 0 estr 0 (.slice none 0 0) 0)] w fun e w' => e = .returned (.bool true) ∧ Below w.heap.size w w' := by
  unfold gC estr
  go_enter Tryz.func170, Tryz.ntmps170
  go_wp2_with fail
  refine (equalNil_any _).mono ?_
  rintro e w1 ⟨rfl, rfl⟩
  go_wp2_with fail
  go_ret
  exact ⟨by simp, ((Below.refl _ _).alloc (Nat.le_refl _) _).alloc (by simp) _⟩
set_option maxRecDepth 100000 in
set_option maxHeartbeats 1000000 in
theorem sameNot_any (id h : Int) (p : ByteArray) (m : Int) (a : Option Addr) (c : Nat) (t : Int) (w : World) : Calls Tryz.prog 170 #[.agg (gC id h p m (.slice a 1 c) t), .agg (gC 0 0 estr 0 (.slice none 0 0) 0)] w fun e w' => e = .returned (.bool false) ∧ Below w.heap.size w w' := by
  unfold gC estr
  go_enter Tryz.func170, Tryz.ntmps170
  go_wp2_with fail
  refine (equalOne_any _ _ _).mono ?_
  rintro e w1 ⟨rfl, rfl⟩
  go_wp2_with fail
  go_ret
  exact ⟨by simp, ((Below.refl _ _).alloc (Nat.le_refl _) _).alloc (by simp) _⟩
/-- What a grant of this world is. -/
structure Gr where
  p : ByteArray
  m : Int
  s : Int
  t : Int
structure Gr.OK (g : Gr) : Prop where
  path : pathOK g.p = true
  mode : g.m = 1 ∨ g.m = 2
  stamp : 1 ≤ g.s ∧ g.s ≤ 2
  term : 4 ≤ g.t ∧ g.t ≤ 1048576
theorem Gr.OK.psize {g : Gr} (h : g.OK) : g.p.size ≤ 140737488355328 := by have := pathOK_size h.path; omega
set_option maxRecDepth 100000 in
set_option maxHeartbeats 2000000 in
theorem mayGrant_any (D : Nat → Prop) (g : Gr) (sv : Value) (w : World) (h : g.OK) (hs : Ck8.IntsV D w sv [g.s]) : Calls Tryz.prog 168 #[.agg (gC 1 1 g.p g.m sv g.t)] w fun e w' => e = .returned (.bool true) ∧ Below w.heap.size w w' := by
  obtain ⟨p, m, s, t⟩ := g
  have HG := Lib.hid h
  have HS := Lib.hid (hs.below ((Below.refl _ w).alloc (Nat.le_refl _) (.cells (gC 1 1 p m sv t) 45)))
  have hsz := h.psize
  have hs1 : decide (1 ≤ s) = true := decide_eq_true h.stamp.1
  have hm := h.mode
  have hst := h.stamp
  have HP := Lib.hid h.path
  have HT := Lib.hid h.term
  simp only at hm hs1 hst hsz
  have HSZ := Lib.hid hsz
  have HST := Lib.hid hst
  clear h hs hst hsz
  obtain ⟨b, o, c, rfl, hc1, hc2, hb, _, t0⟩ := HS.out.at_ (j := 0) rfl
  clear hb t0
  have d1 : (∀ W n, Calls Tryz.prog 171 #[.int .i64 1] (World.drewN W n) fun e w'' => e = .returned (.bool true) ∧ ∃ m, w'' = W.drewN m) := fun W n => quiet_eq (counter_any 1 _ (by omega))
  unfold gC at HS ⊢
  rcases hm with rfl | rfl
  all_goals
    go_enter Tryz.func168, Tryz.ntmps168
    go_wp2_with fail
    go_quiet (first
      | (go_at_call 171; exact d1 _ _)
      | (go_at_call 52; exact quiet_eq (HP.out ▸ valid_any p _ HSZ.out))
      | (go_at_call 172; exact quiet_eq (bstamped_any D s _ _ (HS.out.below (below_drewN _ _)) ⟨HST.out.1, Int.le_trans HST.out.2 (by omega)⟩))
      | (go_at_call 169; exact quiet_eq (newest_any D s _ _ (HS.out.below (below_drewN _ _))))
      | (go_at_call 67; exact quiet_eq (legal_any t _ HT.out)))
    go_wp2_with fail
    go_ret
    exact ⟨by simp, ((Below.refl _ w).alloc (Nat.le_refl _) _).trans ((below_drewN _ _).mono (by simp))⟩
end Go.Proofs.YtchdfogifhfclaaGreatDoor
