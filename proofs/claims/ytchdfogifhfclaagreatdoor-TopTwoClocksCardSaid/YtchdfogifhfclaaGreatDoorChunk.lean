/- slices.Collect(slices.Chunk(data, 47)) of one piece. -/
import Derived.Test.YtchdfogifhfclaaGreatDoorRegion
import Derived.RangeFuncBox
import Derived.RangeFuncLeaves
import Derived.Shelf.Abstract
import Derived.WalkKit
import Derived.OwnWalkIn
import Derived.TacticsInMore
import Derived.LoopNIn
import Derived.LoopIn
import Derived.Maps.AppendAt
import Derived.Sort.QuietIn
namespace Go.Proofs.YtchdfogifhfclaaGreatDoor
open Go.RowKit Go.Shelf
attribute [local go_sem] Oper.semAt_some

theorem grown_drewN (w : World) (n : Nat) : w.grownBy (w.drewN n) none := ⟨rfl, rfl, rfl, Nat.le_refl _, fun _ _ _ => rfl⟩
set_option maxRecDepth 100000 in
set_option maxHeartbeats 1000000 in
theorem chunk1_in (n : Nat) (hn : 1 ≤ n) (l B2 B3 n₀ b o m c : Nat) (hm : 1 ≤ m ∧ m ≤ 47) (hmc : m ≤ c) (J Jx : List Unit → World → Prop) (Ba : Nat) (hab : AbidesFrom Ba J)
    (hY : ∀ pre x W, J pre W → pre.length < 1 → YieldAt Fence.wide (n - 1) Tryz.prog l #[.slice (some ⟨b, o, none⟩) m m] W fun e W' =>
      (e = .returned (.bool true) ∧ J (pre ++ [x]) W' ∧ Below n₀ W W') ∨ (e = .returned (.bool false) ∧ Jx (pre ++ [x]) W'))
    (W : World) (hB2 : B2 < n₀) (hB3 : B3 < n₀) (c2 : W.cell? ⟨B2, 0, none⟩ = some (.slice (some ⟨b, o, none⟩) m c)) (c3 : W.cell? ⟨B3, 0, none⟩ = some (.int .i64 47)) (h0 : J [] W) :
    CallsIn Fence.wide n Tryz.prog 164 #[.func (.yield l) #[] #[], .pointer (some ⟨B2, 0, none⟩), .pointer (some ⟨B3, 0, none⟩)] W fun e W' => (∃ v, e = .returned v) ∧
      ((∃ ys, ys = [()] ∧ J ys W') ∨ (∃ pre, pre <+: [()] ∧ Jx pre W')) := by
  obtain ⟨hm1, hm2⟩ := hm
  have HC2 := Lib.hid c2
  have HC3 := Lib.hid c3
  clear c2 c3
  refine callsIn_of_wp Tryz.func164 rfl (by trivial) ?_ rfl
  simp only [Tryz.ntmps164, List.size_toArray, List.length_cons, List.length_nil, Nat.reduceAdd, Nat.reduceSub, Array.replicate_succ, Array.replicate_zero, List.push_toArray, List.append_toArray, List.nil_append, List.cons_append]
  gi_wp2
  gi_loopw [4] (fun i wr => ∃ k : Nat, k ≤ 1 ∧ i = .int .i64 (47 * (k : Int)) ∧ J (List.replicate k ()) wr ∧ wr.cell? ⟨B2, 0, none⟩ = some (.slice (some ⟨b, o, none⟩) m c) ∧ wr.cell? ⟨B3, 0, none⟩ = some (.int .i64 47))
    (fun i _ => 100 - (intOf i).toNat)
  case atStart => exact ⟨0, by omega, rfl, h0, HC2.out, HC3.out⟩
  case round =>
    obtain ⟨k, hk, rfl, hJ, d2, d3⟩ := hrel
    by_cases hk0 : k = 0
    · subst hk0
      have hmin : min (47 : Int) (m : Int) = (m : Int) := by omega
      have k1 : (0 : Int) < (m : Int) := by omega
      have k2 : (m : Int) ≤ 47 := by omega
      have k3 : (m : Int) ≤ (c : Int) := by omega
      gi_wp2
      gi_quiet (fail)
      obtain ⟨fn, tmps, assign, body, hy, hR⟩ := hY [] () (wr.drewN nq) (hab _ _ _ none hJ (grown_drewN _ _) (fun r e => by cases e)) (by simp)
      gi_wp2
      refine hR.mono ?_
      rintro e W3 (⟨rfl, hJ3, hk3⟩ | ⟨rfl, hJx3⟩)
      · have f2 : W3.cell? ⟨B2, 0, none⟩ = some (.slice (some ⟨b, o, none⟩) m c) := (hk3.cell (p := ⟨B2, 0, none⟩) hB2).trans d2
        have f3 : W3.cell? ⟨B3, 0, none⟩ = some (.int .i64 47) := (hk3.cell (p := ⟨B3, 0, none⟩) hB3).trans d3
        gi_wp2
        go_roundw
        case rel => exact ⟨1, by omega, rfl, hJ3, f2, f3⟩
        case measure => simp only [intOf]; omega
      · gi_wp2
        refine bodyPost_ret (results_none rfl _ _ _) rfl ?_
        exact ⟨⟨_, rfl⟩, .inr ⟨[] ++ [()], ⟨[], by simp⟩, hJx3⟩⟩
    · have hk1 : k = 1 := by omega
      subst hk1
      have k1 : ¬ (47 : Int) < (m : Int) := by omega
      gi_wp2
      go_end0
      exact ⟨⟨_, rfl⟩, .inl hJ⟩
theorem chunk_stops (n : Nat) (hn : 1 ≤ n) (B2 B3 n₀ b o m c : Nat) (hm : 1 ≤ m ∧ m ≤ 47) (hmc : m ≤ c) (w : World) (hB2 : B2 < n₀) (hB3 : B3 < n₀) (hn₀ : n₀ ≤ w.heap.size) (c2 : w.cell? ⟨B2, 0, none⟩ = some (.slice (some ⟨b, o, none⟩) m c)) (c3 : w.cell? ⟨B3, 0, none⟩ = some (.int .i64 47)) :
    SeqStopsK Fence.wide n Tryz.prog 164 #[.pointer (some ⟨B2, 0, none⟩), .pointer (some ⟨B3, 0, none⟩)] (fun _ : Unit => #[Value.slice (some ⟨b, o, none⟩) m m]) (Below n₀) (fun ys => ys = [()]) (fun pre => pre <+: [()]) 1 w := fun l J Jx W hW hJ _ hY h0 =>
  chunk1_in n hn l B2 B3 n₀ b o m c hm hmc J Jx W.heap.size hJ hY W hB2 hB3 ((hW.cell (p := ⟨B2, 0, none⟩) (by show B2 < _; omega)).trans c2) ((hW.cell (p := ⟨B3, 0, none⟩) (by show B3 < _; omega)).trans c3) h0
set_option maxRecDepth 100000 in
set_option maxHeartbeats 2000000 in
theorem appendSeq_piece (n : Nat) (hn : 3 ≤ n) (B2 B3 b o m c : Nat) (hm : 1 ≤ m ∧ m ≤ 47) (hmc : m ≤ c) (w : World) (hB2 : B2 < w.heap.size) (hB3 : B3 < w.heap.size) (c2 : w.cell? ⟨B2, 0, none⟩ = some (.slice (some ⟨b, o, none⟩) m c)) (c3 : w.cell? ⟨B3, 0, none⟩ = some (.int .i64 47)) :
    CallsIn Fence.wide n Tryz.prog 163 #[.slice none 0 0, .func (.func 164) #[] #[.pointer (some ⟨B2, 0, none⟩), .pointer (some ⟨B3, 0, none⟩)]] w fun e W' => ∃ v, e = .returned v ∧ W'.ownsRow w.heap.size 126 1 v 1 [.slice (some ⟨b, o, none⟩) m m] ∧ Below w.heap.size w W' := by
  have h1 : 1 ≤ n := by omega
  obtain ⟨i0, hi, hz0, hz1, hz2⟩ := info_parts Tryz.infoB
  refine callsIn_of_wp_marks Tryz.func163 rfl trivial ?_ rfl
  simp only [Tryz.ntmps163, List.size_toArray, List.length_cons, List.length_nil, Nat.reduceAdd, Nat.reduceSub, Array.replicate_succ, Array.replicate_zero, List.push_toArray, List.append_toArray, List.nil_append, List.cons_append]
  gi_wp2
  have bO := Boxed.new w 133 (.slice none 0 0)
  have hB0 : Below w.heap.size w (w.alloc (.cells #[.slice none 0 0] 133)) := (Below.refl _ w).alloc (Nat.le_refl _) _
  refine wpIn_rangeFunc_ownG rfl h1 (gf := 164) (lb := #[.pointer (some ⟨B2, 0, none⟩), .pointer (some ⟨B3, 0, none⟩)]) rfl trivial (enters_of Tryz.func164 (by kernel_rfl) rfl)
    (chunk_stops (n - 1) (by omega) B2 B3 w.heap.size b o m c hm hmc _ hB2 hB3 hB0.size ((hB0.cell (p := ⟨B2, 0, none⟩) hB2).trans c2) ((hB0.cell (p := ⟨B3, 0, none⟩) hB3).trans c3)) belowK_t (belowK_b (by simp)) (Below.refl _ _) (fun _ => rfl)
    (fun pre W => (∃ v, Boxed W w.heap.size 133 v ∧ W.ownsRow w.heap.size 126 1 v pre.length (pre.map (fun _ => Value.slice (some ⟨b, o, none⟩) m m)) ∧ True) ∧ Below w.heap.size w W)
    (fun _ _ _ => False)
    (OwnFrom.and (Own.from (holdsRow_own w.heap.size w.heap.size 133 126 1 (fun pre : List Unit => pre.length) (fun pre => pre.map (fun _ => Value.slice (some ⟨b, o, none⟩) m m)) (fun _ _ => True)) _) (ownFrom_below (Nat.le_refl _) (by simp)))
    (fun _ _ _ _ _ hs _ _ => hs)
    ⟨⟨_, bO, World.ownsRow_nil _ _ _ _, trivial⟩, hB0⟩
    (fun _ => { tmps := #[.slice none 0 0, .func (.func 164) #[] #[.pointer (some ⟨B2, 0, none⟩), .pointer (some ⟨B3, 0, none⟩)], .pointer (some ⟨w.heap.size, 0, none⟩), undef, .slice none 0 0, .slice (some ⟨b, o, none⟩) m m, .func (.func 164) #[] #[.pointer (some ⟨B2, 0, none⟩), .pointer (some ⟨B3, 0, none⟩)], .slice (some ⟨b, o, none⟩) m m, undef, undef, undef, undef, undef], defers := [] }) ?assign ?body ?done ?stop
  case assign =>
    intro l x W K hK
    gi_wp2
    exact hK
  case body =>
    rintro l pre x W ⟨⟨v, hv, hrow, -⟩, hB⟩ hlt
    have hc := hv.cell
    gi_wp2_with (gi_at_builtin; refine wpListIn_append_own _ rfl _ _ 133 rfl w.heap.size 126 i0 (.slice none 0 0) 1 24 Tryz.underlying133 hi hz0 hz1 hz2 rfl (by decide) _ _ _ rfl (hrow.alloc _) ⟨W.heap.size, 0, none⟩ 1 1 [.slice (some ⟨b, o, none⟩) m m] rfl rfl (cell_one_new _ _ _) (by simp [Value.oneCell']) (by unfold maxLen; omega) (by omega) (by have := hB.size; simp; omega) ?_; intro v' w1 hown' hgrow _; obtain ⟨g', cap', rfl⟩ := ownsRow_succ hown'; obtain ⟨hv1, hv2, hr2, hk2, hb2⟩ := hv.appended (by decide) hrow hB.size (Nat.le_refl _) hown' hgrow; have hc1 := hv1.cell; have hf1 := hv1.frozen)
    exact ⟨hk2.from _, hb2, ⟨_, hv2, by simpa using hr2, trivial⟩, hB.trans hb2⟩
  case done =>
    rintro D ys W hD rfl ⟨⟨v, hv, hrow, -⟩, hB⟩ hK
    have hc := hv.cell
    gi_wp2
    refine ⟨by simp, .inl ⟨_, _, rfl, run_takeDeferred hK, ?_⟩⟩
    exact ⟨_, results_tmp rfl _ _ _, v, rfl, ownsRow_putObj hrow _ hK rfl, hB.trans (belowK_b (w := w) (Nat.le_refl _) W D _ _ (by simp at hD; omega) hK rfl rfl)⟩
  case stop =>
    rintro D c pre W _ _ h _
    exact h.elim
theorem collect_piece (B2 B3 b o m c : Nat) (hm : 1 ≤ m ∧ m ≤ 47) (hmc : m ≤ c) (w : World) (hB2 : B2 < w.heap.size) (hB3 : B3 < w.heap.size) (c2 : w.cell? ⟨B2, 0, none⟩ = some (.slice (some ⟨b, o, none⟩) m c)) (c3 : w.cell? ⟨B3, 0, none⟩ = some (.int .i64 47)) :
    Calls Tryz.prog 117 #[.func (.func 164) #[] #[.pointer (some ⟨B2, 0, none⟩), .pointer (some ⟨B3, 0, none⟩)]] w fun e W' => ∃ v, e = .returned v ∧ W'.ownsRow w.heap.size 126 1 v 1 [.slice (some ⟨b, o, none⟩) m m] ∧ Below w.heap.size w W' := by
  have hap : Calls Tryz.prog 163 #[.slice none 0 0, .func (.func 164) #[] #[.pointer (some ⟨B2, 0, none⟩), .pointer (some ⟨B3, 0, none⟩)]] w _ := (callsIn_wide (n := 3)).1 (appendSeq_piece 3 (by omega) B2 B3 b o m c hm hmc w hB2 hB3 c2 c3)
  clear c2 c3
  go_enter Tryz.func117, Tryz.ntmps117
  go_wp2_with fail
  refine hap.mono ?_
  rintro e w1 ⟨v, rfl, h1, h2⟩
  go_wp2_with fail
  go_ret
  exact ⟨v, rfl, h1, h2⟩
theorem chunk_any (b o m c : Nat) (w : World) : Calls Tryz.prog 118 #[.slice (some ⟨b, o, none⟩) m c, .int .i64 47] w fun e w' => e = .returned (.func (.func 164) #[] #[.pointer (some ⟨w.heap.size, 0, none⟩), .pointer (some ⟨w.heap.size + 1, 0, none⟩)]) ∧ w' = (w.alloc (.cells #[.slice (some ⟨b, o, none⟩) m c] 126)).alloc (.cells #[.int .i64 47] 3) := by
  have hmf : ∀ (fn : Fn) (first cap : Array Value) (w : World), (Instr.makeFunc fn first cap).run Tryz.prog w = .ok (.func fn first cap) w := fun _ _ _ _ => rfl
  go_enter Tryz.func118, Tryz.ntmps118
  go_wp2_with fail
  go_ret
  exact ⟨by simp, rfl⟩
end Go.Proofs.YtchdfogifhfclaaGreatDoor
