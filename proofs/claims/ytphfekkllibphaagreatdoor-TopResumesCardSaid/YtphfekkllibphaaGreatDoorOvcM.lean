/- slices.Collect(slices.Chunk(data, 47)) of one piece.  What stands for slices.Collect(slices.Chunk(b, 47)), of one piece. -/
import Derived.Test.YtphfekkllibphaaGreatDoorOvaM
import Derived.Maps.AppendAt
import Derived.OwnWalk
import Derived.Handy
import Derived.RangeFuncBox
import Derived.RangeFuncLeaves
import Derived.Shelf.Abstract
import Derived.WalkKit
import Derived.OwnWalkIn
import Derived.TacticsInMore
import Derived.LoopNIn
import Derived.LoopIn
import Derived.Sort.QuietIn
import Derived.Test.YtphfekkllibphaaGreatDoorOvb
namespace Go.Proofs.YtphfekkllibphaaGreatDoor
open Go.RowKit Go.Shelf
attribute [local go_sem] Oper.semAt_some

theorem Tryz.infoB : (Tryz.prog.info? 127).map (fun i => (i.zero, i.size, i.bytes)) = some (some (.slice none 0 0), 1, 24) := by kernel_rfl
theorem grown_drewN (w : World) (n : Nat) : w.grownBy (w.drewN n) none := ⟨rfl, rfl, rfl, Nat.le_refl _, fun _ _ _ => rfl⟩
set_option maxRecDepth 100000 in
set_option maxHeartbeats 1000000 in
theorem chunk1_in (n : Nat) (hn : 1 ≤ n) (l B2 B3 n₀ b o m c : Nat) (hm : 1 ≤ m ∧ m ≤ 47) (hmc : m ≤ c) (J Jx : List Unit → World → Prop) (Ba : Nat) (hab : AbidesFrom Ba J)
    (hY : ∀ pre x W, J pre W → pre.length < 1 → YieldAt Fence.wide (n - 1) Tryz.prog l #[.slice (some ⟨b, o, none⟩) m m] W fun e W' =>
      (e = .returned (.bool true) ∧ J (pre ++ [x]) W' ∧ Below n₀ W W') ∨ (e = .returned (.bool false) ∧ Jx (pre ++ [x]) W'))
    (W : World) (hB2 : B2 < n₀) (hB3 : B3 < n₀) (c2 : W.cell? ⟨B2, 0, none⟩ = some (.slice (some ⟨b, o, none⟩) m c)) (c3 : W.cell? ⟨B3, 0, none⟩ = some (.int .i64 47)) (h0 : J [] W) :
    CallsIn Fence.wide n Tryz.prog 385 #[.func (.yield l) #[] #[], .pointer (some ⟨B2, 0, none⟩), .pointer (some ⟨B3, 0, none⟩)] W fun e W' => (∃ v, e = .returned v) ∧
      ((∃ ys, ys = [()] ∧ J ys W') ∨ (∃ pre, pre <+: [()] ∧ Jx pre W')) := by
  obtain ⟨hm1, hm2⟩ := hm
  have HC2 := Lib.hid c2
  have HC3 := Lib.hid c3
  clear c2 c3
  refine callsIn_of_wp Tryz.func385 rfl (by trivial) ?_ rfl
  simp only [Tryz.ntmps385, List.size_toArray, List.length_cons, List.length_nil, Nat.reduceAdd, Nat.reduceSub, Array.replicate_succ, Array.replicate_zero, List.push_toArray, List.append_toArray, List.nil_append, List.cons_append]
  gi_wp2
  gi_loopw [4] (fun i wr => ∃ k : Nat, k ≤ 1 ∧ i = .int .i64 (47 * (k : Int)) ∧ J (List.replicate k ()) wr ∧ wr.cell? ⟨B2, 0, none⟩ = some (.slice (some ⟨b, o, none⟩) m c) ∧ wr.cell? ⟨B3, 0, none⟩ = some (.int .i64 47))
    (fun i _ => 100 - (intOf i).toNat)
  case atStart => exact ⟨0, by omega, rfl, h0, HC2.out, HC3.out⟩
  case round =>
    obtain ⟨k, hk, rfl, hJ, d2, d3⟩ := hrel
    by_cases hk0 : k = 0
    · subst hk0
      have hmin : min (47 : Int) (m : Int) = (m : Int) := by omega
      have k1 : (0 : Int) < (m : Int) := by omega
      have k2 : (m : Int) ≤ 47 := by omega
      have k3 : (m : Int) ≤ (c : Int) := by omega
      gi_wp2
      gi_quiet (fail)
      obtain ⟨fn, tmps, assign, body, hy, hR⟩ := hY [] () (wr.drewN nq) (hab _ _ _ none hJ (grown_drewN _ _) (fun r e => by cases e)) (by simp)
      gi_wp2
      refine hR.mono ?_
      rintro e W3 (⟨rfl, hJ3, hk3⟩ | ⟨rfl, hJx3⟩)
      · have f2 : W3.cell? ⟨B2, 0, none⟩ = some (.slice (some ⟨b, o, none⟩) m c) := (hk3.cell (p := ⟨B2, 0, none⟩) hB2).trans d2
        have f3 : W3.cell? ⟨B3, 0, none⟩ = some (.int .i64 47) := (hk3.cell (p := ⟨B3, 0, none⟩) hB3).trans d3
        gi_wp2
        go_roundw
        case rel => exact ⟨1, by omega, rfl, hJ3, f2, f3⟩
        case measure => simp only [intOf]; omega
      · gi_wp2
        refine bodyPost_ret (results_none rfl _ _ _) rfl ?_
        exact ⟨⟨_, rfl⟩, .inr ⟨[] ++ [()], ⟨[], by simp⟩, hJx3⟩⟩
    · have hk1 : k = 1 := by omega
      subst hk1
      have k1 : ¬ (47 : Int) < (m : Int) := by omega
      gi_wp2
      go_end0
      exact ⟨⟨_, rfl⟩, .inl hJ⟩
theorem chunk_stops (n : Nat) (hn : 1 ≤ n) (B2 B3 n₀ b o m c : Nat) (hm : 1 ≤ m ∧ m ≤ 47) (hmc : m ≤ c) (w : World) (hB2 : B2 < n₀) (hB3 : B3 < n₀) (hn₀ : n₀ ≤ w.heap.size) (c2 : w.cell? ⟨B2, 0, none⟩ = some (.slice (some ⟨b, o, none⟩) m c)) (c3 : w.cell? ⟨B3, 0, none⟩ = some (.int .i64 47)) :
    SeqStopsK Fence.wide n Tryz.prog 385 #[.pointer (some ⟨B2, 0, none⟩), .pointer (some ⟨B3, 0, none⟩)] (fun _ : Unit => #[Value.slice (some ⟨b, o, none⟩) m m]) (Below n₀) (fun ys => ys = [()]) (fun pre => pre <+: [()]) 1 w := fun l J Jx W hW hJ _ hY h0 =>
  chunk1_in n hn l B2 B3 n₀ b o m c hm hmc J Jx W.heap.size hJ hY W hB2 hB3 ((hW.cell (p := ⟨B2, 0, none⟩) (by show B2 < _; omega)).trans c2) ((hW.cell (p := ⟨B3, 0, none⟩) (by show B3 < _; omega)).trans c3) h0
set_option maxRecDepth 100000 in
set_option maxHeartbeats 2000000 in
theorem appendSeq_piece (n : Nat) (hn : 3 ≤ n) (B2 B3 b o m c : Nat) (hm : 1 ≤ m ∧ m ≤ 47) (hmc : m ≤ c) (w : World) (hB2 : B2 < w.heap.size) (hB3 : B3 < w.heap.size) (c2 : w.cell? ⟨B2, 0, none⟩ = some (.slice (some ⟨b, o, none⟩) m c)) (c3 : w.cell? ⟨B3, 0, none⟩ = some (.int .i64 47)) :
    CallsIn Fence.wide n Tryz.prog 384 #[.slice none 0 0, .func (.func 385) #[] #[.pointer (some ⟨B2, 0, none⟩), .pointer (some ⟨B3, 0, none⟩)]] w fun e W' => ∃ v, e = .returned v ∧ W'.ownsRow w.heap.size 127 1 v 1 [.slice (some ⟨b, o, none⟩) m m] ∧ Below w.heap.size w W' := by
  have h1 : 1 ≤ n := by omega
  obtain ⟨i0, hi, hz0, hz1, hz2⟩ := info_parts Tryz.infoB
  refine callsIn_of_wp_marks Tryz.func384 rfl trivial ?_ rfl
  simp only [Tryz.ntmps384, List.size_toArray, List.length_cons, List.length_nil, Nat.reduceAdd, Nat.reduceSub, Array.replicate_succ, Array.replicate_zero, List.push_toArray, List.append_toArray, List.nil_append, List.cons_append]
  gi_wp2
  have bO := Boxed.new w 326 (.slice none 0 0)
  have hB0 : Below w.heap.size w (w.alloc (.cells #[.slice none 0 0] 326)) := (Below.refl _ w).alloc (Nat.le_refl _) _
  refine wpIn_rangeFunc_ownG rfl h1 (gf := 385) (lb := #[.pointer (some ⟨B2, 0, none⟩), .pointer (some ⟨B3, 0, none⟩)]) rfl trivial (enters_of Tryz.func385 (by kernel_rfl) rfl)
    (chunk_stops (n - 1) (by omega) B2 B3 w.heap.size b o m c hm hmc _ hB2 hB3 hB0.size ((hB0.cell (p := ⟨B2, 0, none⟩) hB2).trans c2) ((hB0.cell (p := ⟨B3, 0, none⟩) hB3).trans c3)) belowK_t (belowK_b (by simp)) (Below.refl _ _) (fun _ => rfl)
    (fun pre W => (∃ v, Boxed W w.heap.size 326 v ∧ W.ownsRow w.heap.size 127 1 v pre.length (pre.map (fun _ => Value.slice (some ⟨b, o, none⟩) m m)) ∧ True) ∧ Below w.heap.size w W)
    (fun _ _ _ => False)
    (OwnFrom.and (Own.from (holdsRow_own w.heap.size w.heap.size 326 127 1 (fun pre : List Unit => pre.length) (fun pre => pre.map (fun _ => Value.slice (some ⟨b, o, none⟩) m m)) (fun _ _ => True)) _) (ownFrom_below (Nat.le_refl _) (by simp)))
    (fun _ _ _ _ _ hs _ _ => hs)
    ⟨⟨_, bO, World.ownsRow_nil _ _ _ _, trivial⟩, hB0⟩
    (fun _ => { tmps := #[.slice none 0 0, .func (.func 385) #[] #[.pointer (some ⟨B2, 0, none⟩), .pointer (some ⟨B3, 0, none⟩)], .pointer (some ⟨w.heap.size, 0, none⟩), undef, .slice none 0 0, .slice (some ⟨b, o, none⟩) m m, .func (.func 385) #[] #[.pointer (some ⟨B2, 0, none⟩), .pointer (some ⟨B3, 0, none⟩)], .slice (some ⟨b, o, none⟩) m m, undef, undef, undef, undef, undef], defers := [] }) ?assign ?body ?done ?stop
  case assign =>
    intro l x W K hK
    gi_wp2
    exact hK
  case body =>
    rintro l pre x W ⟨⟨v, hv, hrow, -⟩, hB⟩ hlt
    have hc := hv.cell
    gi_wp2_with (gi_at_builtin; refine wpListIn_append_own _ rfl _ _ 326 rfl w.heap.size 127 i0 (.slice none 0 0) 1 24 Tryz.underlying326 hi hz0 hz1 hz2 rfl (by decide) _ _ _ rfl (hrow.alloc _) ⟨W.heap.size, 0, none⟩ 1 1 [.slice (some ⟨b, o, none⟩) m m] rfl rfl (cell_one_new _ _ _) (by simp [Value.oneCell']) (by unfold maxLen; omega) (by omega) (by have := hB.size; simp; omega) ?_; intro v' w1 hown' hgrow _; obtain ⟨g', cap', rfl⟩ := ownsRow_succ hown'; obtain ⟨hv1, hv2, hr2, hk2, hb2⟩ := hv.appended (by decide) hrow hB.size (Nat.le_refl _) hown' hgrow; have hc1 := hv1.cell; have hf1 := hv1.frozen)
    exact ⟨hk2.from _, hb2, ⟨_, hv2, by simpa using hr2, trivial⟩, hB.trans hb2⟩
  case done =>
    rintro D ys W hD rfl ⟨⟨v, hv, hrow, -⟩, hB⟩ hK
    have hc := hv.cell
    gi_wp2
    refine ⟨by simp, .inl ⟨_, _, rfl, run_takeDeferred hK, ?_⟩⟩
    exact ⟨_, results_tmp rfl _ _ _, v, rfl, ownsRow_putObj hrow _ hK rfl, hB.trans (belowK_b (w := w) (Nat.le_refl _) W D _ _ (by simp at hD; omega) hK rfl rfl)⟩
  case stop =>
    rintro D c pre W _ _ h _
    exact h.elim
theorem collect_piece (B2 B3 b o m c : Nat) (hm : 1 ≤ m ∧ m ≤ 47) (hmc : m ≤ c) (w : World) (hB2 : B2 < w.heap.size) (hB3 : B3 < w.heap.size) (c2 : w.cell? ⟨B2, 0, none⟩ = some (.slice (some ⟨b, o, none⟩) m c)) (c3 : w.cell? ⟨B3, 0, none⟩ = some (.int .i64 47)) :
    Calls Tryz.prog 288 #[.func (.func 385) #[] #[.pointer (some ⟨B2, 0, none⟩), .pointer (some ⟨B3, 0, none⟩)]] w fun e W' => ∃ v, e = .returned v ∧ W'.ownsRow w.heap.size 127 1 v 1 [.slice (some ⟨b, o, none⟩) m m] ∧ Below w.heap.size w W' := by
  have hap : Calls Tryz.prog 384 #[.slice none 0 0, .func (.func 385) #[] #[.pointer (some ⟨B2, 0, none⟩), .pointer (some ⟨B3, 0, none⟩)]] w _ := (callsIn_wide (n := 3)).1 (appendSeq_piece 3 (by omega) B2 B3 b o m c hm hmc w hB2 hB3 c2 c3)
  clear c2 c3
  go_enter Tryz.func288, Tryz.ntmps288
  go_wp2_with fail
  refine hap.mono ?_
  rintro e w1 ⟨v, rfl, h1, h2⟩
  go_wp2_with fail
  go_ret
  exact ⟨v, rfl, h1, h2⟩
theorem chunk_any (b o m c : Nat) (w : World) : Calls Tryz.prog 289 #[.slice (some ⟨b, o, none⟩) m c, .int .i64 47] w fun e w' => e = .returned (.func (.func 385) #[] #[.pointer (some ⟨w.heap.size, 0, none⟩), .pointer (some ⟨w.heap.size + 1, 0, none⟩)]) ∧ w' = (w.alloc (.cells #[.slice (some ⟨b, o, none⟩) m c] 127)).alloc (.cells #[.int .i64 47] 3) := by
  have hmf : ∀ (fn : Fn) (first cap : Array Value) (w : World), (Instr.makeFunc fn first cap).run Tryz.prog w = .ok (.func fn first cap) w := fun _ _ _ _ => rfl
  go_enter Tryz.func289, Tryz.ntmps289
  go_wp2_with fail
  go_ret
  exact ⟨by simp, rfl⟩
end Go.Proofs.YtphfekkllibphaaGreatDoor
namespace Go.Proofs.YtphfekkllibphaaGreatDoor.Ev
open Go Go.RowKit

section
variable {P : Program} {ρ : Ren} {h : H} {K : KT} {w : World}
noncomputable def rowO (l : List V) (n size d : Nat) (e : TypeId) : O := .c (n * size) (T.lay l (full .u d) 1) e (some size)
/-- A row that a call has made. -/
theorem Sat.row {w' : World} {v : Value} {xs : List Value} {l : List V} {n size d : Nat} {e : TypeId} (s : Sat ρ h w) (b : Below w.heap.size w w') (hn : 0 < n) (hrow : w'.ownsRow w.heap.size e size v n xs) (hl : LR ρ l xs) :
    ∃ ρ', VR ρ' (.sl h.nx 0 n none) v ∧ Sat ρ' (h.add (rowO l n size d e)) w' ∧ Step ρ h w ρ' (h.add (rowO l n size d e)) w' := by
  obtain ⟨hx, ⟨_, h0⟩ | ⟨g, cap, cur, rfl, hg, hh, hc, _, hsz, htk⟩⟩ := hrow
  · omega
  have hle : ρ.le (ρ.add g cap) := ρ.add_le g cap
  have hll := hl.1
  have hnx := s.n
  have hbeh := s.behind b cap hg (o := rowO l n size d e) (by
    refine ⟨.inl rfl, cur, (0, 0), by rw [ρ.add_π]; exact hh, ?_, fun e => (by cases e), fun q e => ?_, fun i hi => ?_, fun i hi => (by simp)⟩
    · rw [hsz]; exact Nat.mul_le_mul_right _ hc
    · injection e with e
      subst e
      rw [ρ.add_γ]
      exact hsz
    · obtain ⟨x, hx1, hx2⟩ := lay_vr hl (t := full .u d) i (by omega)
      refine ⟨x, ?_, hx2.mono hle⟩
      rw [← htk, List.getElem?_take, if_pos hi, Array.getElem?_toList] at hx1
      exact hx1)
  refine ⟨ρ.add g cap, ?_, hbeh.1, hbeh.2⟩
  have hv : VR (ρ.add g cap) (.sl ρ.n 0 n none) (.slice (some ⟨(ρ.add g cap).π ρ.n, 0, none⟩) n cap) := .slu (.inl rfl) hc (fun _ => (ρ.add_γ g cap).symm)
  rw [ρ.add_π, hnx] at hv
  exact hv
end
noncomputable def ovChunk : List V → H → KT → Bool := fun args h K => match args with
  | [.f (.func g) [] [.p bs 0, .p bn 0]] => (Nat.beq g 385).rec false <| onC (h.get bs) fun ns ts _ _ => onC (h.get bn) fun nn tn _ _ => (Nat.ble 1 ns && Nat.ble 1 nn).rec false (match ts.get .u 1, tn.get .u 1 with
    | .sl b o len cap, .i .i64 (.ofNat n) => (Nat.beq n 47 && Nat.ble len 47 && Nat.ble 1 len && (match cap with | some c => Nat.ble len c | none => true)).rec false (T.layK [.sl b o len (some len)] (full .u 1) 1 fun tr => h.new (.c 1 tr 127 (some 1)) fun nb h => K (.sl nb 0 1 none) h)
    | _, _ => false)
  | _ => false
section
variable {h : H} {K : KT}
set_option maxRecDepth 100000 in
theorem ovChunk_ok (hO : Own Tryz.prog) {args : List V} (hk : ovChunk args h K = true) : ∃ v h', K v h' = true ∧ Stands Tryz.prog 288 args h v h' := by
  unfold ovChunk at hk
  split at hk <;> first | (cases hk; done) | skip
  rename_i g bs bn
  obtain ⟨g0, hk⟩ := recB_false hk
  have g0 := beq_eq g0
  obtain ⟨ns, ts, es, gs, hbs, hk⟩ := O.c_inv hk
  obtain ⟨nn, tn, en, gn, hbn, hk⟩ := O.c_inv hk
  obtain ⟨g1, hk⟩ := recB_false hk
  obtain ⟨g1, g2⟩ := and2 g1
  split at hk <;> first | (cases hk; done) | skip
  rename_i b o len cap n e1 e2
  obtain ⟨g3, hk⟩ := recB_false hk
  obtain ⟨g3, g4⟩ := and2 g3
  obtain ⟨g3, g5⟩ := and2 g3
  obtain ⟨g3, g6⟩ := and2 g3
  have g3 := beq_eq g3
  rw [T.layK_eq, H.new_eq] at hk
  refine ⟨_, _, hk, Stands.of_calls hO Tryz.func288 rfl (fun ρ w xs s hl => ?_)⟩
  obtain ⟨x, rfl, hx⟩ := hl.one_inv
  obtain ⟨l', k', rfl, h1, h2⟩ := hx.f_inv
  have hl0 := h1.nil_arr
  subst hl0
  obtain ⟨x1, x2, q2, hx1, hx2⟩ := h2.two_inv
  have hp1 := hx1.p_inv
  have hp2 := hx2.p_inv
  have hk' : k' = #[.pointer (some ⟨ρ.π bs, 0, none⟩), .pointer (some ⟨ρ.π bn, 0, none⟩)] := by
    apply Array.ext'
    rw [q2, hp1.2, hp2.2]
  subst hk'
  obtain ⟨_, cs1, fz1, c2, c3, c4, c5, c6, c7⟩ := s.cells hbs
  obtain ⟨_, cs2, fz2, d2, d3, d4, d5, d6, d7⟩ := s.cells hbn
  obtain ⟨y1, qy1, hv1⟩ := c6 0 (ble_le g1)
  obtain ⟨y2, qy2, hv2⟩ := d6 0 (ble_le g2)
  rw [show 0 + 1 = 1 from rfl, e1] at hv1
  rw [show 0 + 1 = 1 from rfl, e2] at hv2
  obtain ⟨c', ev1, hb, hcc, hcn⟩ := hv1.sl_inv
  have ev2 := hv2.i_inv
  have hcap : len ≤ c' := by
    cases cap with
    | some c => rw [hcc c rfl]; exact ble_le g4
    | none => exact (hcn rfl).1
  have hcell1 : w.cell? ⟨ρ.π bs, 0, none⟩ = some (.slice (some ⟨ρ.π b, o, none⟩) len c') := by rw [cell_of c2, qy1, ev1]
  have hcell2 : w.cell? ⟨ρ.π bn, 0, none⟩ = some (.int .i64 47) := by rw [cell_of d2, qy2, ev2, g3]; rfl
  rw [g0]
  refine (collect_piece (ρ.π bs) (ρ.π bn) (ρ.π b) o len c' ⟨ble_le g5, ble_le g6⟩ hcap w (Array.getElem?_eq_some_iff.1 c2).1 (Array.getElem?_eq_some_iff.1 d2).1 hcell1 hcell2).mono ?_
  rintro e w' ⟨v, rfl, hrow, hbel⟩
  obtain ⟨ρ', r1, r2, r3⟩ := s.row (d := 1) hbel (by omega) hrow (l := [.sl b o len (some len)]) (.cons (.slc hb) .nil)
  exact ⟨v, rfl, ρ', r1, r2, r3⟩
end
end Go.Proofs.YtphfekkllibphaaGreatDoor.Ev
