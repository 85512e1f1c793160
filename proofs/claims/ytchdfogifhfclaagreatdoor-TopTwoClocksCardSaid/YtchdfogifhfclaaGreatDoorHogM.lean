/- The holder: Renewed.  The holder: SortFunc of at most one lease; List. -/
import Derived.Test.YtchdfogifhfclaaGreatDoorHoeM
import Derived.Deep.Cut
namespace Go.Proofs.YtchdfogifhfclaaGreatDoor
open Go.RowKit Go.Maps Go.MapKept
open Go.ChangeMaps (setBlock)

set_option maxRecDepth 100000 in
set_option maxHeartbeats 2000000 in
theorem renewedH_none (F D : Nat → Prop) (h : Nat) (rho now sent t s : Int) (sv : Value) (w : World) (H : HoAt F h rho none w) (hs : Ck8.IntsV D w sv [s]) :
    Calls Tryz.prog 15 #[.pointer (some ⟨h, 0, none⟩), .int .i64 now, .int .i64 sent, .int .i64 0, .int .i64 1, sv, .int .i64 t] w fun e w' => e = .returned (.bool false) ∧ Below w.heap.size w w' := by
  have H0 := Lib.hid H
  obtain ⟨sb, so, sc, rfl, _, _, _, _, _⟩ := hs.at_ (j := 0) rfl
  clear H hs
  go_enter Tryz.func15, Tryz.ntmps15
  go_wp2_with fail
  refine (getH_none F h rho _ H0.out).mono ?_
  rintro e w1 ⟨rfl, hb1⟩
  have HB1 := Lib.hid (below_step hb1 (below_one w1 (.cells zlC 49)))
  clear hb1
  unfold zlC estr at HB1
  unfold zlC estr
  go_wp2_with fail
  go_ret
  exact ⟨rfl, HB1.out⟩
/-- A lease renewed. -/
def Ls.fresh (l : Ls) (rho sent t s : Int) : Ls := ⟨l.p, l.m, if l.s < s then s else l.s, t, max l.sent sent, max l.exp (sent + T3.shrT t rho)⟩
def RnwdP (F : Nat → Prop) (h : Nat) (rho : Int) (l : Ls) (w : World) (e : Ending) (w' : World) : Prop := e = .returned (.bool true) ∧ HoAt (Up F w) h rho (some l) w' ∧ Mod F w w'
set_option maxRecDepth 100000 in
set_option maxHeartbeats 4000000 in
theorem renewedH_some (F D : Nat → Prop) (h : Nat) (rho now sent t s : Int) (l : Ls) (sv : Value) (w : World) (H : HoAt F h rho (some l) w) (hs : Ck8.IntsV D w sv [s]) (hO : LeaseOK now sent l.p l.m s t rho) :
    Calls Tryz.prog 15 #[.pointer (some ⟨h, 0, none⟩), .int .i64 now, .int .i64 sent, .int .i64 0, .int .i64 1, sv, .int .i64 t] w (RnwdP F h rho (l.fresh rho sent t s) w) := by
  obtain ⟨lk, hkey⟩ := keyN
  have H0 := Lib.hid H
  have HS := Lib.hid hs
  have HO := Lib.hid hO
  obtain ⟨sb, so, sc, rfl, _, _, _, _, _⟩ := hs.at_ (j := 0) rfl
  obtain ⟨p, m, s0, t0, sent0, exp0⟩ := l
  simp only at HO
  clear H hs hO
  go_enter Tryz.func15, Tryz.ntmps15
  go_wp2_with fail
  refine (getH_some F h rho ⟨p, m, s0, t0, sent0, exp0⟩ _ H0.out).mono ?_
  rintro e w1 ⟨vb, vc, rfl, hiv, hb1⟩
  simp only at hiv
  have HIV := Lib.hid hiv
  have HB1 := Lib.hid hb1
  have HS1 := Lib.hid (HS.out.below hb1)
  have HH1 := Lib.hid (H0.out.below hb1)
  clear hiv hb1
  unfold lC
  go_upto_region 2 with fail
  obtain ⟨w2, hw2⟩ : ∃ w2, w2 = w1.alloc (.cells #[.int .i64 0, .int .i64 1, .string p, .int .i64 m, .slice (some ⟨vb, 0, none⟩) 1 vc, .int .i64 t0, .int .i64 sent0, .int .i64 exp0, .bool false] 49) := ⟨_, rfl⟩
  rw [← hw2]
  have hb2 : Below w1.heap.size w1 w2 := by rw [hw2]; exact below_one _ _
  have hx2 : w2.heap[w1.heap.size]? = some (.cells (lC p m (.slice (some ⟨vb, 0, none⟩) 1 vc) t0 sent0 exp0) 49 (0, 0)) := by rw [hw2]; exact heap_at _ _ _ rfl
  have HX2 := Lib.hid hx2
  have HB2 := Lib.hid (below_step HB1.out hb2)
  have HB2b := Lib.hid hb2
  have HS2 := Lib.hid (HS1.out.below hb2)
  have HH2 := Lib.hid (HH1.out.below hb2)
  have HIV2 := Lib.hid ((HIV.out.mono (G' := fun k => w.heap.size ≤ k ∧ k < w1.heap.size) (fun k hk hd => ⟨hd, hk⟩)).below hb2)
  have c2 := blk_cell hx2
  have f2 := blk_free hx2
  have l2 := lt_of_heap hx2
  clear hw2 hb2 hx2
  unfold lC at c2
  go_wp2_with fail
  refine (moments_any now sent _ HO.out.mo).mono ?_
  rintro e w3 ⟨rfl, rfl⟩
  go_wp2_with fail
  refine (legal_any t _ HO.out.t).mono ?_
  rintro e w3 ⟨rfl, rfl⟩
  go_wp2_with fail
  refine (stamped_any D s _ _ HS2.out HO.out.s).mono ?_
  rintro e w3 ⟨rfl, rfl⟩
  go_wp2_with fail
  obtain ⟨ex, hex⟩ : ∃ ex, ex = sent + T3.shrT t rho := ⟨_, rfl⟩
  have HEX := Lib.hid hex
  have HUN := Lib.hid (show ∀ W, HoAt F h rho (some ⟨p, m, s0, t0, sent0, exp0⟩) W → Calls Tryz.prog 51 #[.pointer (some ⟨h, 0, none⟩), .int .i64 sent, .int .i64 t] W (fun e w' => e = .returned (.int .i64 ex) ∧ W = w') from fun W hW => by
    rw [hex]
    exact until_any F h rho sent t _ W hW HO.out.t HO.out.r ⟨HO.out.mo.1, Int.le_trans HO.out.mo.2.1 HO.out.mo.2.2⟩)
  clear hex
  go_cut [] from 46 (fun wc => wc = ((w2.setCell ⟨w1.heap.size, 7, none⟩ (.int .i64 (max exp0 ex))).setCell ⟨w1.heap.size, 6, none⟩ (.int .i64 (max sent0 sent))).drew)
  case first =>
    go_region_law (go_simp; go_at_call 51; (refine (HUN.out _ (HH2.out.below (Ck8.below_drew w2))).mono ?_); rintro e w5 ⟨rfl, rfl⟩)
    all_goals
      go_wp2_with fail
      go_meet
      rfl
  case rest =>
    have HCUT := Lib.hid hcut
    have HO3 := Lib.hid (show ∀ k, k ≠ w1.heap.size → wc.heap[k]? = w2.heap[k]? from fun k hk => by
      rw [HCUT.out]
      show ((w2.setCell ⟨w1.heap.size, 7, none⟩ (.int .i64 (max exp0 ex))).setCell ⟨w1.heap.size, 6, none⟩ (.int .i64 (max sent0 sent))).heap[k]? = _
      rw [Below.heap_setCell _ _ _ _ (by show k ≠ w1.heap.size; omega), Below.heap_setCell _ _ _ _ (by show k ≠ w1.heap.size; omega)])
    have hx3 : wc.heap[w1.heap.size]? = some (.cells (lC p m (.slice (some ⟨vb, 0, none⟩) 1 vc) t0 (max sent0 sent) (max exp0 ex)) 49 (0, 0)) := by
      rw [HCUT.out]
      exact blk_set (blk_set HX2.out 7 _) 6 _
    have HZ3 := Lib.hid (show wc.heap.size = w2.heap.size by rw [HCUT.out]; simp [World.setCell, World.drew])
    have HB3 := Lib.hid (show Below w.heap.size w wc by
      rw [HCUT.out]
      exact ((HB2.out.setCell (p := ⟨w1.heap.size, 7, none⟩) HB1.out.size _).setCell (p := ⟨w1.heap.size, 6, none⟩) HB1.out.size _).drew)
    have HX3 := Lib.hid hx3
    have HIV3 := Lib.hid (HIV2.out.keep (w' := wc) (fun k hk hd => HO3.out k (by omega)) (by rw [HZ3.out]; exact Nat.le_refl _))
    have HS3 := Lib.hid (show Ck8.IntsV (fun _ => True) wc (.slice (some ⟨sb, so, none⟩) 1 sc) [s] from ((HS1.out.mono (G' := fun k => k < w1.heap.size) (fun k hk hd => hk)).below HB2b.out).keep (w' := wc) (fun k hk hd => HO3.out k (by omega)) (by rw [HZ3.out]; exact Nat.le_refl _) |>.mono (fun _ _ _ => trivial))
    have c3 := blk_cell hx3
    clear hcut hx3 c2 f2 l2
    unfold lC at c3
    go_wp2_with fail
    refine (later_any _ _ s0 s _ _ _ HIV3.out HS3.out).mono ?_
    rintro e w4 ⟨lv, rfl, hlv, hb4⟩
    obtain ⟨s1, hs1⟩ : ∃ s1, s1 = if s0 < s then s else s0 := ⟨_, rfl⟩
    rw [← hs1] at hlv
    have HS1v := Lib.hid hs1
    obtain ⟨lb, lc, rfl⟩ := own1 hlv
    have hiv4 : Ck8.IntsV (fun k => wc.heap.size ≤ k) w4 (.slice (some ⟨lb, 0, none⟩) 1 lc) [s1] := Ck8.IntsV.of_own (l := [s1]) hlv
    have HIV4 := Lib.hid hiv4
    have HB4 := Lib.hid hb4
    have hx4 := (hb4.block _ (lt_of_heap HX3.out)).trans HX3.out
    have HX4 := Lib.hid hx4
    have c4 := blk_cell hx4
    have f4 := blk_free hx4
    have l4 := lt_of_heap hx4
    clear hlv hb4 hiv4 hx4 c3 hs1
    unfold lC at c4
    go_upto_region 6 with fail
    obtain ⟨w5, hw5⟩ : ∃ w5, w5 = (w4.setCell ⟨w1.heap.size, 4, none⟩ (.slice (some ⟨lb, 0, none⟩) 1 lc)).setCell ⟨w1.heap.size, 5, none⟩ (.int .i64 t) := ⟨_, rfl⟩
    rw [← hw5]
    have HO5 := Lib.hid (show ∀ k, k ≠ w1.heap.size → w5.heap[k]? = w4.heap[k]? from fun k hk => by
      rw [hw5, Below.heap_setCell _ _ _ _ (by show k ≠ w1.heap.size; omega), Below.heap_setCell _ _ _ _ (by show k ≠ w1.heap.size; omega)])
    have HX5 := Lib.hid (show w5.heap[w1.heap.size]? = some (.cells (lC p m (.slice (some ⟨lb, 0, none⟩) 1 lc) t (max sent0 sent) (max exp0 ex)) 49 (0, 0)) from by
      rw [hw5]
      exact blk_set (blk_set HX4.out 4 _) 5 _)
    have HZ5 := Lib.hid (show w5.heap.size = w4.heap.size by rw [hw5]; simp [World.setCell])
    have HB5 := Lib.hid (show Below w.heap.size w w5 by
      rw [hw5]
      exact (((below_step HB3.out HB4.out).setCell (p := ⟨w1.heap.size, 4, none⟩) HB1.out.size _).setCell (p := ⟨w1.heap.size, 5, none⟩) HB1.out.size _))
    have HLW := Lib.hid (show wc.heap.size > w1.heap.size from by rw [HZ3.out]; exact lt_of_heap HX2.out)
    obtain ⟨hm, hp, hFF, sb0, so0, sc0, hmap0, -⟩ := H0.out.head
    simp only at hmap0
    have HP0 := Lib.hid hp
    have HMAP0 := Lib.hid hmap0
    have HFF := Lib.hid hFF
    have HMX := Lib.hid ((HB5.out.block _ (lt_of_heap hmap0)).trans hmap0)
    have q0 := blk_cell ((HB5.out.block _ (lt_of_heap hp)).trans hp)
    have q2 := blk_cell HX5.out
    have hu := mupd_one (w := w5.drew) (v := .agg (lC p m (.slice (some ⟨lb, 0, none⟩) 1 lc) t (max sent0 sent) (max exp0 ex))) Tryz.nameK Tryz.underlying86 (show w5.drew.heap[hm]? = _ from HMX.out) hkey
    have hne2 : w1.heap.size ≠ hm := Nat.ne_of_gt (Nat.lt_of_lt_of_le (lt_of_heap hmap0) HB1.out.size)
    have R0 := Lib.hid (fun o i => show (setBlock w5.drew hm o).cell? ⟨h, i, none⟩ = _ from (cell_set hFF.2.2).trans (q0 i))
    have R2 := Lib.hid (fun o i => show (setBlock w5.drew hm o).cell? ⟨w1.heap.size, i, none⟩ = _ from (cell_set hne2).trans (q2 i))
    clear hw5 c4 f4 l4 hp hmap0 hFF hne2
    unfold lC at q2 R2 hu
    unfold nmV at hu
    go_region_held_law (fun u => (∀ i, u.cell? ⟨h, i, none⟩ = #[Value.int .i64 rho, Value.map (some hm)][i]?) ∧ (∀ i, u.cell? ⟨w1.heap.size, i, none⟩ = #[Value.int .i64 0, Value.int .i64 1, Value.string p, Value.int .i64 m, Value.slice (some ⟨lb, 0, none⟩) 1 lc, Value.int .i64 t, Value.int .i64 (max sent0 sent), Value.int .i64 (max exp0 ex), Value.bool false][i]?)) (first | exact ⟨q0, q2⟩ | exact ⟨R0.out _, R2.out _⟩) (fail)
    go_wp2_with fail
    go_ret
    have hiv7 : Ck8.IntsV (fun k => w.heap.size ≤ k) w5 (.slice (some ⟨lb, 0, none⟩) 1 lc) [s1] :=
      (HIV4.out.keep (w' := w5) (fun k hk hd => HO5.out k (by have hd : wc.heap.size ≤ k := hd; have := HLW.out; omega)) (by rw [HZ5.out]; exact Nat.le_refl _)).mono (fun k _ hd => Nat.le_trans HB3.out.size hd)
    obtain ⟨h1, h2⟩ := HoAt.put (l := ⟨p, m, s1, t, max sent0 sent, max exp0 ex⟩) HP0.out HFF.out ⟨_, _, HMAP0.out⟩ ((Mod.of_below (F := F) HB5.out).drew) (HB5.out.block _ (lt_of_heap HP0.out)) (HB5.out.block _ (lt_of_heap HMAP0.out)) (hiv7.below (Ck8.below_drew w5)) rfl 0 1 rfl rfl
    refine ⟨rfl, ?_, h2⟩
    unfold Ls.fresh
    simp only
    rw [← HEX.out, ← HS1v.out]
    exact h1
end Go.Proofs.YtchdfogifhfclaaGreatDoor
namespace Go.Proofs.YtchdfogifhfclaaGreatDoor
open Go.RowKit Go.Maps Go.MapKept
open Go.ChangeMaps (setBlock)

theorem isortL_any (a : Option Addr) (n c : Nat) (hn : n ≤ 1) (f : Value) (w : World) : Calls Tryz.prog 187 #[.slice a n c, .int .i64 0, .int .i64 (n : Int), f] w fun e w' => e = .returned (.tuple #[]) ∧ w = w' := by
  have h1 : ¬ (1 : Int) < (n : Int) := by omega
  go_enter Tryz.func187, Tryz.ntmps187
  go_wp2_with fail
  refine wp_loop_rounds 1 ?_
  rw [rounds_succ]
  go_wp2_with fail
  go_end0
  exact ⟨rfl, rfl⟩
set_option maxRecDepth 100000 in
set_option maxHeartbeats 1000000 in
theorem pdqL_any (a : Option Addr) (n c : Nat) (hn : n ≤ 1) (l : Int) (f : Value) (w : World) : Calls Tryz.prog 149 #[.slice a n c, .int .i64 0, .int .i64 (n : Int), .int .i64 l, f] w fun e w' => e = .returned (.tuple #[]) ∧ w = w' := by
  have h1 : decide ((n : Int) ≤ 12) = true := decide_eq_true (by omega)
  have h0 : (0 : Int) ≤ (n : Int) := by omega
  have h2 : (n : Int) ≤ 12 := by omega
  go_enter Tryz.func149, Tryz.ntmps149
  go_wp2_with fail
  refine wp_loop_rounds 1 ?_
  rw [rounds_succ]
  go_wp2_with fail
  refine (isortL_any a n c hn f _).mono ?_
  rintro e w1 ⟨rfl, rfl⟩
  go_wp2_with fail
  exact bodyPost_ret (results_none rfl _ _ _) rfl ⟨rfl, rfl⟩
theorem sortL_any (a : Option Addr) (n c : Nat) (hn : n ≤ 1) (f : Value) (w : World) : Calls Tryz.prog 102 #[.slice a n c, f] w fun e w' => e = .returned (.tuple #[]) ∧ w = w' := by
  have h0 : (0 : Int) ≤ (n : Int) := by omega
  have h2 : (n : Int) ≤ 12 := by omega
  go_enter Tryz.func102, Tryz.ntmps102
  go_wp2_with fail
  refine (len01 n hn _).mono ?_
  rintro e w1 ⟨r, rfl, rfl⟩
  go_wp2_with fail
  refine (pdqL_any a n c hn r f _).mono ?_
  rintro e w1 ⟨rfl, rfl⟩
  go_wp2_with fail
  go_end0
  exact ⟨rfl, rfl⟩
theorem Tryz.infoLs : (Tryz.prog.info? 49).map (fun i => (i.zero, i.size, i.bytes)) = some (some (.agg zlC), 9, 96) := by kernel_rfl
set_option maxRecDepth 100000 in
set_option maxHeartbeats 2000000 in
theorem listH_none (F : Nat → Prop) (h : Nat) (rho : Int) (w : World) (H : HoAt F h rho none w) : Calls Tryz.prog 54 #[.pointer (some ⟨h, 0, none⟩)] w fun e w' => e = .returned (.slice none 0 0) ∧ Below w.heap.size w w' := by
  obtain ⟨hm, hp, -, hp3⟩ := H.head
  have hown := own_none Tryz.prog 102 anyR (show w.heap[hm]? = some (.map #[] 0) from hp3)
  have c0 := blk_cell hp
  clear H hp hp3
  go_enter Tryz.func54, Tryz.ntmps54
  go_wp2_with (at_range; refine wpList_range_own _ rfl _ 86 rfl 102 49 Tryz.nameK Tryz.underlying86 _ hm 0 _ rfl hown ?_; intro w5 hrg hg5 hs5)
  have HG5 := Lib.hid hg5
  clear hown hg5 c0
  go_frame
  refine wp_loop_rounds 1 ?_
  rw [rounds_succ]
  go_wp2_with (at_next; refine wpList_next_ranges _ rfl _ rfl 102 Tryz.nameK anyR id id (fun key kl hk => ⟨key, rfl⟩) (fun v _ _ => ⟨v, rfl⟩) hm _ 0 _ _ _ rfl hrg ?_ ?_)
  · intro _ _
    go_wp2_with fail
    refine (sortL_any none 0 0 (by omega) _ _).mono ?_
    rintro e w6 ⟨rfl, rfl⟩
    go_wp2_with fail
    go_ret
    exact ⟨rfl, (Below.refl _ _).grown HG5.out (Nat.le_refl _) (fun k e => by cases e)⟩
  · intro x c kl yd yp w5 cnt2 hkey hlk hv hat hrg2 hlt hg2 hs5 hen
    exact absurd hlt (by simp [Maps.size])
theorem own_ls {w : World} {hm : Nat} {v0 : Value} (h : w.heap[hm]? = some (.map #[⟨nmV, v0, 0⟩] 1)) : ∃ (R : Value → Option (DataW Unit × List MemPlace)) (D : DataW Unit), w.ownsMap Tryz.prog 102 R hm 1 D ∧ Maps.size D = 1 ∧ ∀ v z, R v = some z → v = v0 := by
  obtain ⟨lk, hkey⟩ := keyN
  obtain ⟨R, hR, hR2⟩ : ∃ R : Value → Option (DataW Unit × List MemPlace), R v0 = some (.lit (.bool true), []) ∧ ∀ v z, R v = some z → v = v0 := by
    classical
    refine ⟨fun v => if v = v0 then some (.lit (.bool true), []) else none, by simp, fun v z hz => ?_⟩
    by_cases hv : v = v0
    · exact hv
    · simp [hv] at hz
  refine ⟨R, _, ⟨_, 1, h, ⟨by simp [maxLen], ⟨by simp, by simp, by simp⟩, ?_⟩, by simp, rfl⟩, ?_, hR2⟩
  · intro x hx
    simp at hx
    subst hx
    exact ⟨(lk, .lit (.bool true)), by simp [Go.WideElems.rd, hkey, hR]⟩
  · simp [Maps.size, DataW.insert]
theorem row_cells9f {w : World} {base g cap : Nat} {e : TypeId} {cs : Array Value} (h : w.ownsRow base e 9 (.slice (some ⟨g, 0, none⟩) 1 cap) 1 cs.toList) (hs : cs.size = 9) : (base ≤ g ∧ g < w.heap.size ∧ 1 ≤ cap) ∧ (∀ i, i < 9 → w.cell? ⟨g, i, none⟩ = cs[i]?) ∧ (∀ i, i < 9 → w.frozen? ⟨g, i, none⟩ = false) := by
  obtain ⟨h0, h1⟩ := row_cells9 h hs
  refine ⟨h0, h1, fun i _ => ?_⟩
  obtain ⟨_, ⟨hr, _⟩ | ⟨g', cap', cur, hr, g1, h2, _⟩⟩ := h
  · cases hr
  · cases hr
    exact blk_free h2 i
theorem grown_of_below {w w' : World} (hb : Below w.heap.size w w') : w.grownBy w' none := ⟨hb.os, hb.tape, hb.output, hb.size, fun j hj _ => hb.block j hj⟩
def ListHP (l : Ls) (w : World) (e : Ending) (w' : World) : Prop := ∃ b c vb vc, e = .returned (.slice (some ⟨b, 0, none⟩) 1 c) ∧ 1 ≤ c ∧ w.heap.size ≤ b ∧ b < w'.heap.size ∧ (∀ i, i < 9 → w'.cell? ⟨b, i, none⟩ = (lC l.p l.m (.slice (some ⟨vb, 0, none⟩) 1 vc) l.t l.sent l.exp)[i]?) ∧ (∀ i, i < 9 → w'.frozen? ⟨b, i, none⟩ = false) ∧ Ck8.IntsV (fun k => w.heap.size ≤ k ∧ k ≠ b) w' (.slice (some ⟨vb, 0, none⟩) 1 vc) [l.s] ∧ Below w.heap.size w w'
set_option maxRecDepth 100000 in
set_option maxHeartbeats 4000000 in
theorem listH_some (F : Nat → Prop) (h : Nat) (rho : Int) (l : Ls) (w : World) (H : HoAt F h rho (some l) w) : Calls Tryz.prog 54 #[.pointer (some ⟨h, 0, none⟩)] w (ListHP l w) := by
  obtain ⟨iL, hiL, hz0, hz1, hz2⟩ := info_parts Tryz.infoLs
  obtain ⟨hm, hp, -, sb, so, sc, hmap, hiv⟩ := H.head
  obtain ⟨p, m, s, t, sent, exp⟩ := l
  simp only at hmap hiv
  obtain ⟨R, D, hown, hD, hR⟩ := own_ls hmap
  have HIV := Lib.hid (hiv.mono (G' := fun _ => True) (fun _ _ _ => trivial))
  have HR := Lib.hid hR
  have c0 := blk_cell hp
  clear H hp hmap hiv hR
  go_enter Tryz.func54, Tryz.ntmps54
  go_wp2_with (at_range; refine wpList_range_own _ rfl _ 86 rfl 102 49 Tryz.nameK Tryz.underlying86 _ hm 1 _ rfl hown ?_; intro w5 hrg hg5 hs5)
  have HB5 := Lib.hid ((Below.refl w.heap.size w).grown hg5 (Nat.le_refl _) (fun k e => by cases e))
  clear hown hg5 c0
  go_frame
  refine wp_loop_rounds 2 ?_
  rw [rounds_succ]
  go_wp2_with (at_next; refine wpList_next_ranges _ rfl _ rfl 102 Tryz.nameK R id id (fun key kl hk => ⟨key, rfl⟩) (fun v _ _ => ⟨v, rfl⟩) hm _ 1 _ _ _ rfl hrg ?_ ?_)
  · intro x c kl yd yp w6 cnt2 hkey hlk hv hat hrg2 hlt hg6 hs6 hen
    obtain rfl := HR.out _ _ hv
    unfold lC at hen
    have HB6 := Lib.hid (HB5.out.grown hg6 (by omega) (fun k e => by cases e; exact Nat.le_refl _))
    have HIV6 := Lib.hid ((HIV.out).below (show Below w.heap.size w w6 from HB6.out))
    have HRG := Lib.hid (hlt ▸ hrg2)
    clear hg6 hv hrg2 hat hlk hkey
    go_upto_region 7 with fail
    obtain ⟨w7, hw7⟩ : ∃ w7, w7 = w6.alloc (.cells #[.int .i64 0, .int .i64 1, .string p, .int .i64 m, .slice (some ⟨sb, so, none⟩) 1 sc, .int .i64 t, .int .i64 sent, .int .i64 exp, .bool false] 49) := ⟨_, rfl⟩
    rw [← hw7]
    have hb7 : Below w6.heap.size w6 w7 := by rw [hw7]; exact below_one _ _
    have HX7 := Lib.hid (show w7.heap[w6.heap.size]? = some (.cells (lC p m (.slice (some ⟨sb, so, none⟩) 1 sc) t sent exp) 49 (0, 0)) by rw [hw7]; exact heap_at _ _ _ rfl)
    have HIV7 := Lib.hid (HIV6.out.below hb7)
    have HRG7 := Lib.hid (HRG.out.kept (grown_of_below hb7) (by simp) (by simp))
    have HB7 := Lib.hid (below_step HB6.out hb7)
    have HZ6 := Lib.hid hs6
    clear hb7 hw7 HRG hen hs6
    rw [show w.heap.size + 1 = w6.heap.size from HZ6.out.symm]
    go_wp2_with (refine wpList_load_row rfl 49 (.tmp 5) rfl w6.heap.size rfl 49 (lC p m (.slice (some ⟨sb, so, none⟩) 1 sc) t sent exp) (0, 0) _ HX7.out Tryz.underlying49 rfl (by kernel_rfl) ?_)
    refine (ltwin_any _ p m s t sent exp _ _ HIV7.out).mono ?_
    rintro e w8 ⟨vb, vc, rfl, hiv8, hb8⟩
    have HIV8 := Lib.hid hiv8
    have HRG8 := Lib.hid (HRG7.out.kept (grown_of_below hb8) (by simp) (by simp))
    have HB8 := Lib.hid (below_step HB7.out hb8)
    clear hiv8 hb8 HRG7
    unfold lC
    go_wp2_with (first
      | (at_builtin; refine wpList_append_lies _ rfl (.tmp 17) (.tmp 20) _ rfl w8.heap.size 49 iL _ 9 96 Tryz.underlying104 hiL hz0 hz1 hz2 rfl (by omega) (.slice none 0 0) 0 [] rfl (World.ownsRow_nil _ _ _ _) ⟨w8.heap.size, 0, none⟩ 1 1 (lC p m (.slice (some ⟨vb, 0, none⟩) 1 vc) t sent exp).toList rfl rfl (World.news_of_block (heap_at _ (.cells (lC p m (.slice (some ⟨vb, 0, none⟩) 1 vc) t sent exp) 49) _ (by simp))) (by simp [lC, Value.oneCell']) (by omega) (by unfold maxLen; omega) (by omega) (by simp) _ rfl ?_; intro g9 cap9 w9 hown9 hgrow9 hat9 hlt9; have HOWN := Lib.hid hown9; have HG9 := Lib.hid hgrow9; clear hown9 hgrow9 hat9 hlt9))
    have hb9 : Below w8.heap.size w8 w9 := below_step (below_one w8 _) ((Below.refl _ _).grown HG9.out (Nat.le_refl _) (by intro k hk; cases hk))
    have HB9 := Lib.hid (below_step HB8.out hb9)
    have HIV9 := Lib.hid ((HIV8.out.mono (G' := fun k => w7.heap.size ≤ k ∧ k < w8.heap.size) (fun k hk hd => ⟨hd, hk⟩)).below hb9)
    have hrg9 := HRG8.out.kept (grown_of_below hb9) (by simp) (by simp)
    have HZ := Lib.hid (show w.heap.size ≤ w7.heap.size ∧ w.heap.size ≤ w8.heap.size from ⟨HB7.out.size, HB8.out.size⟩)
    clear hb9
    rw [rounds_succ]
    go_wp2_with (at_next; refine wpList_next_ranges _ rfl _ rfl 102 Tryz.nameK R id id (fun key kl hk => ⟨key, rfl⟩) (fun v _ _ => ⟨v, rfl⟩) hm _ 1 _ _ _ rfl hrg9 ?_ ?_)
    · intros
      go_wp2_with fail
      refine (sortL_any (some ⟨g9, 0, none⟩) 1 cap9 (by omega) _ _).mono ?_
      rintro e w10 ⟨rfl, rfl⟩
      go_wp2_with fail
      go_ret
      obtain ⟨⟨hg1, hg2, hg3⟩, hg4, hg5⟩ := row_cells9f (cs := lC p m (.slice (some ⟨vb, 0, none⟩) 1 vc) t sent exp) (by simpa using HOWN.out) rfl
      have hz := HZ.out
      exact ⟨g9, cap9, vb, vc, rfl, hg3, by omega, hg2, hg4, hg5, HIV9.out.mono (fun k _ hd => ⟨by omega, by omega⟩), HB9.out⟩
end Go.Proofs.YtchdfogifhfclaaGreatDoor
