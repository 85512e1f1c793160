/- The book: Insert, change at the three records.  The book: change, a fresh stamp.  The book: Apply.  The book: Apply at the three records; lay.  The book: Encode at the three records.  The book: Encode of a fresh stamp, of a grant. -/
import Derived.Test.YtchdfogifhfclaaGreatDoorBke
import Derived.Deep.RegionLaw
import Derived.Test.YtchdfogifhfclaaGreatDoorWrbM
import Derived.Test.YtchdfogifhfclaaGreatDoorWakeM
namespace Go.Proofs.YtchdfogifhfclaaGreatDoor
open Go.RowKit

def InsPost (g : Gr) (sv : Value) (w : World) (e : Ending) (w' : World) : Prop := ∃ b c, e = .returned (.slice (some ⟨b, 0, none⟩) 1 c) ∧ w'.ownsRow w.heap.size 45 6 (.slice (some ⟨b, 0, none⟩) 1 c) 1 (gC 1 1 g.p g.m sv g.t).toList ∧ Below w.heap.size w w'
set_option maxRecDepth 100000 in
set_option maxHeartbeats 1000000 in
theorem insert_any (g : Gr) (a : Option Addr) (n c : Nat) (nb : Nat) (w : World) (h : w.heap[nb]? = some (.cells (gC 1 1 g.p g.m (.slice a n c) g.t) 45 (0, 0))) :
    Calls Tryz.prog 176 #[.slice none 0 0, .int .i64 0, .slice (some ⟨nb, 0, none⟩) 1 1] w (InsPost g (.slice a n c) w) := by
  obtain ⟨iG, hiG, hz0, hz1, hz2⟩ := info_parts Tryz.infoG
  have H := Lib.hid h
  clear h
  go_enter Tryz.func176, Tryz.ntmps176
  go_wp2_with (at_builtin; refine wpList_append_lies _ rfl (.tmp 23) (.tmp 24) _ rfl w.heap.size 45 iG _ 6 72 Tryz.underlying70 hiG hz0 hz1 hz2 rfl (by omega) (.slice none 0 0) 0 [] rfl (World.ownsRow_nil _ _ _ _) ⟨nb, 0, none⟩ 1 1 (gC 1 1 g.p g.m (.slice a n c) g.t).toList rfl rfl (World.news_of_block H.out) (fun u hu => by have := gC_one 1 1 g.p g.m a n c g.t; rw [Array.all_eq_true_iff_forall_mem] at this; exact this u (by simpa using hu)) (by omega) (by unfold maxLen; omega) (by omega) (Nat.le_refl _) _ rfl ?_; intro g6 cap6 w6 hown6 hgrow6 hat6 hlt6; have HOWN := Lib.hid hown6; have HG6 := Lib.hid hgrow6; clear hown6 hgrow6 hat6 hlt6)
  go_ret
  exact ⟨_, _, rfl, HOWN.out, (Below.refl _ _).grown HG6.out (Nat.le_refl _) (by intro k hk; simp [Value.ownBlock] at hk)⟩
/-- What change leaves behind. -/
def ChPost (B bp : Nat) (next longest : Int) (o : Option Gr) (w : World) (e : Ending) (w' : World) : Prop := e = .returned (.bool true) ∧ ∃ gs, w'.heap[bp]? = some (.cells (bC next longest gs) 72 (0, 0)) ∧ GsV (fun k => B ≤ k ∧ k ≠ bp) w' gs o ∧ Below B w w'
set_option maxRecDepth 100000 in
set_option maxHeartbeats 1000000 in
theorem change_long (B bp : Nat) (t : Int) (w : World) (h : w.heap[bp]? = some (.cells (bC 1 0 (.slice none 0 0)) 72 (0, 0))) (hB : B ≤ bp) (ht : 4 ≤ t ∧ t ≤ 1048576) : Calls Tryz.prog 130 #[.pointer (some ⟨bp, 0, none⟩), recLong t] w (ChPost B bp 1 t none w) := by
  have hlt := lt_of_heap h
  have d0 : decide (0 < t) = true := decide_eq_true (by omega)
  have c := blk_cell h
  have f := blk_free h
  have H := Lib.hid h
  have c0 := c 0
  have c1 := c 1
  have c2 := c 2
  have c3 := c 3
  have f2 := f 2
  clear h c f ht
  unfold bC at c0 c1 c2 c3
  unfold recLong rC estr
  go_enter Tryz.func130, Tryz.ntmps130
  go_wp2_with fail
  go_quiet ((go_at_call 174; exact quiet_eq (at_none 0 _)))
  go_wp2_with fail
  go_quiet (fail)
  go_wp2_with fail
  go_ret
  refine ⟨rfl, .slice none 0 0, ?_, rfl, ?_⟩
  · exact blk_set (i := 2) (u := .int .i64 t) (show _ = some (.cells (bC 1 0 (.slice none 0 0)) 72 (0, 0)) from (heap_past _ _ _ hlt).trans H.out)
  · exact (((Below.refl B w).alloc (by omega) _).trans ((below_drewN _ _).mono (by simp; omega))).setCell (p := ⟨bp, 2, none⟩) hB _
set_option maxRecDepth 100000 in
set_option maxHeartbeats 4000000 in
theorem change_grant (D : Nat → Prop) (B bp : Nat) (longest : Int) (g : Gr) (sv : Value) (w : World) (h : w.heap[bp]? = some (.cells (bC 1 longest (.slice none 0 0)) 72 (0, 0))) (hB : B ≤ bp) (hs1 : g.s = 1) (hs : Ck8.IntsV D w sv [g.s]) (hD : ¬ D bp) :
    Calls Tryz.prog 130 #[.pointer (some ⟨bp, 0, none⟩), recGrant g.p g.m sv g.t] w (ChPost B bp 2 longest (some g) w) := by
  have hlt := lt_of_heap h
  obtain ⟨sb, so, sc, rfl, _, _, _, _, _⟩ := hs.at_ (j := 0) rfl
  obtain ⟨p, m, s, t⟩ := g
  simp only at hs1 hs
  subst hs1
  obtain ⟨w0, hw0⟩ : ∃ w0, w0 = w.alloc (.cells (rC 4 1 1 p m (.slice (some ⟨sb, so, none⟩) 1 sc) t 0 (.slice none 0 0) 0 0) 98) := ⟨_, rfl⟩
  have hB0 : Below w.heap.size w w0 := by rw [hw0]; exact (Below.refl _ _).alloc (Nat.le_refl _) _
  have hx0 : w0.heap[w.heap.size]? = some (.cells (rC 4 1 1 p m (.slice (some ⟨sb, so, none⟩) 1 sc) t 0 (.slice none 0 0) 0 0) 98 (0, 0)) := by rw [hw0, heap_at _ _ _ rfl]
  have hx1 := (hB0.block bp hlt).trans h
  have HB0 := Lib.hid hB0
  have HX0 := Lib.hid hx0
  have HX1 := Lib.hid hx1
  have HS := Lib.hid (hs.below hB0)
  have HSZ := Lib.hid (show w0.heap.size = w.heap.size + 1 by rw [hw0]; simp)
  have r0 := blk_cell hx0
  have b0 := blk_cell hx1
  have bf := blk_free hx1
  clear hs h hB0 hx0 hx1
  unfold rC at hw0 r0
  unfold bC at b0
  unfold recGrant rC
  go_enter Tryz.func130, Tryz.ntmps130
  go_wp2_with fail
  rw [← hw0]
  clear hw0
  go_quiet ((go_at_call 174; exact quiet_eq (at_none 0 _)))
  obtain ⟨n1, rfl⟩ : ∃ n1 : Nat, n1 = nq := ⟨_, rfl⟩
  go_wp2_with fail
  go_quiet (fail)
  go_wp2_with fail
  obtain ⟨w1, hw1⟩ : ∃ w1, w1 = (w0.drewN (n1 + nq)).setCell ⟨bp, 0, none⟩ (.int .i64 2) := ⟨_, rfl⟩
  rw [← hw1]
  have hy1 : w1.heap[bp]? = some (.cells (bC 2 longest (.slice none 0 0)) 72 (0, 0)) := by rw [hw1]; exact blk_set (show (w0.drewN _).heap[bp]? = _ from HX1.out) 0 _
  have hy0 : w1.heap[w.heap.size]? = some (.cells (rC 4 1 1 p m (.slice (some ⟨sb, so, none⟩) 1 sc) t 0 (.slice none 0 0) 0 0) 98 (0, 0)) := by rw [hw1]; exact blk_far (show (w0.drewN _).heap[w.heap.size]? = _ from HX0.out) (by show w.heap.size ≠ bp; omega) _
  have hB1 : Below B w w1 := by rw [hw1]; exact ((HB0.out.mono (by omega)).trans ((below_drewN _ _).mono (by have := HSZ.out; omega))).setCell (p := ⟨bp, 0, none⟩) hB _
  have HY0 := Lib.hid hy0
  have HY1 := Lib.hid hy1
  have HB1 := Lib.hid hB1
  have HSZ1 := Lib.hid (show w1.heap.size = w.heap.size + 1 by rw [hw1]; simp [World.setCell]; exact HSZ.out)
  have HS1 := Lib.hid (show Ck8.IntsV D w1 (.slice (some ⟨sb, so, none⟩) 1 sc) [1] by rw [hw1]; exact HS.out.keep (fun k hk hk2 => Below.heap_setCell (w0.drewN (n1 + nq)) ⟨bp, 0, none⟩ _ k (fun e => hD (by rw [show bp = k from e.symm]; exact hk2))) (by simp [World.setCell]))
  have e0 := blk_cell hy0
  have e1 := blk_cell hy1
  have f1 := blk_free hy1
  clear hw1 hy0 hy1 hB1 r0 b0 bf
  unfold rC at e0
  unfold bC at e1
  go_quiet ((go_at_call 174; exact quiet_eq (at_none 1 _)))
  obtain ⟨n2, rfl⟩ : ∃ n2 : Nat, n2 = nq := ⟨_, rfl⟩
  go_wp2_with fail
  go_upto_region 20 with fail
  go_region_law (first
    | (go_simp; go_at_call 173; (refine (btwin_any _ ⟨p, m, 1, t⟩ _ _ (HS1.out.below (below_drewN _ _))).mono ?_); rintro e w2 ⟨sv', rfl, hv, hb2⟩; (obtain ⟨vb, vo, vc, rfl, _, _, _, _, _⟩ := hv.at_ (j := 0) rfl); have q1 : w2.cell? ⟨bp, 3, none⟩ = some (.slice none 0 0) := blk_cell ((hb2.block bp (by have := HSZ1.out; show _ < w1.heap.size; omega)).trans HY1.out) 3; have HV := Lib.hid hv; have HB2 := Lib.hid (below_step (below_drewN w1 _) hb2); have HY2 := Lib.hid ((hb2.block bp (by have := HSZ1.out; show _ < w1.heap.size; omega)).trans HY1.out); have hp2 : bp < w2.heap.size := lt_of_heap HY2.out; clear hv hb2; unfold gC)
    | (go_simp; go_at_call 176; (refine (insert_any ⟨p, m, 1, t⟩ (some ⟨vb, vo, none⟩) 1 vc w2.heap.size _ (heap_at w2 _ _ rfl)).mono ?_); rintro e w3 ⟨ib, ic, rfl, hown, hb3⟩; have HOWN := Lib.hid hown; have HB3 := Lib.hid (below_step ((Below.refl w2.heap.size w2).alloc (Nat.le_refl _) _) hb3); have q3 : w3.cell? ⟨bp, 3, none⟩ = some (.slice none 0 0) := blk_cell ((HB3.out.block bp (lt_of_heap HY2.out)).trans HY2.out) 3; have q4 : w3.frozen? ⟨bp, 3, none⟩ = false := blk_free ((HB3.out.block bp (lt_of_heap HY2.out)).trans HY2.out) 3; have HY3 := Lib.hid ((HB3.out.block bp (lt_of_heap HY2.out)).trans HY2.out); clear hown hb3))
  all_goals
    go_wp2_with fail
    obtain ⟨w4, hw4⟩ : ∃ w4, w4 = w3.setCell ⟨bp, 3, none⟩ (.slice (some ⟨ib, 0, none⟩) 1 ic) := ⟨_, rfl⟩
    rw [← hw4]
    have hz1 : w4.heap[bp]? = some (.cells (bC 2 longest (.slice (some ⟨ib, 0, none⟩) 1 ic)) 72 (0, 0)) := by rw [hw4]; exact blk_set HY3.out 3 _
    have hz3 : Below w1.heap.size w1 w3 := HB2.out.trans (HB3.out.mono HB2.out.size)
    have hz0 : w4.heap[w.heap.size]? = some (.cells (rC 4 1 1 p m (.slice (some ⟨sb, so, none⟩) 1 sc) t 0 (.slice none 0 0) 0 0) 98 (0, 0)) := by rw [hw4]; exact blk_far ((hz3.block _ (by have := HSZ1.out; omega)).trans HY0.out) (by show w.heap.size ≠ bp; omega) _
    have hz4 : Below B w w4 := by rw [hw4]; exact (HB1.out.trans (hz3.mono (by have := HSZ1.out; omega))).setCell (p := ⟨bp, 3, none⟩) hB _
    have hz5 : Ck8.IntsV D w4 (.slice (some ⟨sb, so, none⟩) 1 sc) [1] := by rw [hw4]; exact (HS1.out.below hz3).keep (fun k hk hk2 => Below.heap_setCell w3 ⟨bp, 3, none⟩ _ k (fun e => hD (by rw [show bp = k from e.symm]; exact hk2))) (by simp [World.setCell])
    have hz6 : OneG (fun k => B ≤ k ∧ k ≠ bp) w4 (.slice (some ⟨ib, 0, none⟩) 1 ic) ⟨p, m, 1, t⟩ := by
      have h6 : OneG (fun k => w1.heap.size ≤ k) w3 (.slice (some ⟨ib, 0, none⟩) 1 ic) ⟨p, m, 1, t⟩ := OneG.of_own (row_base HOWN.out (by have := HB2.out.size; simp; omega)) ((HV.out.mono (fun k _ hk => by simpa using hk)).below HB3.out)
      rw [hw4]
      refine (h6.keep (fun k hk hk2 => ?_) (by simp [World.setCell])).mono (fun k hk hk2 => ?_)
      · exact Below.heap_setCell w3 ⟨bp, 3, none⟩ _ k (by have := HSZ1.out; have : w1.heap.size ≤ k := hk2; show k ≠ bp; omega)
      · have := HSZ1.out; have : w1.heap.size ≤ k := hk2; exact ⟨by omega, by omega⟩
    have HZ1 := Lib.hid hz1
    have HZ4 := Lib.hid hz4
    have HZ5 := Lib.hid hz5
    have HZ6 := Lib.hid hz6
    have x0 := blk_cell hz0
    have x1 : w4.cell? ⟨bp, 0, none⟩ = some (.int .i64 2) := blk_cell hz1 0
    clear hz0 hz1 hz3 hz4 hz5 hz6 hw4
    unfold rC at x0
    go_quiet ((go_at_call 169; exact quiet_eq (newest_any D 1 _ _ (HZ5.out.below (below_drewN _ _)))))
    go_wp2_with fail
    go_ret
    exact ⟨rfl, _, HZ1.out, HZ6.out.below (below_drewN _ _), HZ4.out.trans ((below_drewN _ _).mono (by have := HZ4.out.size; have := lt_of_heap HZ1.out; omega))⟩
end Go.Proofs.YtchdfogifhfclaaGreatDoor
namespace Go.Proofs.YtchdfogifhfclaaGreatDoor
open Go.RowKit

/-- A new stamp in a grant. -/
theorem OneG.restamp {D : Nat → Prop} {w : World} {b c : Nat} {p : ByteArray} {m s s' t : Int} {v : Value} (hg : OneG D w (.slice (some ⟨b, 0, none⟩) 1 c) ⟨p, m, s, t⟩) (hs : Ck8.IntsV (fun k => D k ∧ k ≠ b) w v [s']) : OneG D (w.setCell ⟨b, 4, none⟩ v) (.slice (some ⟨b, 0, none⟩) 1 c) ⟨p, m, s', t⟩ := by
  obtain ⟨b', c', sv, e, h1, h2, h3, h4, h5, h6, _⟩ := hg
  injection e with e _ e2
  injection e with e
  injection e with e
  subst e e2
  refine ⟨b, c, v, rfl, h1, h2, h3, by simpa [World.setCell] using h4, fun i hi => ?_, fun i => ?_, ?_⟩
  · by_cases e4 : i = 4
    · subst e4
      exact World.cell?_setCell_same _ _ _ (u := sv) (h5 4 (by omega))
    · rw [World.cell?_setCell_other _ _ _ _ (by intro e; injection e with _ e; omega), h5 i hi]
      match i, hi, e4 with
      | 0, _, _ => rfl
      | 1, _, _ => rfl
      | 2, _, _ => rfl
      | 3, _, _ => rfl
      | 5, _, _ => rfl
  · rw [World.frozen?_setCell]; exact h6 i
  · exact (hs.keep (fun k hk hk2 => Below.heap_setCell w ⟨b, 4, none⟩ v k hk2.2) (by simp [World.setCell])).mono (fun k _ h => h.1)
set_option maxRecDepth 100000 in
set_option maxHeartbeats 4000000 in
theorem change_fresh (D : Nat → Prop) (B bp : Nat) (longest : Int) (p : ByteArray) (m t : Int) (gs sv : Value) (w : World) (h : w.heap[bp]? = some (.cells (bC 2 longest gs) 72 (0, 0))) (hB : B ≤ bp) (hg : OneG (fun k => B ≤ k ∧ k ≠ bp) w gs ⟨p, m, 1, t⟩) (hs : Ck8.IntsV D w sv [2]) (hD : ¬ D bp) :
    Calls Tryz.prog 130 #[.pointer (some ⟨bp, 0, none⟩), recFresh sv] w (ChPost B bp 3 longest (some ⟨p, m, 2, t⟩) w) := by
  have hlt := lt_of_heap h
  obtain ⟨sb, so, sc, rfl, _, _, _, _, _⟩ := hs.at_ (j := 0) rfl
  have HG := Lib.hid hg
  obtain ⟨b, c, osv, rfl, hc1, hc2, hbD, hb, -, -, -⟩ := hg
  obtain ⟨w0, hw0⟩ : ∃ w0, w0 = w.alloc (.cells (rC 5 0 0 estr 0 (.slice none 0 0) 0 1 (.slice (some ⟨sb, so, none⟩) 1 sc) 0 0) 98) := ⟨_, rfl⟩
  have hB0 : Below w.heap.size w w0 := by rw [hw0]; exact (Below.refl _ _).alloc (Nat.le_refl _) _
  have hx0 : w0.heap[w.heap.size]? = some (.cells (rC 5 0 0 estr 0 (.slice none 0 0) 0 1 (.slice (some ⟨sb, so, none⟩) 1 sc) 0 0) 98 (0, 0)) := by rw [hw0, heap_at _ _ _ rfl]
  have hx1 := (hB0.block bp hlt).trans h
  have HB0 := Lib.hid hB0
  have HX0 := Lib.hid hx0
  have HX1 := Lib.hid hx1
  have HS := Lib.hid (hs.below hB0)
  have HSZ := Lib.hid (show w0.heap.size = w.heap.size + 1 by rw [hw0]; simp)
  have HG0 := Lib.hid (HG.out.below hB0)
  have r0 := blk_cell hx0
  have b0 : w0.cell? ⟨bp, 0, none⟩ = some (.int .i64 2) := blk_cell hx1 0
  have b3 : w0.cell? ⟨bp, 3, none⟩ = some (.slice (some ⟨b, 0, none⟩) 1 c) := blk_cell hx1 3
  have hnb : b ≠ bp := hbD.2
  have hnb' : b ≠ w.heap.size := by omega
  clear hs h hB0 hx0 hx1 HG
  unfold rC estr at hw0 r0
  unfold recFresh rC estr
  go_enter Tryz.func130, Tryz.ntmps130
  go_wp2_with fail
  rw [← hw0]
  clear hw0
  go_region_held_law (fun u => u.cell? ⟨bp, 3, none⟩ = some (.slice (some ⟨b, 0, none⟩) 1 c) ∧ (∀ i, u.cell? ⟨w.heap.size, i, none⟩ = #[.int .i64 5, .int .i64 0, .int .i64 0, .string ⟨#[]⟩, .int .i64 0, .slice none 0 0, .int .i64 0, .int .i64 1, .slice (some ⟨sb, so, none⟩) 1 sc, .int .i64 0, .int .i64 0, .int .i64 0][i]?)) (first | (go_split_ands; exact ⟨by assumption, by assumption⟩) | go_keep) (first
    | (go_at_call 174; (refine (at_one _ ⟨p, m, 1, t⟩ _ _ (HG0.out.below (below_drewN w0 1))).mono ?_); rintro e w1 ⟨rfl, hb1⟩; have HB1 := Lib.hid (below_step (below_drewN w0 1) hb1); have HY0 := Lib.hid ((HB1.out.block _ (lt_of_heap HX0.out)).trans HX0.out); have HY1 := Lib.hid ((HB1.out.block _ (lt_of_heap HX1.out)).trans HX1.out); have q0 := blk_cell HY0.out; have q3 : w1.cell? ⟨bp, 3, none⟩ = some (.slice (some ⟨b, 0, none⟩) 1 c) := blk_cell HY1.out 3; clear hb1; unfold rC estr at q0))
  have HS1 := Lib.hid (HS.out.below HB1.out)
  have HG1 := Lib.hid (HG0.out.below HB1.out)
  have s0 := blk_cell HY0.out
  have s1 : w1.cell? ⟨bp, 0, none⟩ = some (.int .i64 2) := blk_cell HY1.out 0
  have s3 : w1.cell? ⟨bp, 3, none⟩ = some (.slice (some ⟨b, 0, none⟩) 1 c) := blk_cell HY1.out 3
  have f0 : w1.frozen? ⟨bp, 0, none⟩ = false := blk_free HY1.out 0
  unfold rC estr at s0
  clear r0 b0 b3
  go_wp2_with fail
  go_quiet ((go_at_call 169; exact quiet_eq (newest_any D 2 _ _ (HS1.out.below (below_drewN _ _)))))
  obtain ⟨n2, rfl⟩ : ∃ n2 : Nat, n2 = nq := ⟨_, rfl⟩
  go_wp2_with fail
  obtain ⟨b', c', osv', e1, _, _, _, _, hcell1, hfr1, _⟩ := HG1.out
  obtain ⟨rfl, rfl⟩ : b = b' ∧ c = c' := by simpa using e1
  have HC1 := Lib.hid hcell1
  have HF1 := Lib.hid hfr1
  clear hcell1 hfr1 e1
  go_region_held_law (fun u => u.cell? ⟨bp, 3, none⟩ = some (.slice (some ⟨b, 0, none⟩) 1 c) ∧ (∀ i, u.cell? ⟨w.heap.size, i, none⟩ = #[.int .i64 5, .int .i64 0, .int .i64 0, .string ⟨#[]⟩, .int .i64 0, .slice none 0 0, .int .i64 0, .int .i64 1, .slice (some ⟨sb, so, none⟩) 1 sc, .int .i64 0, .int .i64 0, .int .i64 0][i]?)) (first | (go_split_ands; exact ⟨by assumption, by assumption⟩) | go_keep) (first
    | (go_at_call 177; (refine (cloneInts_any D 2 _ _ (HS1.out.below (below_drewN _ _))).mono ?_); rintro e w2 ⟨v, rfl, hv, hb2⟩; (obtain ⟨vb, vo, vc, rfl, _, _, _, _, _⟩ := hv.at_ (j := 0) rfl); have HB2 := Lib.hid (below_step (below_drewN w1 _) hb2); have HZ0 := Lib.hid ((HB2.out.block _ (lt_of_heap HY0.out)).trans HY0.out); have HZ1 := Lib.hid ((HB2.out.block _ (lt_of_heap HY1.out)).trans HY1.out); have u0 := blk_cell HZ0.out; have u3 : w2.cell? ⟨bp, 3, none⟩ = some (.slice (some ⟨b, 0, none⟩) 1 c) := blk_cell HZ1.out 3; have u4 : w2.cell? ⟨b, 4, none⟩ = some osv' := (HB2.out.cell (p := ⟨b, 4, none⟩) (by have := HB1.out.size; have := HSZ.out; show b < _; omega)).trans (HC1.out 4 (by omega)); have u5 : w2.frozen? ⟨b, 4, none⟩ = false := (HB2.out.frozen (p := ⟨b, 4, none⟩) (by have := HB1.out.size; have := HSZ.out; show b < _; omega)).trans (HF1.out 4); have HV := Lib.hid hv; clear hb2 hv; unfold rC estr at u0))
  have y1 : w2.cell? ⟨bp, 0, none⟩ = some (.int .i64 2) := blk_cell HZ1.out 0
  have y2 : w2.frozen? ⟨bp, 0, none⟩ = false := blk_free HZ1.out 0
  go_wp2_with fail
  go_ret
  refine ⟨rfl, _, blk_set (blk_far HZ1.out (p := ⟨b, 4, none⟩) (Ne.symm hnb) _) 0 (.int .i64 3), ?_, ?_⟩
  · have h2 : OneG (fun k => B ≤ k ∧ k ≠ bp) w2 (.slice (some ⟨b, 0, none⟩) 1 c) ⟨p, m, 1, t⟩ := HG1.out.below HB2.out
    have hv2 : Ck8.IntsV (fun k => (B ≤ k ∧ k ≠ bp) ∧ k ≠ b) w2 (.slice (some ⟨vb, vo, none⟩) [2].length vc) [2] := HV.out.mono (fun k _ hk => by
      have e1 : w1.heap.size ≤ k := by simpa using hk
      have e2 := HB1.out.size
      have e3 := HSZ.out
      exact ⟨⟨by omega, by omega⟩, by omega⟩)
    exact (OneG.restamp h2 hv2).keep (fun k hk hk2 => Below.heap_setCell _ ⟨bp, 0, none⟩ _ k hk2.2) (by simp [World.setCell])
  · have e1 : Below B w w1 := (HB0.out.mono (by omega)).trans (HB1.out.mono (by have := HSZ.out; omega))
    exact ((e1.trans (HB2.out.mono (by have := e1.size; omega))).setCell (p := ⟨b, 4, none⟩) hbD.1 _).setCell (p := ⟨bp, 0, none⟩) hB _
end Go.Proofs.YtchdfogifhfclaaGreatDoor
namespace Go.Proofs.YtchdfogifhfclaaGreatDoor
open Go.RowKit

def YesB (w : World) (e : Ending) (w' : World) : Prop := e = .returned (.bool true) ∧ Below w.heap.size w w'
def ZeroB (w : World) (e : Ending) (w' : World) : Prop := e = .returned (.int .i64 0) ∧ Below w.heap.size w w'
def ApplyPost (next longest : Int) (o : Option Gr) (w : World) (e : Ending) (w' : World) : Prop := ∃ a n c, e = .returned (.tuple #[bV next longest (.slice a n c), .int .i64 0]) ∧ GsV (fun k => w.heap.size ≤ k) w' (.slice a n c) o ∧ Below w.heap.size w w'
/-- Apply's own blocks. -/
structure ApS (w : World) (bc rc : Array Value) (u : World) : Prop where
  h0 : u.heap[w.heap.size]? = some (.cells bc 72 (0, 0))
  h1 : u.heap[w.heap.size + 1]? = some (.cells rc 98 (0, 0))
  h2 : u.heap[w.heap.size + 2]? = some (.cells (bC 0 0 (.slice none 0 0)) 72 (0, 0))
  b : Below w.heap.size w u
theorem ApS.below {w u u' : World} {bc rc : Array Value} (h : ApS w bc rc u) (hb : Below u.heap.size u u') : ApS w bc rc u' :=
  ⟨(hb.block _ (lt_of_heap h.h0)).trans h.h0, (hb.block _ (lt_of_heap h.h1)).trans h.h1, (hb.block _ (lt_of_heap h.h2)).trans h.h2, h.b.trans (hb.mono h.b.size)⟩
theorem GsV.slice {D : Nat → Prop} {w : World} {v : Value} {o : Option Gr} (h : GsV D w v o) : ∃ a n c, v = .slice a n c := by
  cases o with
  | none => exact ⟨_, _, _, h⟩
  | some g => obtain ⟨b, c, _, e, _⟩ := h; exact ⟨_, _, _, e⟩
theorem results_cell_tmp2 {P : Program} {fn : Func} {p q : Tmp} {ty : TypeId} (h : fn.results = #[.cell p ty, .tmp q]) (tmps : Array Value) (w : World) (g : Nat) (t : TypeId) (cs : Array Value) (fr : Nat × Nat) (d : TypeDesc) (v : Value)
    (hp : tmps.getD p undef = .pointer (some ⟨g, 0, none⟩)) (hq : tmps.getD q undef = v) (hg : w.heap[g]? = some (.cells cs t fr))
    (hu : P.underlying ty = some d) (hd : (match d with | .struct _ | .array _ _ => true | _ => false) = true) (hi : (P.info? ty).map (·.size) = some cs.size) :
    (results fn tmps).run P w = .ok (.tuple #[.agg cs, v]) w := by
  have hp' : tmps[p]?.getD undef = .pointer (some ⟨g, 0, none⟩) := by simpa using hp
  have hq' : tmps[q]?.getD undef = v := by simpa using hq
  simp [results, h, hp', hq', asAddr, run_loadVar_row w g t ty cs fr d hg hu hd hi]
set_option maxRecDepth 100000 in
set_option maxHeartbeats 4000000 in
theorem apply_of (next longest : Int) (ga : Option Addr) (gn gc : Nat) (o : Option Gr) (k id h : Int) (p : ByteArray) (m : Int) (sa : Option Addr) (sn sc : Nat) (t rid : Int) (ra : Option Addr) (rn rc : Nat) (n2 l2 next' longest' : Int) (o' : Option Gr) (w : World)
    (hvalid : ∀ W, Below w.heap.size w W → Calls Tryz.prog 126 #[bV next longest (.slice ga gn gc)] W (YesB W))
    (hmay : ∀ W, Below w.heap.size w W → Calls Tryz.prog 127 #[.agg (rC k id h p m (.slice sa sn sc) t rid (.slice ra rn rc) n2 l2)] W (YesB W))
    (hlim : ∀ W, Calls Tryz.prog 128 #[bV next longest (.slice ga gn gc), .int .i64 k] W (ZeroB W))
    (hcop : ∀ W, Below w.heap.size w W → Calls Tryz.prog 129 #[bV next longest (.slice ga gn gc)] W (CopiedPost next longest o W))
    (hchg : ∀ W B bp gs, Below w.heap.size w W → W.heap[bp]? = some (.cells (bC next longest gs) 72 (0, 0)) → B ≤ bp → w.heap.size ≤ B → GsV (fun k => B ≤ k ∧ k ≠ bp) W gs o → Calls Tryz.prog 130 #[.pointer (some ⟨bp, 0, none⟩), .agg (rC k id h p m (.slice sa sn sc) t rid (.slice ra rn rc) n2 l2)] W (ChPost B bp next' longest' o' W)) :
    Calls Tryz.prog 81 #[bV next longest (.slice ga gn gc), .agg (rC k id h p m (.slice sa sn sc) t rid (.slice ra rn rc) n2 l2)] w (ApplyPost next' longest' o' w) := by
  obtain ⟨w0, hw0⟩ : ∃ w0, w0 = ((w.alloc (.cells (bC next longest (.slice ga gn gc)) 72)).alloc (.cells (rC k id h p m (.slice sa sn sc) t rid (.slice ra rn rc) n2 l2) 98)).alloc (.cells (bC 0 0 (.slice none 0 0)) 72) := ⟨_, rfl⟩
  have hs : ApS w (bC next longest (.slice ga gn gc)) (rC k id h p m (.slice sa sn sc) t rid (.slice ra rn rc) n2 l2) w0 := by
    rw [hw0]
    refine ⟨?_, ?_, ?_, (((Below.refl _ _).alloc (Nat.le_refl _) _).alloc (by simp) _).alloc (by simp; omega) _⟩
    · rw [heap_past _ _ _ (by simp; omega), heap_past _ _ _ (by simp), heap_at _ _ _ rfl]
    · rw [heap_past _ _ _ (by simp), heap_at _ _ _ (by simp)]
    · rw [heap_at _ _ _ (by simp)]
  have HS := Lib.hid hs
  have c0 := blk_cell hs.h0
  have c1 := blk_cell hs.h1
  have HV := Lib.hid hvalid
  have HM := Lib.hid hmay
  have HLI := Lib.hid hlim
  have HC := Lib.hid hcop
  have HCH := Lib.hid hchg
  clear hs hvalid hmay hlim hcop hchg
  unfold bC rC at hw0
  unfold bC at c0
  unfold rC at c1
  unfold bV rC
  go_enter Tryz.func81, Tryz.ntmps81
  go_wp2_with fail
  rw [← hw0]
  clear hw0
  refine (HV.out _ HS.out.b).mono ?_
  rintro e w1 ⟨rfl, hb⟩
  have HS1 := Lib.hid (HS.out.below hb)
  have c0 := blk_cell HS1.out.h0
  have c1 := blk_cell HS1.out.h1
  clear hb HS
  unfold bC at c0
  unfold rC at c1
  go_wp2_with fail
  refine (HM.out _ HS1.out.b).mono ?_
  rintro e w2 ⟨rfl, hb⟩
  have HS2 := Lib.hid (HS1.out.below hb)
  have c0 := blk_cell HS2.out.h0
  have c1 := blk_cell HS2.out.h1
  clear hb HS1
  unfold bC at c0
  unfold rC at c1
  go_wp2_with fail
  refine (HLI.out _).mono ?_
  rintro e w3 ⟨rfl, hb⟩
  have HS3 := Lib.hid (HS2.out.below hb)
  have c0 := blk_cell HS3.out.h0
  have c1 := blk_cell HS3.out.h1
  clear hb HS2
  unfold bC at c0
  unfold rC at c1
  go_wp2_with fail
  refine (HC.out _ HS3.out.b).mono ?_
  rintro e w4 ⟨gs, rfl, hgs, hb⟩
  have HS4 := Lib.hid (HS3.out.below hb)
  have HGS := Lib.hid hgs
  have hs34 := hb.size
  have HS34 := Lib.hid hs34
  obtain ⟨xa, xn, xc, rfl⟩ := hgs.slice
  have c0 := blk_cell HS4.out.h0
  have c1 := blk_cell HS4.out.h1
  have z3 := lt_of_heap HS3.out.h2
  have hq1 : w.heap.size + 1 < w4.heap.size := lt_of_heap HS4.out.h1
  have Z3 := Lib.hid z3
  clear hb hgs z3 hs34
  unfold bC at c0
  unfold rC at c1
  unfold bV
  go_wp2_with fail
  refine (HCH.out (w4.alloc (.cells (bC next longest (.slice xa xn xc)) 72)) w3.heap.size w4.heap.size (.slice xa xn xc) (HS4.out.b.alloc HS4.out.b.size _) (heap_at _ _ _ rfl) HS34.out HS3.out.b.size ((HGS.out.mono (fun k hk hk2 => ⟨hk2, by omega⟩)).below ((Below.refl _ _).alloc (Nat.le_refl _) _))).mono ?_
  rintro e w5 ⟨rfl, gs2, h5, hg5, hb5⟩
  have hs5 : ApS w (bC next longest (.slice ga gn gc)) (rC k id h p m (.slice sa sn sc) t rid (.slice ra rn rc) n2 l2) w5 := by
    have hz := Z3.out
    have hy : ApS w (bC next longest (.slice ga gn gc)) (rC k id h p m (.slice sa sn sc) t rid (.slice ra rn rc) n2 l2) (w4.alloc (.cells (bC next longest (.slice xa xn xc)) 72)) := HS4.out.below ((Below.refl _ _).alloc (Nat.le_refl _) _)
    exact ⟨(hb5.block _ (by omega)).trans hy.h0, (hb5.block _ (by omega)).trans hy.h1, (hb5.block _ (by omega)).trans hy.h2, hy.b.trans (hb5.mono HS3.out.b.size)⟩
  obtain ⟨ya, yn, yc, rfl⟩ := hg5.slice
  have HG5 := Lib.hid hg5
  have HS5 := Lib.hid hs5
  have H5 := Lib.hid h5
  have c5 := blk_cell h5
  clear hs5 h5 hg5 hb5
  unfold bC at c5
  go_wp2_with (first
    | (refine wpList_load_row rfl 72 (.tmp 7) rfl w4.heap.size rfl 72 (bC next' longest' (.slice ya yn yc)) (0, 0) _ H5.out Tryz.underlying72 rfl (by kernel_rfl) ?_)
    | (refine wpList_store_row rfl 72 (.tmp 4) (.tmp 31) rfl (w.heap.size + 2) (bC next' longest' (.slice ya yn yc)) rfl rfl 72 _ HS5.out.h2 (by kernel_rfl) rfl (bC_one _ _ _ _ _) ?_))
  refine bodyPost_ret (v := .tuple #[.agg (bC next' longest' (.slice ya yn yc)), .int .i64 0]) (results_cell_tmp2 (fn := Tryz.f81) rfl _ _ (w.heap.size + 2) 72 (bC next' longest' (.slice ya yn yc)) (0, 0) _ _ rfl rfl (setRow_heap _ _ _ _ _ _ HS5.out.h2) Tryz.underlying72 rfl (by kernel_rfl)) rfl ⟨_, _, _, rfl, ?_, below_row HS5.out.b (by omega) _⟩
  have hz := Z3.out
  have hz2 := HS3.out.b.size
  exact (HG5.out.keep (fun k hk hk2 => setRow_other _ _ _ _ (by have : w3.heap.size ≤ k := hk2.1; omega)) (by simp)).mono (fun k _ hk2 => by have : w3.heap.size ≤ k := hk2.1; show w.heap.size ≤ k; omega)
end Go.Proofs.YtchdfogifhfclaaGreatDoor
namespace Go.Proofs.YtchdfogifhfclaaGreatDoor
open Go.RowKit

theorem apply_long (t : Int) (w : World) (ht : 4 ≤ t ∧ t ≤ 1048576) : Calls Tryz.prog 81 #[bV 1 0 (.slice none 0 0), recLong t] w (ApplyPost 1 t none w) :=
  apply_of 1 0 none 0 0 none 2 0 0 estr 0 none 0 0 0 0 none 0 0 0 t 1 t none w (fun W _ => bvalid_none 1 0 W ⟨by omega, .inl rfl, fun g e => by cases e⟩) (fun W _ => mayLong_any t W ht) (fun W => limits_long 1 0 none 0 0 W) (fun W _ => copied_none 1 0 W)
    (fun W B bp gs _ h hB _ hg => by
      have e : gs = .slice none 0 0 := hg
      subst e
      exact change_long B bp t W h hB ht)
theorem apply_grant (D : Nat → Prop) (longest : Int) (g : Gr) (sv : Value) (w : World) (hl : longest = 0 ∨ (4 ≤ longest ∧ longest ≤ 1048576)) (hg : g.OK) (h1 : g.s = 1) (hs : Ck8.IntsV D w sv [g.s]) : Calls Tryz.prog 81 #[bV 1 longest (.slice none 0 0), recGrant g.p g.m sv g.t] w (ApplyPost 2 longest (some g) w) := by
  obtain ⟨sb, so, sc, rfl, _, _, _, _, _⟩ := hs.at_ (j := 0) rfl
  exact apply_of 1 longest none 0 0 none 4 1 1 g.p g.m (some ⟨sb, so, none⟩) [g.s].length sc g.t 0 none 0 0 0 0 2 longest (some g) w (fun W _ => bvalid_none 1 longest W ⟨by omega, hl, fun g e => by cases e⟩) (fun W hb => mayGrantRec_any D g _ W hg h1 (hs.below hb)) (fun W => limits_grant 1 longest (by omega) W) (fun W _ => copied_none 1 longest W)
    (fun W B bp gs hb h hB hB2 hgs => by
      have e : gs = .slice none 0 0 := hgs
      subst e
      exact change_grant (fun k => D k ∧ k < w.heap.size) B bp longest g _ W h hB h1 (hs.old.below hb) (fun hk => by omega))
theorem apply_fresh (D D' : Nat → Prop) (longest : Int) (p : ByteArray) (m t : Int) (gs sv : Value) (w : World) (hl : 4 ≤ longest ∧ longest ≤ 1048576) (hg : (Gr.mk p m 1 t).OK) (hgs : OneG D' w gs ⟨p, m, 1, t⟩) (hs : Ck8.IntsV D w sv [2]) : Calls Tryz.prog 81 #[bV 2 longest gs, recFresh sv] w (ApplyPost 3 longest (some ⟨p, m, 2, t⟩) w) := by
  obtain ⟨sb, so, sc, rfl, _, _, _, _, _⟩ := hs.at_ (j := 0) rfl
  obtain ⟨ga, gn, gc, rfl⟩ := GsV.slice (o := some ⟨p, m, 1, t⟩) hgs
  exact apply_of 2 longest ga gn gc (some ⟨p, m, 1, t⟩) 5 0 0 estr 0 none 0 0 0 1 (some ⟨sb, so, none⟩) [(2 : Int)].length sc 0 0 3 longest (some ⟨p, m, 2, t⟩) w
    (fun W hb => bvalid_some D' 2 longest ⟨p, m, 1, t⟩ _ W ⟨by omega, .inr hl, fun g e => by injection e with e; subst e; exact ⟨hg, by show (1 : Int) < 2; omega⟩⟩ hl (hgs.below hb)) (fun W hb => mayFresh_any D 2 _ W (by omega) (hs.below hb)) (fun W => limits_fresh 2 longest (by omega) ga gn gc W) (fun W hb => copied_some D' 2 longest _ _ W (hgs.below hb))
    (fun W B bp gs hb h hB hB2 hgs => change_fresh (fun k => D k ∧ k < w.heap.size) B bp longest p m t gs _ W h hB hgs (hs.old.below hb) (fun hk => by omega))
def encs (l : List Int) : List UInt8 := (l.map fun n => enc n.toNat).flatten
theorem encs_snoc {l : List Int} {k : Nat} {x : Int} (h : l[k]? = some x) : encs (l.take (k + 1)) = encs (l.take k) ++ enc x.toNat := by
  unfold encs
  rw [List.take_add_one, h]
  simp
def LayPost (G : Nat → Prop) (p : Nat) (l : List UInt8) (w : World) (e : Ending) (w' : World) : Prop := e = .returned (.tuple #[]) ∧ WrAt (Up G w) w' p l ∧ Mod G w w'
set_option maxRecDepth 100000 in
set_option maxHeartbeats 1000000 in
theorem blay_any (G D : Nat → Prop) (p : Nat) (l : List UInt8) (sv : Value) (xs : List Int) (w : World) (h : WrAt G w p l) (hs : Ck8.IntsV D w sv xs) (hD : ∀ k, k < w.heap.size → D k → ¬ G k) (hx : ∀ x ∈ xs, x ≤ 9223372036854775807) (hl : l.length + 9 * xs.length + 9 ≤ 1000) (hbd : ∀ k, k ≤ xs.length → (encs (xs.take k)).length ≤ 9 * k) :
    Calls Tryz.prog 141 #[.pointer (some ⟨p, 0, none⟩), sv] w (LayPost G p (l ++ encs xs) w) := by
  have H := Lib.hid h
  have HS := Lib.hid hs.old
  have HD := Lib.hid hD
  have HX := Lib.hid hx
  have HBD := Lib.hid hbd
  obtain ⟨a, c, rfl, hcl, hcm, _⟩ := hs
  unfold maxLen at hcm
  clear h hD hx hbd
  go_enter Tryz.func141, Tryz.ntmps141
  go_wp2_with fail
  go_loopw [8] (fun i wr => ∃ k : Nat, k ≤ xs.length ∧ i = .int .i64 k ∧ WrAt (Up G w) wr p (l ++ encs (xs.take k)) ∧ Mod G w wr) (fun i _ => xs.length - (intOf i).toNat)
  case atStart => exact ⟨0, Nat.zero_le _, rfl, by rw [show l ++ encs (xs.take 0) = l by simp [encs]]; exact H.out.mono (fun _ _ h => Or.inl h), Mod.refl _ _⟩
  case round =>
    obtain ⟨k, hk, rfl, T, hm⟩ := hrel
    have HT := Lib.hid T
    have HM := Lib.hid hm
    have k0 : (0 : Int) ≤ (k : Int) := by omega
    clear T hm
    by_cases hlt : k < xs.length
    · obtain ⟨x, hx⟩ : ∃ x, xs[k]? = some x := ⟨_, List.getElem?_eq_getElem hlt⟩
      have hiv := HS.out.keep (w' := wr) (fun j hj hd => HM.out.block j hj (HD.out j hj hd.1)) HM.out.size
      obtain ⟨b, o, c', e1, _, _, hb, _, t0⟩ := hiv.at_ hx
      injection e1 with e1 _ e2
      subst e1 e2
      have k1 : (k : Int) < (xs.length : Int) := by omega
      have HXK := Lib.hid hx
      clear hx hiv
      go_wp2_with fail
      refine (wnum_any (Up G w) p _ x wr HT.out (HX.out x (List.mem_of_getElem? HXK.out)) (by rw [List.length_append]; have := HBD.out k hk; omega)).mono ?_
      rintro e w2 ⟨rfl, h2, hm2⟩
      go_wp2_with fail
      refine ⟨⟨k + 1, by omega, by push_cast; rfl, ?_, HM.out.up hm2⟩, by simp only [intOf]; omega⟩
      rw [encs_snoc HXK.out, ← List.append_assoc]
      exact h2.up2 HM.out.size
    · obtain rfl : k = xs.length := by omega
      go_wp2_with fail
      go_end0
      refine ⟨rfl, ?_, HM.out⟩
      have := HT.out
      rwa [List.take_of_length_le (Nat.le_refl _)] at this
end Go.Proofs.YtchdfogifhfclaaGreatDoor
namespace Go.Proofs.YtchdfogifhfclaaGreatDoor
open Go.RowKit

/-- A record's bytes. -/
def EncPost (w : World) (e : Ending) (w' : World) : Prop := ∃ b o m c l, e = .returned (.tuple #[.slice (some ⟨b, o, none⟩) m c, .int .i64 0]) ∧ (1 ≤ m ∧ m ≤ 47) ∧ m ≤ c ∧ BytesV (fun k => w.heap.size ≤ k) w' (.slice (some ⟨b, o, none⟩) m c) l ∧ Below w.heap.size w w'
theorem encpost_of {w w1 w2 : World} {v : Value} {l : List UInt8} (hb : Below w.heap.size w w1) (h : NewBytes w1 w2 v l) (hb2 : Below w1.heap.size w1 w2) (hl : 1 ≤ l.length ∧ l.length ≤ 47) : EncPost w (.returned (.tuple #[v, .int .i64 0])) w2 := by
  obtain ⟨n, hown⟩ := h
  have hB := BytesV.of_own hown
  obtain ⟨a, c, rfl, h2, h3, h4, h5⟩ := id hB
  obtain ⟨b, o, rfl, _⟩ := h5 (by omega)
  exact ⟨b, o, l.length, c, l, rfl, hl, h2, hB.mono (fun k _ hk => Nat.le_trans hb.size hk), hb.trans (hb2.mono hb.size)⟩
/-- Encode's own blocks: the record, the writer, the grant. -/
structure EnS (w : World) (q gb : Nat) (rc gc : Array Value) (l : List UInt8) (u : World) : Prop where
  wr : WrAt (fun k => q ≤ k ∧ k ≠ gb) u q l
  h1 : u.heap[w.heap.size]? = some (.cells rc 98 (0, 0))
  hg : u.heap[gb]? = some (.cells gc 45 (0, 0))
  b : Below w.heap.size w u
  ord : w.heap.size < q ∧ q < gb
theorem EnS.size {w u : World} {q gb : Nat} {rc gc : Array Value} {l : List UInt8} (h : EnS w q gb rc gc l u) : gb < u.heap.size := lt_of_heap h.hg
theorem EnS.of_mod {w u u' : World} {q gb : Nat} {rc gc : Array Value} {l l' : List UInt8} {F : Nat → Prop} (h : EnS w q gb rc gc l u) (hw : WrAt (fun k => q ≤ k ∧ k ≠ gb) u' q l') (hm : Mod F u u') (hF : ∀ k, k < u.heap.size → F k → q ≤ k ∧ k ≠ gb) : EnS w q gb rc gc l' u' := by
  have h1 := h.size
  have h2 := h.ord
  refine ⟨hw, (hm.block _ (by omega) (fun hf => by have := hF _ (by omega) hf; omega)).trans h.h1, (hm.block _ (by omega) (fun hf => (hF _ (by omega) hf).2 rfl)).trans h.hg, ?_, h2⟩
  have h3 : Mod (fun k => w.heap.size ≤ k) w u' := (Mod.of_below h.b).trans hm (fun k hk hf => by have := h.b.size; have := hF k (by omega) hf; omega)
  exact h3.toBelow (Nat.le_refl _) (fun k hk => hk)
theorem EnS.step {w u u' : World} {q gb : Nat} {rc gc : Array Value} {l l' : List UInt8} (h : EnS w q gb rc gc l u) (hw : WrAt (Up (fun k => q ≤ k ∧ k ≠ gb) u) u' q l') (hm : Mod (fun k => q ≤ k ∧ k ≠ gb) u u') : EnS w q gb rc gc l' u' :=
  h.of_mod (hw.mono (fun k _ hk => by
    rcases hk with hk | hk
    · exact hk
    · have := h.size; have := h.ord; exact ⟨by omega, by omega⟩)) hm (fun _ _ h => h)
theorem EnS.lay {w u u' : World} {q gb : Nat} {rc gc : Array Value} {l l' : List UInt8} {o : Obj} (h : EnS w q gb rc gc l u) (hw : WrAt (Up (fun k => (q ≤ k ∧ k ≠ gb) ∧ k < u.heap.size) (u.alloc o)) u' q l') (hm : Mod (fun k => (q ≤ k ∧ k ≠ gb) ∧ k < u.heap.size) (u.alloc o) u') : EnS w q gb rc gc l' u' :=
  h.of_mod (F := fun k => (q ≤ k ∧ k ≠ gb) ∧ k < u.heap.size) (hw.mono (fun k _ hk => by
    rcases hk with hk | hk
    · exact hk.1
    · have := h.size; have := h.ord; have hk : (u.alloc o).heap.size ≤ k := hk; simp at hk; exact ⟨by omega, by omega⟩)) (((Mod.refl _ u).alloc o).trans hm (fun _ _ h => h)) (fun _ _ h => h.1)
theorem EnS.start {w u : World} {rc gc : Array Value} {q : Nat} {l : List UInt8} (hq : w.heap.size < q) (hw : WrAt (fun k => q ≤ k) u q l) (h1 : u.heap[w.heap.size]? = some (.cells rc 98 (0, 0))) (hb : Below w.heap.size w u) : EnS w q u.heap.size rc gc l (u.alloc (.cells gc 45)) := by
  refine ⟨(hw.tight.below ((Below.refl _ _).alloc (Nat.le_refl _) _)).mono (fun k _ hk => ⟨hk.1, by omega⟩), (heap_past _ _ _ (lt_of_heap h1)).trans h1, heap_at _ _ _ rfl, hb.alloc hb.size _, hq, hw.head.2⟩
theorem enc_len_small {n : Nat} (h : n < 128) : (enc n).length = 1 := by rw [enc_small h]; rfl
theorem enc_len_term {n : Nat} (h : n ≤ 1048576) : (enc n).length ≤ 3 := enc_length 3 n (by omega) (by omega)
theorem wr_new (w : World) (o : Nat) (h : o = w.heap.size) : WrAt (fun k => o ≤ k) (w.alloc (.cells #[.slice none 0 0] 220)) o [] := by
  subst h
  exact ⟨⟨Nat.le_refl _, by simp⟩, .slice none 0 0, heap_at _ _ _ rfl, World.ownsRow_nil _ _ _ _, fun g hg => by simp [Value.ownBlock] at hg⟩
set_option maxRecDepth 100000 in
set_option maxHeartbeats 2000000 in
/-- As far as the grant's box. -/
theorem encode_long (t : Int) (w : World) (ht : 4 ≤ t ∧ t ≤ 1048576) : Calls Tryz.prog 92 #[recLong t] w (EncPost w) := by
  have HT := Lib.hid ht
  obtain ⟨w0, hw0⟩ : ∃ w0, w0 = w.alloc (.cells (rC 2 0 0 estr 0 (.slice none 0 0) 0 0 (.slice none 0 0) 0 t) 98) := ⟨_, rfl⟩
  have hB0 : Below w.heap.size w w0 := by rw [hw0]; exact (Below.refl _ _).alloc (Nat.le_refl _) _
  have hx0 : w0.heap[w.heap.size]? = some (.cells (rC 2 0 0 estr 0 (.slice none 0 0) 0 0 (.slice none 0 0) 0 t) 98 (0, 0)) := by rw [hw0, heap_at _ _ _ rfl]
  have HB0 := Lib.hid hB0
  have HX0 := Lib.hid hx0
  have c0 := blk_cell hx0
  clear hB0 hx0 ht
  unfold rC estr at hw0 c0
  unfold recLong rC estr
  go_enter Tryz.func92, Tryz.ntmps92
  go_wp2_with fail
  rw [← hw0]
  clear hw0
  refine (mayLong_any t _ HT.out).mono ?_
  rintro e w1 ⟨rfl, hb⟩
  have HX1 := Lib.hid ((hb.block _ (lt_of_heap HX0.out)).trans HX0.out)
  have HB1 := Lib.hid (HB0.out.trans (hb.mono HB0.out.size))
  have c0 := blk_cell HX1.out
  have hq := lt_of_heap HX1.out
  clear hb HX0
  unfold rC estr at c0
  go_wp2_with fail
  refine (wnum_any (fun k => w1.heap.size ≤ k) w1.heap.size [] 2 _ (wr_new w1 _ rfl) (by omega) (by simp)).mono ?_
  rintro e w2 ⟨rfl, h2, hm2⟩
  have hB2 : Below w1.heap.size w1 w2 := (((Mod.refl (fun k => w1.heap.size ≤ k) w1).alloc _).trans hm2 (fun _ _ h => h)).toBelow (Nat.le_refl _) (fun k hk => hk)
  have HX2 := Lib.hid ((hB2.block _ hq).trans HX1.out)
  have hs := EnS.start (w := w) (u := w2) (q := w1.heap.size) (gc := gC 0 0 estr 0 (.slice none 0 0) 0) hq (h2.mono (fun k _ hk => by rcases hk with hk | hk; exact hk; exact Nat.le_trans (by simp) hk)) HX2.out (HB1.out.trans (hB2.mono HB1.out.size))
  have HS := Lib.hid hs
  have c0 := blk_cell HX2.out
  have hq2 := lt_of_heap HX2.out
  clear hs h2 hm2 hB2
  unfold rC estr at c0
  go_wp2_with fail
  refine (wnum_any _ w1.heap.size _ t _ HS.out.wr (by have := HT.out; omega) (by have := enc_len_small (n := (2 : Int).toNat) (by decide); simp only [List.nil_append, List.length_append]; omega)).mono ?_
  rintro e w3 ⟨rfl, h3, hm3⟩
  have HS3 := Lib.hid (HS.out.step h3 hm3)
  clear h3 hm3
  go_wp2_with fail
  refine (bytes_any _ w1.heap.size _ _ HS3.out.wr (by have := enc_len_small (n := (2 : Int).toNat) (by decide); have := enc_len_term (n := t.toNat) (by have := HT.out; omega); simp only [List.nil_append, List.length_append]; omega)).mono ?_
  rintro e w4 ⟨v, rfl, h4, hb4⟩
  have H4 := Lib.hid h4
  have HB4 := Lib.hid hb4
  clear h4 hb4
  go_wp2_with fail
  go_ret2
  exact encpost_of HS3.out.b H4.out HB4.out (by have := enc_len_small (n := (2 : Int).toNat) (by decide); have := enc_len_term (n := t.toNat) (by have := HT.out; omega); simp only [List.nil_append, List.length_append]; omega)
end Go.Proofs.YtchdfogifhfclaaGreatDoor
namespace Go.Proofs.YtchdfogifhfclaaGreatDoor
open Go.RowKit

theorem encs_one (x : Int) : encs [x] = enc x.toNat := by simp [encs]
theorem encs_len (l : List Int) (h : ∀ x ∈ l, x ≤ 9223372036854775807) : ∀ k, k ≤ l.length → (encs (l.take k)).length ≤ 9 * k := by
  induction l with
  | nil => intro k hk; simp at hk; subst hk; simp [encs]
  | cons a l ih =>
    intro k hk
    cases k with
    | zero => simp [encs]
    | succ k =>
      have h1 := ih (fun x hx => h x (List.mem_cons_of_mem _ hx)) k (by simpa using hk)
      have h2 := enc_int a.toNat (by have := h a List.mem_cons_self; omega)
      unfold encs at h1 ⊢
      rw [List.take_succ_cons, List.map_cons, List.flatten_cons, List.length_append]
      omega
theorem EnS.new {w u : World} {q gb : Nat} {rc gc : Array Value} {l : List UInt8} (h : EnS w q gb rc gc l u) (o : Obj) : WrAt (fun k => (q ≤ k ∧ k ≠ gb) ∧ k < u.heap.size) (u.alloc o) q l := h.wr.tight.below ((Below.refl _ _).alloc (Nat.le_refl _) _)
theorem EnS.box {w u : World} {q gb : Nat} {rc gc : Array Value} {l : List UInt8} (h : EnS w q gb rc gc l u) (o : Obj) : EnS w q gb rc gc l (u.alloc o) :=
  h.of_mod (F := fun _ => False) (h.wr.below ((Below.refl _ _).alloc (Nat.le_refl _) _)) ((Mod.refl _ u).alloc o) (fun _ _ h => h.elim)
/-- The writer holds at most n bytes. -/
def EnL (w : World) (q gb : Nat) (rc gc : Array Value) (n : Nat) (u : World) : Prop := ∃ l, (1 ≤ l.length ∧ l.length ≤ n) ∧ EnS w q gb rc gc l u
def EnP (w : World) (q gb : Nat) (rc gc : Array Value) (n : Nat) (e : Ending) (u : World) : Prop := e = .returned (.tuple #[]) ∧ EnL w q gb rc gc n u
theorem EnL.s {w u : World} {q gb n : Nat} {rc gc : Array Value} (h : EnL w q gb rc gc n u) : u.heap[w.heap.size]? = some (.cells rc 98 (0, 0)) ∧ u.heap[gb]? = some (.cells gc 45 (0, 0)) ∧ Below w.heap.size w u := by
  obtain ⟨l, _, h⟩ := h
  exact ⟨h.h1, h.hg, h.b⟩
theorem encs_len' (l : List Int) (h : ∀ x ∈ l, x ≤ 9223372036854775807) : (encs l).length ≤ 9 * l.length := by
  have := encs_len l h l.length (Nat.le_refl _)
  rwa [List.take_of_length_le (Nat.le_refl _)] at this
theorem encs_small (l : List Int) (h : ∀ x ∈ l, x < 128) : (encs l).length ≤ l.length := by
  induction l with
  | nil => simp [encs]
  | cons a l ih =>
    have h1 := ih (fun x hx => h x (List.mem_cons_of_mem _ hx))
    have h2 := enc_len_small (n := a.toNat) (by have := h a List.mem_cons_self; omega)
    unfold encs at h1 ⊢
    rw [List.map_cons, List.flatten_cons, List.length_append, List.length_cons]
    omega
/-- lay of a new list. -/
theorem lay_new {w u : World} {q gb n : Nat} {rc gc : Array Value} (h : EnL w q gb rc gc n u) (ib : Nat) (hib : ib = u.heap.size) (xs : List Int) (cs : Array Value) (hcs : cs = (xs.map Ck8.I8).toArray) (m k : Nat) (hm : m = xs.length) (hx : ∀ x ∈ xs, x ≤ 9223372036854775807) (hk : (encs xs).length ≤ k) (hn : n + 9 * xs.length + 9 ≤ 1000) :
    Calls Tryz.prog 141 #[.pointer (some ⟨q, 0, none⟩), .slice (some ⟨ib, 0, none⟩) m m] (u.alloc (.cells cs 3)) (EnP w q gb rc gc (n + k)) := by
  subst hib
  obtain ⟨l, hl, hs⟩ := h
  refine (blay_any (fun k => (q ≤ k ∧ k ≠ gb) ∧ k < u.heap.size) (fun k => k = u.heap.size) q l _ xs _ (hs.new _) (Ck8.ints_new u xs cs hcs m hm (by unfold maxLen; omega)) (fun k _ e h => by omega) hx (by omega) (encs_len xs hx)).mono ?_
  rintro e w3 ⟨rfl, h3, hm3⟩
  exact ⟨rfl, _, by rw [List.length_append]; omega, hs.lay h3 hm3⟩
/-- lay of an old list. -/
theorem lay_old {w u : World} {q gb n : Nat} {rc gc : Array Value} {D : Nat → Prop} {sv : Value} (h : EnL w q gb rc gc n u) (xs : List Int) (hiv : Ck8.IntsV D u sv xs) (hD : ∀ k, k < u.heap.size → D k → k < q) (k : Nat) (hx : ∀ x ∈ xs, x ≤ 9223372036854775807) (hk : (encs xs).length ≤ k) (hn : n + 9 * xs.length + 9 ≤ 1000) :
    Calls Tryz.prog 141 #[.pointer (some ⟨q, 0, none⟩), sv] u (EnP w q gb rc gc (n + k)) := by
  obtain ⟨l, hl, hs⟩ := h
  refine (blay_any (fun k => q ≤ k ∧ k ≠ gb) D q l _ xs _ hs.wr hiv (fun k hk hd h => by have := hD k hk hd; omega) hx (by omega) (encs_len xs hx)).mono ?_
  rintro e w3 ⟨rfl, h3, hm3⟩
  exact ⟨rfl, _, by rw [List.length_append]; omega, hs.step h3 hm3⟩
theorem text_l {w u : World} {q gb n : Nat} {rc gc : Array Value} (h : EnL w q gb rc gc n u) (p : ByteArray) (hp : p.size ≤ 27) (hn : n ≤ 100) :
    Calls Tryz.prog 142 #[.pointer (some ⟨q, 0, none⟩), .string p] u (EnP w q gb rc gc (n + 28)) := by
  obtain ⟨l, hl, hs⟩ := h
  refine (text_any _ q l p _ hs.wr (by omega)).mono ?_
  rintro e w4 ⟨rfl, h4, hm4⟩
  refine ⟨rfl, _, ?_, hs.step h4 hm4⟩
  have h1 := enc_len_small (n := p.data.toList.length) (by simp; omega)
  unfold encText
  rw [List.length_append, List.length_append, h1]
  simp
  omega
def EndP (w : World) (e : Ending) (w' : World) : Prop := ∃ v, e = .returned v ∧ EncPost w (.returned (.tuple #[v, .int .i64 0])) w'
theorem bytes_l {w u : World} {q gb n : Nat} {rc gc : Array Value} (h : EnL w q gb rc gc n u) (hn : n ≤ 47) : Calls Tryz.prog 143 #[.pointer (some ⟨q, 0, none⟩)] u (EndP w) := by
  obtain ⟨l, hl, hs⟩ := h
  refine (bytes_any _ q l _ hs.wr (by omega)).mono ?_
  rintro e w5 ⟨v, rfl, h5, hb5⟩
  exact ⟨v, rfl, encpost_of hs.b h5 hb5 (by omega)⟩
set_option maxRecDepth 100000 in
set_option maxHeartbeats 2000000 in
theorem encode_fresh (D : Nat → Prop) (sv : Value) (w : World) (hsv : Ck8.IntsV D w sv [2]) : Calls Tryz.prog 92 #[recFresh sv] w (EncPost w) := by
  obtain ⟨sb, so, sc, rfl, _, _, _, _, _⟩ := hsv.at_ (j := 0) rfl
  have HSV := Lib.hid hsv.old
  obtain ⟨w0, hw0⟩ : ∃ w0, w0 = w.alloc (.cells (rC 5 0 0 estr 0 (.slice none 0 0) 0 1 (.slice (some ⟨sb, so, none⟩) 1 sc) 0 0) 98) := ⟨_, rfl⟩
  have hB0 : Below w.heap.size w w0 := by rw [hw0]; exact (Below.refl _ _).alloc (Nat.le_refl _) _
  have hx0 : w0.heap[w.heap.size]? = some (.cells (rC 5 0 0 estr 0 (.slice none 0 0) 0 1 (.slice (some ⟨sb, so, none⟩) 1 sc) 0 0) 98 (0, 0)) := by rw [hw0, heap_at _ _ _ rfl]
  have HB0 := Lib.hid hB0
  have HX0 := Lib.hid hx0
  have c0 := blk_cell hx0
  clear hB0 hx0 hsv
  unfold rC estr at hw0 c0
  unfold recFresh rC estr
  go_enter Tryz.func92, Tryz.ntmps92
  go_wp2_with fail
  rw [← hw0]
  clear hw0
  refine (mayFresh_any _ 2 _ _ (by omega) (HSV.out.below HB0.out)).mono ?_
  rintro e w1 ⟨rfl, hb⟩
  have HX1 := Lib.hid ((hb.block _ (lt_of_heap HX0.out)).trans HX0.out)
  have HB1 := Lib.hid (HB0.out.trans (hb.mono HB0.out.size))
  have c0 := blk_cell HX1.out
  have hq := lt_of_heap HX1.out
  clear hb HX0
  unfold rC estr at c0
  go_wp2_with fail
  refine (wnum_any (fun k => w1.heap.size ≤ k) w1.heap.size [] 5 _ (wr_new w1 _ rfl) (by omega) (by simp)).mono ?_
  rintro e w2 ⟨rfl, h2, hm2⟩
  have hB2 : Below w1.heap.size w1 w2 := (((Mod.refl (fun k => w1.heap.size ≤ k) w1).alloc _).trans hm2 (fun _ _ h => h)).toBelow (Nat.le_refl _) (fun k hk => hk)
  have HX2 := Lib.hid ((hB2.block _ hq).trans HX1.out)
  have hs := EnS.start (w := w) (u := w2) (q := w1.heap.size) (gc := gC 0 0 estr 0 (.slice none 0 0) 0) hq (h2.mono (fun k _ hk => by rcases hk with hk | hk; exact hk; exact Nat.le_trans (by simp) hk)) HX2.out (HB1.out.trans (hB2.mono HB1.out.size))
  have HS := Lib.hid hs
  have c0 := blk_cell HX2.out
  have hq2 := lt_of_heap HX2.out
  have he := enc_len_small (n := (5 : Int).toNat) (by decide)
  have HE := Lib.hid he
  clear hs h2 hm2 hB2 he
  unfold rC estr at c0
  go_wp2_with fail
  obtain ⟨u2, hu2⟩ : ∃ u2, u2 = w2.alloc (.cells #[.int .i64 0, .int .i64 0, .string ⟨#[]⟩, .int .i64 0, .slice none 0 0, .int .i64 0] 45) := ⟨_, rfl⟩
  have HS2 := Lib.hid (show EnL w w1.heap.size w2.heap.size _ _ 1 u2 from ⟨_, by show 1 ≤ ([] ++ enc (5 : Int).toNat).length ∧ ([] ++ enc (5 : Int).toNat).length ≤ 1; rw [List.nil_append, HE.out]; omega, by rw [hu2]; exact HS.out⟩)
  have HU2 := Lib.hid (show u2.heap.size = w2.heap.size + 1 by rw [hu2]; simp)
  rw [← hu2]
  clear hu2 HS
  have hl11 := lay_new HS2.out (w2.heap.size + 1) HU2.out.symm [1, 1] #[.int .i64 1, .int .i64 1] rfl 2 2 rfl (by simp) (encs_small _ (by simp)) (by simp)
  refine hl11.mono ?_
  rintro e w3 ⟨rfl, hs3⟩
  have HS3 := Lib.hid hs3
  have c0 := blk_cell hs3.s.1
  have hiv3 := HSV.out.below hs3.s.2.2
  have HIV3 := Lib.hid hiv3
  clear hs3 hiv3 hl11
  unfold rC estr at c0
  go_wp2_with fail
  have hl2 := lay_old HS3.out [2] HIV3.out (fun k _ hd => by have := hd.2; omega) 1 (by simp) (encs_small _ (by simp)) (by simp)
  refine hl2.mono ?_
  rintro e w4 ⟨rfl, hs4⟩
  have HS4 := Lib.hid hs4
  clear hs4 hl2
  go_wp2_with fail
  refine (bytes_l HS4.out (by omega)).mono ?_
  rintro e w5 ⟨v, rfl, h5⟩
  have H5 := Lib.hid h5
  clear h5
  go_wp2_with fail
  go_ret2
  exact H5.out
set_option maxRecDepth 100000 in
set_option maxHeartbeats 2000000 in
theorem encode_grant (D : Nat → Prop) (g : Gr) (sv : Value) (w : World) (hg : g.OK) (hs1 : g.s = 1) (hsv : Ck8.IntsV D w sv [g.s]) : Calls Tryz.prog 92 #[recGrant g.p g.m sv g.t] w (EncPost w) := by
  have HOK := Lib.hid hg
  obtain ⟨sb, so, sc, rfl, _, _, _, _, _⟩ := hsv.at_ (j := 0) rfl
  have hps := pathOK_size hg.path
  obtain ⟨p, m, s, t⟩ := g
  simp only at hsv hs1 hps
  subst hs1
  have hmb : 0 ≤ m ∧ m ≤ 2 := by rcases hg.mode with h | h <;> (simp only at h; omega)
  have htb : 0 ≤ t ∧ t ≤ 1048576 := by have := hg.term; simp only at this; omega
  have HMB := Lib.hid hmb
  have HTB := Lib.hid htb
  have HPS := Lib.hid hps
  have HSV := Lib.hid hsv.old
  obtain ⟨w0, hw0⟩ : ∃ w0, w0 = w.alloc (.cells (rC 4 1 1 p m (.slice (some ⟨sb, so, none⟩) 1 sc) t 0 (.slice none 0 0) 0 0) 98) := ⟨_, rfl⟩
  have hB0 : Below w.heap.size w w0 := by rw [hw0]; exact (Below.refl _ _).alloc (Nat.le_refl _) _
  have hx0 : w0.heap[w.heap.size]? = some (.cells (rC 4 1 1 p m (.slice (some ⟨sb, so, none⟩) 1 sc) t 0 (.slice none 0 0) 0 0) 98 (0, 0)) := by rw [hw0, heap_at _ _ _ rfl]
  have HB0 := Lib.hid hB0
  have HX0 := Lib.hid hx0
  have c0 := blk_cell hx0
  clear hB0 hx0 hsv hmb htb hps hg
  unfold rC at hw0 c0
  unfold recGrant rC
  go_enter Tryz.func92, Tryz.ntmps92
  go_wp2_with fail
  rw [← hw0]
  clear hw0
  refine (mayGrantRec_any _ ⟨p, m, 1, t⟩ _ _ HOK.out rfl (HSV.out.below HB0.out)).mono ?_
  rintro e w1 ⟨rfl, hb⟩
  have HX1 := Lib.hid ((hb.block _ (lt_of_heap HX0.out)).trans HX0.out)
  have HB1 := Lib.hid (HB0.out.trans (hb.mono HB0.out.size))
  have c0 := blk_cell HX1.out
  have hq := lt_of_heap HX1.out
  clear hb HX0
  unfold rC at c0
  go_wp2_with fail
  refine (wnum_any (fun k => w1.heap.size ≤ k) w1.heap.size [] 4 _ (wr_new w1 _ rfl) (by omega) (by simp)).mono ?_
  rintro e w2 ⟨rfl, h2, hm2⟩
  have hB2 : Below w1.heap.size w1 w2 := (((Mod.refl (fun k => w1.heap.size ≤ k) w1).alloc _).trans hm2 (fun _ _ h => h)).toBelow (Nat.le_refl _) (fun k hk => hk)
  have HX2 := Lib.hid ((hB2.block _ hq).trans HX1.out)
  have hs := EnS.start (w := w) (u := w2) (q := w1.heap.size) (gc := gC 1 1 p m (.slice (some ⟨sb, so, none⟩) 1 sc) t) hq (h2.mono (fun k _ hk => by rcases hk with hk | hk; exact hk; exact Nat.le_trans (by simp) hk)) HX2.out (HB1.out.trans (hB2.mono HB1.out.size))
  have HS := Lib.hid hs
  have c0 := blk_cell HX2.out
  have hq2 := lt_of_heap HX2.out
  have HE := Lib.hid (enc_len_small (n := (4 : Int).toNat) (by decide))
  clear hs h2 hm2 hB2
  unfold rC at c0
  go_wp2_with fail
  obtain ⟨u2, hu2⟩ : ∃ u2, u2 = w2.alloc (.cells #[.int .i64 1, .int .i64 1, .string p, .int .i64 m, .slice (some ⟨sb, so, none⟩) 1 sc, .int .i64 t] 45) := ⟨_, rfl⟩
  have HS2 := Lib.hid (show EnL w w1.heap.size w2.heap.size _ _ 1 u2 from ⟨_, by show 1 ≤ ([] ++ enc (4 : Int).toNat).length ∧ ([] ++ enc (4 : Int).toNat).length ≤ 1; rw [List.nil_append, HE.out]; omega, by rw [hu2]; exact HS.out⟩)
  have HU2 := Lib.hid (show u2.heap.size = w2.heap.size + 1 by rw [hu2]; simp)
  rw [← hu2]
  clear hu2 HS
  have hl11 := lay_new HS2.out (w2.heap.size + 1) HU2.out.symm [1, 1] #[.int .i64 1, .int .i64 1] rfl 2 2 rfl (by simp) (encs_small _ (by simp)) (by simp)
  refine hl11.mono ?_
  rintro e w3 ⟨rfl, hs3⟩
  have HS3 := Lib.hid hs3
  have g0 := blk_cell hs3.s.2.1
  clear hs3 hl11
  unfold gC at g0
  go_wp2_with fail
  refine (text_l HS3.out p HPS.out (by omega)).mono ?_
  rintro e w4 ⟨rfl, hs4⟩
  have HS4 := Lib.hid hs4
  have g0 := blk_cell hs4.s.2.1
  clear hs4
  unfold gC at g0
  go_wp2_with fail
  have hle : (encs [m, t, 1]).length ≤ 5 := by
    have h1 := enc_len_small (n := m.toNat) (by have := HMB.out; omega)
    have h2 := enc_len_term (n := t.toNat) (by have := HTB.out; omega)
    have h3 := enc_len_small (n := (1 : Int).toNat) (by decide)
    simp only [encs, List.map_cons, List.map_nil, List.flatten_cons, List.flatten_nil, List.length_append, List.length_nil]
    omega
  have hl3 := lay_new HS4.out w4.heap.size rfl [m, t, 1] #[.int .i64 m, .int .i64 t, .int .i64 1] rfl 3 5 rfl (by have h1 := HMB.out; have h2 := HTB.out; intro x hx; simp at hx; omega) hle (by simp)
  clear hle
  refine hl3.mono ?_
  rintro e w5 ⟨rfl, hs5⟩
  have HS5 := Lib.hid hs5
  have g0 := blk_cell hs5.s.2.1
  have HIV5 := Lib.hid (HSV.out.below hs5.s.2.2)
  clear hs5 hl3
  unfold gC at g0
  go_wp2_with fail
  have hl4 := lay_old HS5.out [1] HIV5.out (fun k _ hd => by have := hd.2; omega) 1 (by simp) (encs_small _ (by simp)) (by simp)
  refine hl4.mono ?_
  rintro e w6 ⟨rfl, hs6⟩
  have HS6 := Lib.hid hs6
  clear hs6 hl4
  go_wp2_with fail
  refine (bytes_l HS6.out (by omega)).mono ?_
  rintro e w7 ⟨v, rfl, h7⟩
  have H7 := Lib.hid h7
  clear h7
  go_wp2_with fail
  go_ret2
  exact H7.out
end Go.Proofs.YtchdfogifhfclaaGreatDoor
