/- The book: copied. -/
import Derived.Test.YtchdfogifhfclaaGreatDoorBkd
import Derived.Deep.AppendLies
namespace Go.Proofs.YtchdfogifhfclaaGreatDoor
open Go.RowKit

theorem OneG.of_own {w : World} {base : Nat} {v sv : Value} {g : Gr} (h : w.ownsRow base 45 6 v 1 (gC 1 1 g.p g.m sv g.t).toList) (hs : Ck8.IntsV (fun k => base ≤ k) w sv [g.s]) : OneG (fun k => base ≤ k) w v g := by
  obtain ⟨hl, h1⟩ := h
  rcases h1 with ⟨_, h0⟩ | ⟨b, cap, cur, rfl, hb, hh, hnc, hcm, hcs, ht⟩
  · omega
  · refine ⟨b, cap, sv, rfl, hnc, hcm, hb, lt_of_heap hh, fun i hi => ?_, fun i => blk_free hh i, hs⟩
    rw [blk_cell hh, ← Array.getElem?_toList, ← Array.getElem?_toList, ← ht, List.getElem?_take_of_lt (by omega)]
def CopiedPost (next longest : Int) (o : Option Gr) (w : World) (e : Ending) (w' : World) : Prop := ∃ gs, e = .returned (bV next longest gs) ∧ GsV (fun k => w.heap.size ≤ k) w' gs o ∧ Below w.heap.size w w'
set_option maxRecDepth 100000 in
set_option maxHeartbeats 1000000 in
theorem copied_none (next longest : Int) (w : World) : Calls Tryz.prog 129 #[bV next longest (.slice none 0 0)] w (CopiedPost next longest none w) := by
  unfold bV
  go_enter Tryz.func129, Tryz.ntmps129
  go_wp2_with fail
  refine wp_loop_rounds 1 ?_
  rw [rounds_succ]
  go_wp2_with fail
  refine bodyPost_ret (v := .agg #[.int .i64 next, .int .i64 0, .int .i64 longest, .slice none 0 0]) (by simp [results, Tryz.results129, go_sem]) rfl ⟨_, rfl, rfl, ?_⟩
  exact ((Below.refl _ _).alloc (Nat.le_refl _) _).alloc (by simp) _
def bC (next longest : Int) (gs : Value) : Array Value := #[.int .i64 next, .int .i64 0, .int .i64 longest, gs]
theorem bC_one (next longest : Int) (a : Option Addr) (n c : Nat) : (bC next longest (.slice a n c)).all (·.oneCell') = true := by simp [bC, Value.oneCell']
set_option maxRecDepth 100000 in
set_option maxHeartbeats 2000000 in
theorem copied_some (D : Nat → Prop) (next longest : Int) (g : Gr) (gs : Value) (w : World) (hg : OneG D w gs g) : Calls Tryz.prog 129 #[bV next longest gs] w (CopiedPost next longest (some g) w) := by
  obtain ⟨iG, hiG, hz0, hz1, hz2⟩ := info_parts Tryz.infoG
  obtain ⟨b, c, sv, rfl, hc1, hc2, hD, hb, hcell, hfr, hiv⟩ := hg
  obtain ⟨sb, so, sc, rfl, _, _, _, _, _⟩ := hiv.at_ (j := 0) rfl
  have k0 := hcell 0 (by omega)
  have k1 := hcell 1 (by omega)
  have k2 := hcell 2 (by omega)
  have k3 := hcell 3 (by omega)
  have k4 := hcell 4 (by omega)
  have k5 := hcell 5 (by omega)
  obtain ⟨p, m, s, t⟩ := g
  simp only at k0 k1 k2 k3 k4 k5 hiv
  obtain ⟨w0, hw0⟩ : ∃ w0, w0 = ((w.alloc (.cells (bC next longest (.slice (some ⟨b, 0, none⟩) 1 c)) 72)).alloc (.cells (bC 0 0 (.slice none 0 0)) 72)).alloc (.cells (gC 1 1 p m (.slice (some ⟨sb, so, none⟩) 1 sc) t) 45) := ⟨_, rfl⟩
  have hB0 : Below w.heap.size w w0 := by rw [hw0]; exact (((Below.refl _ _).alloc (Nat.le_refl _) _).alloc (by simp) _).alloc (by simp; omega) _
  have hx1 : w0.heap[w.heap.size]? = some (.cells (bC next longest (.slice (some ⟨b, 0, none⟩) 1 c)) 72 (0, 0)) := by rw [hw0, heap_past _ _ _ (by simp; omega), heap_past _ _ _ (by simp), heap_at _ _ _ rfl]
  have hx2 : w0.heap[w.heap.size + 1]? = some (.cells (bC 0 0 (.slice none 0 0)) 72 (0, 0)) := by rw [hw0, heap_past _ _ _ (by simp), heap_at _ _ _ (by simp)]
  have hx3 : w0.heap[w.heap.size + 2]? = some (.cells (gC 1 1 p m (.slice (some ⟨sb, so, none⟩) 1 sc) t) 45 (0, 0)) := by rw [hw0, heap_at _ _ _ (by simp)]
  have HB0 := Lib.hid hB0
  have HX1 := Lib.hid hx1
  have HX2 := Lib.hid hx2
  have HIV := Lib.hid (hiv.below hB0)
  have HS0 := Lib.hid (show w0.heap.size = w.heap.size + 3 by rw [hw0]; simp)
  clear hB0 hx1 hx2 hcell hfr hiv hD
  unfold gC bC at hw0
  unfold gC at k0 k1 k2 k3 k4 k5 hx3
  unfold bV
  go_enter Tryz.func129, Tryz.ntmps129
  go_wp2_with fail
  refine wp_loop_rounds 2 ?_
  rw [rounds_succ]
  go_wp2_with fail
  rw [← hw0]
  clear hw0 k0 k1 k2 k3 k4 k5
  refine (btwin_any D ⟨p, m, s, t⟩ _ _ HIV.out).mono ?_
  rintro e w1 ⟨sv', rfl, hv, hb1⟩
  have HX1' := Lib.hid ((hb1.block _ (by have := HS0.out; show _ < w0.heap.size; omega)).trans HX1.out)
  have HX2' := Lib.hid ((hb1.block _ (by have := HS0.out; show _ < w0.heap.size; omega)).trans HX2.out)
  obtain ⟨vb, vo, vc, rfl, _, _, hvb, hvD, _⟩ := hv.at_ (j := 0) rfl
  have HB1 := Lib.hid (HB0.out.trans (hb1.mono HB0.out.size))
  have HS1 := Lib.hid (show w.heap.size + 3 ≤ w1.heap.size by have := hb1.size; have := HS0.out; omega)
  have HV := Lib.hid (hv.mono (G' := fun k => w.heap.size + 2 ≤ k) (fun k _ h => by have := HS0.out; show _ ≤ k; have : w0.heap.size ≤ k := h; omega))
  have HN := Lib.hid (heap_at w1 (.cells (gC 1 1 p m (.slice (some ⟨vb, vo, none⟩) 1 vc) t) 45) _ rfl)
  clear hb1 hv hvb hvD hx3 HX1 HX2 HIV
  unfold gC at HN ⊢
  go_wp2_with (at_builtin; refine wpList_append_lies _ rfl (.tmp 13) (.tmp 16) _ rfl (w.heap.size + 2) 45 iG _ 6 72 Tryz.underlying70 hiG hz0 hz1 hz2 rfl (by omega) (.slice none 0 0) 0 [] rfl (World.ownsRow_nil _ _ _ _) ⟨w1.heap.size, 0, none⟩ 1 1 (gC 1 1 p m (.slice (some ⟨vb, vo, none⟩) 1 vc) t).toList rfl rfl (World.news_of_block HN.out) (fun u hu => by have := gC_one 1 1 p m (some ⟨vb, vo, none⟩) 1 vc t; rw [Array.all_eq_true_iff_forall_mem] at this; exact this u (by simpa using hu)) (by omega) (by unfold maxLen; omega) (by omega) (by have := HS1.out; simp; omega) _ rfl ?_; intro g6 cap6 w6 hown6 hgrow6 hat6 hlt6; have HOWN := Lib.hid hown6; have HG6 := Lib.hid hgrow6; clear hown6 hgrow6 hat6 hlt6)
  rw [rounds_succ]
  have hBel : Below (w1.alloc (.cells (gC 1 1 p m (.slice (some ⟨vb, vo, none⟩) 1 vc) t) 45)).heap.size (w1.alloc (.cells (gC 1 1 p m (.slice (some ⟨vb, vo, none⟩) 1 vc) t) 45)) w6 := (Below.refl _ _).grown HG6.out (Nat.le_refl _) (by intro k hk; simp [Value.ownBlock] at hk)
  have HBL := Lib.hid (below_step ((Below.refl w1.heap.size w1).alloc (Nat.le_refl _) _) hBel)
  have hy1 := (HBL.out.block _ (by have := HS1.out; show w.heap.size < _; omega)).trans HX1'.out
  have hy2 := (HBL.out.block _ (by have := HS1.out; show w.heap.size + 1 < _; omega)).trans HX2'.out
  have HY2 := Lib.hid hy2
  have c0 := blk_cell hy1 0
  have c1 := blk_cell hy1 1
  have c2 := blk_cell hy1 2
  have c3 := blk_cell hy1 3
  have f3 := blk_free hy1 3
  have HL1 := Lib.hid (show (w6.setCell ⟨w.heap.size, 3, none⟩ (.slice (some ⟨g6, 0, none⟩) 1 cap6)).heap[w.heap.size]? = some (.cells (bC next longest (.slice (some ⟨g6, 0, none⟩) 1 cap6)) 72 (0, 0)) from blk_set hy1 3 _)
  have HL2 := Lib.hid (show (w6.setCell ⟨w.heap.size, 3, none⟩ (.slice (some ⟨g6, 0, none⟩) 1 cap6)).heap[w.heap.size + 1]? = some (.cells (bC 0 0 (.slice none 0 0)) 72 (0, 0)) from blk_far hy2 (by show w.heap.size + 1 ≠ w.heap.size; omega) _)
  clear hBel hy1 hy2
  unfold bC at c0 c1 c2 c3
  go_wp2_with (first
    | (refine wpList_load_row rfl 72 (.tmp 1) rfl w.heap.size rfl 72 (bC next longest (.slice (some ⟨g6, 0, none⟩) 1 cap6)) (0, 0) _ HL1.out Tryz.underlying72 rfl (by kernel_rfl) ?_)
    | (refine wpList_store_row rfl 72 (.tmp 2) (.tmp 21) rfl (w.heap.size + 1) (bC next longest (.slice (some ⟨g6, 0, none⟩) 1 cap6)) rfl rfl 72 _ HL2.out (by kernel_rfl) rfl (bC_one _ _ _ _ _) ?_))
  refine bodyPost_ret (v := .agg (bC next longest (.slice (some ⟨g6, 0, none⟩) 1 cap6))) (results_cell_row (fn := Tryz.f129) rfl _ _ (w.heap.size + 1) 72 (bC next longest (.slice (some ⟨g6, 0, none⟩) 1 cap6)) (0, 0) _ rfl (setRow_heap _ _ _ _ _ _ HL2.out) Tryz.underlying72 rfl (by kernel_rfl)) rfl ⟨_, rfl, ?_, below_row (((HB1.out.trans (HBL.out.mono HB1.out.size)).setCell (p := ⟨w.heap.size, 3, none⟩) (Nat.le_refl _) _)) (by omega) _⟩
  have h6 := OneG.of_own (g := ⟨p, m, s, t⟩) HOWN.out (HV.out.below HBL.out)
  refine (h6.keep (fun k hk hD => ?_) (by simp [World.setCell])).mono (fun k hk hD => by show w.heap.size ≤ k; have : w.heap.size + 2 ≤ k := hD; omega)
  have hD : w.heap.size + 2 ≤ k := hD
  rw [setRow_other _ _ _ _ (by omega)]
  exact Below.heap_setCell w6 ⟨w.heap.size, 3, none⟩ _ k (by show k ≠ w.heap.size; omega)
end Go.Proofs.YtchdfogifhfclaaGreatDoor
