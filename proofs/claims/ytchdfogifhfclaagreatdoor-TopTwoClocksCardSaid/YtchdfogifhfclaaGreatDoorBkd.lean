/- The book: Clone of a stamp, twin, at. -/
import Derived.Test.YtchdfogifhfclaaGreatDoorBkcM
import Derived.Deep.WholeRow
import Derived.WalkSpells
import Derived.Laws.Rows
import Derived.Laws.Tables
namespace Go.Proofs.YtchdfogifhfclaaGreatDoor
open Go.RowKit

theorem below_row {B g : Nat} {w0 w : World} (hb : Below B w0 w) (hBg : B ≤ g) (cs : Array Value) : Below B w0 (w.setRow g cs) :=
  ⟨hb.os, hb.tape, hb.output, by rw [setRow_size]; exact hb.size, fun k hk => (setRow_other w g k cs (by omega)).trans (hb.block k hk)⟩
/-- A stamp of one counter in memory of its own. -/
def NewStamp (x : Int) (w : World) (e : Ending) (w' : World) : Prop := ∃ v, e = .returned v ∧ Ck8.IntsV (fun k => w.heap.size ≤ k) w' v [x] ∧ Below w.heap.size w w'
set_option maxRecDepth 100000 in
set_option maxHeartbeats 1000000 in
theorem cloneInts_any (D : Nat → Prop) (x : Int) (sv : Value) (w : World) (hs : Ck8.IntsV D w sv [x]) : Calls Tryz.prog 177 #[sv] w (NewStamp x w) := by
  obtain ⟨i0, hi, hz0, hz1, hz2⟩ := info_parts Ck8.Tryz.info3
  have HS := Lib.hid (hs.below ((Below.refl _ w).alloc (Nat.le_refl _) (.cells #[] 3)))
  obtain ⟨sb, so, sc, rfl, _, _, _, _, _⟩ := hs.at_ (j := 0) rfl
  clear hs
  have hown : (w.alloc (.cells #[] 3)).ownsRow w.heap.size 3 1 (.slice (some ⟨w.heap.size, 0, none⟩) 0 0) 0 [] := by
    have := World.ownsRow_made (base := w.heap.size) (e := 3) (size := 1) w #[] 0 (Nat.le_refl _) (by decide) rfl
    simpa using this
  have HOWN := Lib.hid hown
  have HB := Lib.hid ((Below.refl _ w).alloc (Nat.le_refl _) (.cells #[] 3))
  have hne : (binOp .eql 43 (.slice (some ⟨sb, so, none⟩) 1 sc) (.slice none 0 0)).run Tryz.prog w = .ok (.bool false) w := Go.Lib.run_eql_slice_nil w _ 3 _ _ _ _ _ Tryz.underlying43
  clear hown
  go_enter Tryz.func177, Tryz.ntmps177
  go_wp2_with (at_builtin; refine Ck8.wpList_append_ints rfl (.tmp 5) (.tmp 6) _ rfl w.heap.size 3 i0 Tryz.underlying43 hi hz0 hz1 hz2 (.slice (some ⟨w.heap.size, 0, none⟩) 0 0) 0 [] rfl HOWN.out D (.slice (some ⟨sb, so, none⟩) 1 sc) [x] rfl HS.out (by simp) (by simp) ?_; intro v7 w7 hown7 hgrow7 hat7)
  go_ret
  refine ⟨_, rfl, Ck8.IntsV.of_own (base := w.heap.size) (by simpa using hown7), HB.out.grown hgrow7 (by simp) (by intro k hk; simp [Value.ownBlock] at hk; omega)⟩
/-- A grant with a list of its own. -/
def TwinPost (g : Gr) (w : World) (e : Ending) (w' : World) : Prop := ∃ sv, e = .returned (.agg (gC 1 1 g.p g.m sv g.t)) ∧ Ck8.IntsV (fun k => w.heap.size ≤ k) w' sv [g.s] ∧ Below w.heap.size w w'
theorem gC_one (id h : Int) (p : ByteArray) (m : Int) (a : Option Addr) (n c : Nat) (t : Int) : (gC id h p m (.slice a n c) t).all (·.oneCell') = true := by simp [gC, Value.oneCell']
set_option maxRecDepth 100000 in
set_option maxHeartbeats 1000000 in
theorem btwin_any (D : Nat → Prop) (g : Gr) (sv : Value) (w : World) (hs : Ck8.IntsV D w sv [g.s]) : Calls Tryz.prog 173 #[.agg (gC 1 1 g.p g.m sv g.t)] w (TwinPost g w) := by
  obtain ⟨p, m, s, t⟩ := g
  obtain ⟨sb, so, sc, rfl, _, _, _, _, _⟩ := hs.at_ (j := 0) rfl
  simp only at hs ⊢
  obtain ⟨w0, hw0⟩ : ∃ w0, w0 = (w.alloc (.cells (gC 1 1 p m (.slice (some ⟨sb, so, none⟩) 1 sc) t) 45)).alloc (.cells (gC 0 0 estr 0 (.slice none 0 0) 0) 45) := ⟨_, rfl⟩
  have hB0 : Below w.heap.size w w0 := by rw [hw0]; exact ((Below.refl _ _).alloc (Nat.le_refl _) _).alloc (by simp) _
  have hx1 : w0.heap[w.heap.size]? = some (.cells (gC 1 1 p m (.slice (some ⟨sb, so, none⟩) 1 sc) t) 45 (0, 0)) := by rw [hw0, heap_past _ _ _ (by simp), heap_at _ _ _ rfl]
  have hx2 : w0.heap[w.heap.size + 1]? = some (.cells (gC 0 0 estr 0 (.slice none 0 0) 0) 45 (0, 0)) := by rw [hw0, heap_at _ _ _ (by simp)]
  have HB0 := Lib.hid hB0
  have HX1 := Lib.hid hx1
  have HX2 := Lib.hid hx2
  have HS := Lib.hid (hs.below hB0)
  have HS0 := Lib.hid (show w.heap.size + 2 ≤ w0.heap.size by rw [hw0]; simp)
  clear hs hB0 hx1 hx2
  unfold gC estr at hw0
  unfold gC
  go_enter Tryz.func173, Tryz.ntmps173
  go_wp2_with fail
  rw [← hw0]
  clear hw0
  refine (cloneInts_any D s _ _ HS.out).mono ?_
  rintro e w1 ⟨v, rfl, hv, hb1⟩
  have HX1' := Lib.hid ((hb1.block _ (by have := HS0.out; show _ < w0.heap.size; omega)).trans HX1.out)
  have HX2' := Lib.hid ((hb1.block _ (by have := HS0.out; show _ < w0.heap.size; omega)).trans HX2.out)
  have HV := Lib.hid hv
  have HB1 := Lib.hid (HB0.out.trans (hb1.mono HB0.out.size))
  obtain ⟨vb, vo, vc, rfl, _, _, hvb, hvD, _⟩ := hv.at_ (j := 0) rfl
  have HVD := Lib.hid (And.intro hvb hvD)
  have c4 := blk_cell HX1'.out 4
  have f4 := blk_free HX1'.out 4
  clear hb1 hv HX1 HX2 hvb hvD
  unfold gC at c4
  have hx3 : (w1.setCell ⟨w.heap.size, 4, none⟩ (.slice (some ⟨vb, vo, none⟩) 1 vc)).heap[w.heap.size]? = some (.cells (gC 1 1 p m (.slice (some ⟨vb, vo, none⟩) 1 vc) t) 45 (0, 0)) := blk_set HX1'.out 4 _
  have hx4 : (w1.setCell ⟨w.heap.size, 4, none⟩ (.slice (some ⟨vb, vo, none⟩) 1 vc)).heap[w.heap.size + 1]? = some (.cells (gC 0 0 estr 0 (.slice none 0 0) 0) 45 (0, 0)) := blk_far HX2'.out (by show w.heap.size + 1 ≠ w.heap.size; omega) _
  have HX3 := Lib.hid hx3
  have HX4 := Lib.hid hx4
  clear hx3 hx4
  go_wp2_with (first
    | (refine wpList_load_row rfl 45 (.tmp 1) rfl w.heap.size rfl 45 (gC 1 1 p m (.slice (some ⟨vb, vo, none⟩) 1 vc) t) (0, 0) _ HX3.out Tryz.underlying45 rfl (by kernel_rfl) ?_)
    | (refine wpList_store_row rfl 45 (.tmp 2) (.tmp 7) rfl (w.heap.size + 1) (gC 1 1 p m (.slice (some ⟨vb, vo, none⟩) 1 vc) t) rfl rfl 45 _ HX4.out (by kernel_rfl) rfl (gC_one _ _ _ _ _ _ _ _) ?_))
  refine bodyPost_ret (v := .agg (gC 1 1 p m (.slice (some ⟨vb, vo, none⟩) 1 vc) t)) (results_cell_row (fn := Tryz.f173) rfl _ _ (w.heap.size + 1) 45 (gC 1 1 p m (.slice (some ⟨vb, vo, none⟩) 1 vc) t) (0, 0) _ rfl (setRow_heap _ _ _ _ _ _ HX4.out) Tryz.underlying45 rfl (by kernel_rfl)) rfl ⟨_, rfl, ?_, below_row (HB1.out.setCell (p := ⟨w.heap.size, 4, none⟩) (Nat.le_refl _) _) (by omega) _⟩
  refine (HV.out.keep (fun k hk hD => ?_) (by simp [World.setCell])).mono (fun k hk hD => Nat.le_trans HB0.out.size hD)
  have := HS0.out
  rw [setRow_other _ _ _ _ (by omega)]
  exact Below.heap_setCell w1 ⟨w.heap.size, 4, none⟩ _ k (by show k ≠ w.heap.size; omega)
/-- at. -/
theorem at1_any (p : ByteArray) (m : Int) (a : Option Addr) (n c : Nat) (t : Int) (w : World) : Calls Tryz.prog 205 #[.agg (gC 1 1 p m (.slice a n c) t), .int .i64 1] w fun e w' => e = .returned (.int .i64 0) ∧ Below w.heap.size w w' := by
  unfold gC
  go_enter Tryz.func205, Tryz.ntmps205
  go_wp2_with fail
  refine (compare_any 1 1 _).mono ?_
  rintro e w1 ⟨rfl, rfl⟩
  go_wp2_with fail
  go_ret
  exact ⟨rfl, (Below.refl _ w).alloc (Nat.le_refl _) _⟩
theorem search_none (id : Int) (w : World) : Calls Tryz.prog 204 #[.slice none 0 0, .int .i64 id, .func (.func 205) #[] #[]] w fun e w' => e = .returned (.tuple #[.int .i64 0, .bool false]) ∧ w = w' := by
  go_enter Tryz.func204, Tryz.ntmps204
  go_wp2_with fail
  refine wp_loop_rounds 1 ?_
  rw [rounds_succ]
  go_wp2_with fail
  go_ret2
  exact ⟨by simp, rfl⟩
theorem at_none (id : Int) (w : World) : Calls Tryz.prog 174 #[.slice none 0 0, .int .i64 id] w fun e w' => e = .returned (.tuple #[.int .i64 0, .bool false]) ∧ w = w' := by
  go_enter Tryz.func174, Tryz.ntmps174
  go_wp2_with fail
  refine (search_none id _).mono ?_
  rintro e w1 ⟨rfl, rfl⟩
  go_wp2_with fail
  go_ret2
  exact ⟨by simp, rfl⟩
set_option maxRecDepth 100000 in
set_option maxHeartbeats 1000000 in
theorem at_one (D : Nat → Prop) (g : Gr) (gs : Value) (w : World) (hg : OneG D w gs g) : Calls Tryz.prog 174 #[gs, .int .i64 1] w fun e w' => e = .returned (.tuple #[.int .i64 0, .bool true]) ∧ Below w.heap.size w w' := by
  obtain ⟨b, c, sv, rfl, hc1, hc2, hD, hb, hcell, hfr, hiv⟩ := hg
  obtain ⟨sb, so, sc, rfl, _, _, _, _, _⟩ := hiv.at_ (j := 0) rfl
  have HCELL := Lib.hid hcell
  have k0 := hcell 0 (by omega)
  have k1 := hcell 1 (by omega)
  have k2 := hcell 2 (by omega)
  have k3 := hcell 3 (by omega)
  have k4 := hcell 4 (by omega)
  have k5 := hcell 5 (by omega)
  obtain ⟨p, m, s, t⟩ := g
  simp only at k0 k1 k2 k3 k4 k5
  clear hcell hfr hiv hD
  unfold gC at k0 k1 k2 k3 k4 k5
  have hcmp := fun W => at1_any p m (some ⟨sb, so, none⟩) 1 sc t W
  have HCMP := Lib.hid hcmp
  clear hcmp
  have hsearch : Calls Tryz.prog 204 #[.slice (some ⟨b, 0, none⟩) 1 c, .int .i64 1, .func (.func 205) #[] #[]] w fun e w' => e = .returned (.tuple #[.int .i64 0, .bool true]) ∧ Below w.heap.size w w' := by
    go_enter Tryz.func204, Tryz.ntmps204
    go_wp2_with fail
    refine wp_loop_rounds 2 ?_
    rw [rounds_succ]
    go_wp2_with fail
    refine (HCMP.out _).mono ?_
    rintro e w1 ⟨rfl, hb1⟩
    have j0 := (hb1.cell (p := ⟨b, 0, none⟩) hb).trans k0
    have j1 := (hb1.cell (p := ⟨b, 1, none⟩) hb).trans k1
    have j2 := (hb1.cell (p := ⟨b, 2, none⟩) hb).trans k2
    have j3 := (hb1.cell (p := ⟨b, 3, none⟩) hb).trans k3
    have j4 := (hb1.cell (p := ⟨b, 4, none⟩) hb).trans k4
    have j5 := (hb1.cell (p := ⟨b, 5, none⟩) hb).trans k5
    have HB1 := Lib.hid hb1
    clear hb1
    go_wp2_with fail
    rw [rounds_succ]
    go_wp2_with fail
    refine (HCMP.out _).mono ?_
    rintro e w2 ⟨rfl, hb2⟩
    have HB2 := Lib.hid (below_step HB1.out hb2)
    clear hb2
    go_wp2_with fail
    go_ret2
    exact ⟨by simp, HB2.out⟩
  have HSE := Lib.hid hsearch
  clear hsearch k0 k1 k2 k3 k4 k5
  go_enter Tryz.func174, Tryz.ntmps174
  go_wp2_with fail
  refine HSE.out.mono ?_
  rintro e w1 ⟨rfl, hb1⟩
  have HB1 := Lib.hid hb1
  clear hb1
  go_wp2_with fail
  go_ret2
  exact ⟨by simp, HB1.out⟩
end Go.Proofs.YtchdfogifhfclaaGreatDoor
