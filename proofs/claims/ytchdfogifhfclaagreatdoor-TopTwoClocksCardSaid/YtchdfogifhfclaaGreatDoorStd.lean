/- The law's stands: the grant is unexpired, and nobody else is granted. -/
import Derived.Test.YtchdfogifhfclaaGreatDoorHokM
import Derived.Deep.DeepCutAuto
namespace Go.Proofs.YtchdfogifhfclaaGreatDoor
open Go.RowKit Go.Maps Go.MapKept
open Go.ChangeMaps (setBlock)

/-- A plan's cells. -/
def plC (rho t sent granted come renews : Int) (pa : ByteArray) (m : Int) : Array Value := #[.int .i64 rho, .int .i64 t, .int .i64 sent, .int .i64 granted, .int .i64 come, .int .i64 renews, .string pa, .int .i64 m]
/-- A block that stands apart was written. -/
theorem Within.far {F : Nat → Prop} {q : Gs} {L : Lst} {os : Option Ent} {x : Int} {w w2 w3 w4 : World} {g : Nat} (h : Within F q L os x w2 w3) (hb : Below w.heap.size w w2) (h1 : w.heap.size ≤ g) (h2 : g < w2.heap.size) (h3 : ¬ F g)
    (ho : w4.os = w3.os ∧ w4.tape = w3.tape ∧ w4.output = w3.output) (hz : w4.heap.size = w3.heap.size) (hk : ∀ k, k ≠ g → w4.heap[k]? = w3.heap[k]?) : Within F q L os x w w4 := by
  refine ⟨(h.gr.keep (fun k _ hf => hk k ?_) (by rw [hz]; exact Nat.le_refl _)).mono (up_back hb.size), ?_⟩
  · rintro rfl
    rcases hf with hf | hf
    · exact h3 hf
    · omega
  · have hm := (h.first hb).mod
    exact ⟨ho.1.trans hm.os, ho.2.1.trans hm.tape, ho.2.2.trans hm.output, by rw [hz]; exact hm.size, fun k hl hf => (hk k (by omega)).trans (hm.block k hl hf)⟩
/-- Cells of one block written. -/
theorem sets_far (w : World) (g : Nat) : ∀ (l : List (Nat × Value)), (let w' := l.foldl (fun W p => W.setCell ⟨g, p.1, none⟩ p.2) w; (w'.os = w.os ∧ w'.tape = w.tape ∧ w'.output = w.output) ∧ w'.heap.size = w.heap.size ∧ ∀ k, k ≠ g → w'.heap[k]? = w.heap[k]?) := by
  intro l
  induction l generalizing w with
  | nil => exact ⟨⟨rfl, rfl, rfl⟩, rfl, fun _ _ => rfl⟩
  | cons p r ih =>
    obtain ⟨h1, h2, h3⟩ := ih (w.setCell ⟨g, p.1, none⟩ p.2)
    exact ⟨h1, h2.trans (by simp [World.setCell]), fun k hk => (h3 k hk).trans (Below.heap_setCell w ⟨g, p.1, none⟩ _ k hk)⟩
/-- Grant to another, while the grant stands. -/
theorem grant_held (F : Nat → Prop) (q : Gs) (L : Lst) (x now : Int) (pa : ByteArray) (m : Int) (w : World) (h : GrAt F q L (some ⟨pa, m⟩) x w) (hF : ∀ k, F k → k < w.heap.size) (hn : 0 ≤ now ∧ now ≤ 1152921504606846976) (hp : pathOK pa = true) (hx : now < x) :
    Calls Tryz.prog 10 #[.pointer (some ⟨q.g, 0, none⟩), .int .i64 now, .agg rootC, .int .i64 2, .string pa, .int .i64 2, .int .i64 10] w (fun e w' => e = .returned (.tuple #[.agg (gC 0 0 estr 0 (.slice none 0 0) 0), .int .i64 60]) ∧ Within F q L (some ⟨pa, m⟩) x w w') :=
  grant_err F q L (some ⟨pa, m⟩) x now 2 10 pa 2 60 w h hF (by decide) (fun W b Bg Bn Bt Br hA hg => ask_full hA hg ⟨hn, .inr rfl, by omega⟩ hp hx)
def StandsP (F : Nat → Prop) (q : Gs) (L : Lst) (os : Option Ent) (x : Int) (w : World) (e : Ending) (w' : World) : Prop := e = .returned (.bool true) ∧ Within F q L os x w w'
set_option maxRecDepth 100000 in
set_option maxHeartbeats 8000000 in
theorem stands_any (F : Nat → Prop) (q : Gs) (L : Lst) (g : Gr) (x now : Int) (m : Int) (r1 r2 r3 r4 r5 r6 : Int) (w : World) (h : GrAt F q L (some ⟨g.p, m⟩) x w) (ho : L.o = some g) (hF : ∀ k, F k → k < w.heap.size) (hn : 0 ≤ now ∧ now ≤ 1152921504606846976) (hp : pathOK g.p = true) (hx : now < x) :
    Calls Tryz.prog 16 #[.pointer (some ⟨q.g, 0, none⟩), .int .i64 now, .int .i64 1, .agg (plC r1 r2 r3 r4 r5 r6 g.p m)] w (StandsP F q L (some ⟨g.p, m⟩) x w) := by
  obtain ⟨pa, gm, gs, gt⟩ := g
  simp only at h hp ⊢
  obtain ⟨w0, hw0⟩ : ∃ w0, w0 = w.alloc (.cells (plC r1 r2 r3 r4 r5 r6 pa m) 24) := ⟨_, rfl⟩
  have hb0 : Below w.heap.size w w0 := by rw [hw0]; exact below_one _ _
  have HX0 := Lib.hid (show w0.heap[w.heap.size]? = some (.cells (plC r1 r2 r3 r4 r5 r6 pa m) 24 (0, 0)) by rw [hw0]; exact heap_at _ _ _ rfl)
  have HB0 := Lib.hid hb0
  have HH0 := Lib.hid (h.below hb0)
  have HO := Lib.hid ho
  have HF := Lib.hid hF
  have HX := Lib.hid hx
  have d1 : decide (now < x) = true := decide_eq_true hx
  have HGR := Lib.hid (show ∀ W, GrAt F q L (some ⟨pa, m⟩) x W → w.heap.size ≤ W.heap.size → _ from fun W hW hz => grant_held F q L x now pa m W hW (fun k hk => Nat.lt_of_lt_of_le (hF k hk) hz) hn hp hx)
  clear h ho hF hn hp hx hb0
  unfold plC at hw0
  unfold plC
  go_enter Tryz.func16, Tryz.ntmps16
  go_upto_region 1 with fail
  rw [← hw0]
  clear hw0
  go_wp2_with fail
  refine (held_any F q L ⟨pa, gm, gs, gt⟩ ⟨pa, m⟩ x _ HH0.out HO.out).mono ?_
  rintro e w1 ⟨sb, so, sc, rfl, -, hb1⟩
  unfold hC
  go_upto_region 2 with fail
  obtain ⟨w2, hw2⟩ : ∃ w2, w2 = w1.alloc (.cells #[.int .i64 1, .int .i64 1, .string pa, .int .i64 gm, .slice (some ⟨sb, so, none⟩) 1 sc, .int .i64 gt, .int .i64 x, .int .i64 0, .int .i64 0] 114) := ⟨_, rfl⟩
  rw [← hw2]
  have hb2 : Below w1.heap.size w1 w2 := by rw [hw2]; exact below_one _ _
  have HX2 := Lib.hid (show w2.heap[w1.heap.size]? = some (.cells #[.int .i64 1, .int .i64 1, .string pa, .int .i64 gm, .slice (some ⟨sb, so, none⟩) 1 sc, .int .i64 gt, .int .i64 x, .int .i64 0, .int .i64 0] 114 (0, 0)) by rw [hw2]; exact heap_at _ _ _ rfl)
  have hb01 := below_step hb1 hb2
  have HX02 := Lib.hid ((hb01.block _ (lt_of_heap HX0.out)).trans HX0.out)
  have HH2 := Lib.hid (HH0.out.below hb01)
  have HB2 := Lib.hid (below_step HB0.out hb01)
  have c0 := blk_cell HX02.out
  have l2 := lt_of_heap HX02.out
  have HW1 := Lib.hid (show w.heap.size ≤ w1.heap.size from Nat.le_trans HB0.out.size hb1.size)
  clear hw2 hb1 hb2 hb01
  unfold plC at c0
  go_cut [12] from 19 (fun u12 wc => u12 = .int .i64 60 ∧ Within F q L (some ⟨pa, m⟩) x w2 wc)
  case first =>
    go_region_held_law (fun u => (∀ i, u.cell? ⟨w.heap.size, i, none⟩ = #[Value.int .i64 r1, Value.int .i64 r2, Value.int .i64 r3, Value.int .i64 r4, Value.int .i64 r5, Value.int .i64 r6, Value.string pa, Value.int .i64 m][i]?)) ((refine ?_; (repeat (first | (with_reducible assumption) | (with_reducible refine cells_drew ?_) | ((with_reducible refine cells_set ?_ _ _ ?_); rotate_left; (dsimp only; omega)) | (with_reducible refine cells_alloc ?_ (by first | assumption | omega | (simp; omega)) _))))) (first
      | (go_simp; go_at_call 11; (refine (root_any _).mono ?_); rintro e w5 ⟨rfl, hb5⟩; first
        | (have hchk : Below w2.drew.heap.size w2.drew w5 := hb5; have HB5 := Lib.hid (below_step (Ck8.below_drew w2) hchk); have q0 := blk_cell ((HB5.out.block _ l2).trans HX02.out); have q3 : w.heap.size < w5.heap.size := Nat.lt_of_lt_of_le l2 HB5.out.size; clear hb5 hchk; unfold plC at q0)
        | (have hchk : Below (w2.drew.alloc (.cells #[.int .i64 0, .int .i64 0, .string ⟨#[]⟩, .int .i64 0, .slice none 0 0, .int .i64 0] 45)).heap.size (w2.drew.alloc (.cells #[.int .i64 0, .int .i64 0, .string ⟨#[]⟩, .int .i64 0, .slice none 0 0, .int .i64 0] 45)) w5 := hb5; have HB5 := Lib.hid (below_step (Ck8.below_drew w2) (below_step (below_one w2.drew _) hchk)); have hz := (hchk.block w2.heap.size (by simp)).trans (heap_at w2.drew _ w2.heap.size rfl); have HZ := Lib.hid hz; have q0 := blk_cell ((HB5.out.block _ l2).trans HX02.out); have q3 : w.heap.size < w5.heap.size := Nat.lt_of_lt_of_le l2 HB5.out.size; clear hb5 hchk hz; unfold plC at q0); unfold rootC estr)
      | (go_simp; go_at_call 10; first
        | ((refine (HGR.out _ (HH2.out.below HB5.out) (Nat.le_of_lt q3)).mono ?_); rintro e w6 ⟨rfl, hW⟩; have HW := Lib.hid hW; have q9 : w.heap.size < w6.heap.size := Nat.lt_of_lt_of_le q3 hW.mod.size; have q6 := blk_cell ((hW.mod.block _ q3 (fun hf => by have := HF.out _ hf; omega)).trans ((HB5.out.block _ l2).trans HX02.out)); (try (have z6 := (hW.mod.block _ (lt_of_heap HZ.out) (fun hf => by have := HF.out _ hf; have := lt_of_heap HX02.out; omega)).trans HZ.out; have z0 := blk_cell z6; have zf := blk_free z6; have zl := lt_of_heap z6; clear z6)); clear hW; unfold plC at q6; unfold gC estr)
        | (have hq : w.heap.size < (w5.alloc (.cells #[.int .i64 0, .int .i64 0, .string ⟨#[]⟩, .int .i64 0, .slice none 0 0, .int .i64 0] 45)).heap.size := by simp; omega
           (refine (HGR.out _ ((HH2.out.below HB5.out).below (below_one w5 _)) (Nat.le_of_lt hq)).mono ?_); rintro e w6 ⟨rfl, hW⟩; have HW := Lib.hid hW; have q9 : w.heap.size < w6.heap.size := Nat.lt_of_lt_of_le hq hW.mod.size; have q6 := blk_cell ((hW.mod.block _ hq (fun hf => by have := HF.out _ hf; omega)).trans ((heap_past w5 _ _ q3).trans ((HB5.out.block _ l2).trans HX02.out))); have z6 := (hW.mod.block w5.heap.size (by simp) (fun hf => by have := HF.out _ hf; omega)).trans (heap_at w5 (.cells #[.int .i64 0, .int .i64 0, .string ⟨#[]⟩, .int .i64 0, .slice none 0 0, .int .i64 0] 45) _ rfl); have z0 := blk_cell z6; have zf := blk_free z6; have zl := lt_of_heap z6; clear hW z6 hq; unfold plC at q6; unfold gC estr)))
    all_goals first
      | (obtain ⟨w7, hw7⟩ : ∃ w7, w7 = ((((((w6.setCell ⟨w2.heap.size, 0, none⟩ (.int .i64 0)).setCell ⟨w2.heap.size, 1, none⟩ (.int .i64 0)).setCell ⟨w2.heap.size, 2, none⟩ (.string ⟨#[]⟩)).setCell ⟨w2.heap.size, 3, none⟩ (.int .i64 0)).setCell ⟨w2.heap.size, 4, none⟩ (.slice none 0 0)).setCell ⟨w2.heap.size, 5, none⟩ (.int .i64 0)) := ⟨_, rfl⟩; rw [← hw7]; have HW7 := Lib.hid (show Within F q L (some ⟨pa, m⟩) x w2 w7 from by
          obtain ⟨s1, s2, s3⟩ := sets_far w6 w2.heap.size [(0, .int .i64 0), (1, .int .i64 0), (2, .string ⟨#[]⟩), (3, .int .i64 0), (4, .slice none 0 0), (5, .int .i64 0)]
          rw [hw7]
          exact HW.out.far (g := w2.heap.size) HB5.out (Nat.le_refl _) (lt_of_heap HZ.out) (fun hf => by have := HF.out _ hf; omega) s1 s2 s3))
      | (obtain ⟨w7, hw7⟩ : ∃ w7, w7 = ((((((w6.setCell ⟨w5.heap.size, 0, none⟩ (.int .i64 0)).setCell ⟨w5.heap.size, 1, none⟩ (.int .i64 0)).setCell ⟨w5.heap.size, 2, none⟩ (.string ⟨#[]⟩)).setCell ⟨w5.heap.size, 3, none⟩ (.int .i64 0)).setCell ⟨w5.heap.size, 4, none⟩ (.slice none 0 0)).setCell ⟨w5.heap.size, 5, none⟩ (.int .i64 0)) := ⟨_, rfl⟩; rw [← hw7]; have HW7 := Lib.hid (show Within F q L (some ⟨pa, m⟩) x w2 w7 from by
          obtain ⟨s1, s2, s3⟩ := sets_far w6 w5.heap.size [(0, .int .i64 0), (1, .int .i64 0), (2, .string ⟨#[]⟩), (3, .int .i64 0), (4, .slice none 0 0), (5, .int .i64 0)]
          rw [hw7]
          exact HW.out.far (g := w5.heap.size) (below_step HB5.out (below_one w5 _)) HB5.out.size (by simp) (fun hf => by have := HF.out _ hf; omega) s1 s2 s3))
      | (obtain ⟨w7, hw7⟩ : ∃ w7, w7 = w6.alloc (.cells #[.int .i64 0, .int .i64 0, .string ⟨#[]⟩, .int .i64 0, .slice none 0 0, .int .i64 0] 45) := ⟨_, rfl⟩; rw [← hw7]; have HW7 := Lib.hid (show Within F q L (some ⟨pa, m⟩) x w2 w7 from by
          rw [hw7]
          exact (HW.out.first HB5.out).below (below_one _ _)))
    all_goals
      clear hw7
      go_wp2_with fail
      go_meet
      exact ⟨rfl, HW7.out⟩
  case rest =>
    obtain ⟨rfl, hW⟩ := hcut
    have HW := Lib.hid hW
    have r0 := blk_cell ((hW.mod.block _ (lt_of_heap HX2.out) (fun hf => by have h1 := HF.out _ hf; have h2 := HB2.out.size; have h3 := lt_of_heap HX02.out; have h4 := lt_of_heap HX0.out; have h5 := HW1.out; omega)).trans HX2.out)
    clear hW c0
    go_wp2_with fail
    go_ret
    exact ⟨rfl, HW.out.first HB2.out⟩
end Go.Proofs.YtchdfogifhfclaaGreatDoor
