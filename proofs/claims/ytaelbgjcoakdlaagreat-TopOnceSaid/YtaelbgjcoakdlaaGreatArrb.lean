/- arrives: an answer to a call that is not open. -/
import Derived.Test.YtaelbgjcoakdlaaGreatArra
namespace Go.Proofs.YtaelbgjcoakdlaaGreat
open Go.RowKit Go.Maps

set_option maxRecDepth 100000 in
set_option maxHeartbeats 1000000 in
theorem reply_shut {own : Nat → Nat} {base : Nat} {q : Nat} {h : Hd} {a : Ak} (D : Nat → Prop) (b s j id : Nat) (mark f t : Int) (dv : Value) (w : World) (H : AkAt own base w q h a) (hB : base ≤ w.heap.size) (hf : Fine (repM b s id)) (hd : BytesV D w dv (code (repM b s id)))
    (ho : ClOK a.c) (hn : a.c.next ≤ 1000) (hsj : s = j + 1) (hN : a.done.length ≤ 1000) (hs : s ≤ a.done.length) (ht : a.told.length = a.done.length) (hl : a.seen.length = a.done.length) (hk : ∀ i ∈ a.c.opn, (i : Int) ≠ (s : Int)) (htold : a.told[j]? = some (id : Int)) :
    Calls Tryz.prog 10 #[.pointer (some ⟨q, 0, none⟩), .agg #[.int .i64 f, .int .i64 t, dv], .int .i64 mark] w (ArPost base q h a w) := by
  obtain ⟨pc, pr, pb, vd, vt, vs⟩ := h
  obtain ⟨gd, cd, e1, cd1, cd2, cd3, cd4, cd5, cd6, cd7⟩ := H.done.at_ (j := j) (by omega)
  obtain ⟨gt, ct, e2, ct1, ct2, ct3, ct4, ct5, ct6, ct7⟩ := H.told.at_ (j := j) (by omega)
  obtain ⟨gs, cs, e3, cs1, cs2, cs3, cs4, cs5, cs6, cs7⟩ := H.seen.at_ (j := j) (by omega)
  dsimp only at e1 e2 e3
  subst e1 e2 e3
  clear cd6 cd7 ct6 ct7 cs6 cs7
  obtain ⟨m, hm⟩ : ∃ m, m = repM b s id := ⟨_, rfl⟩
  have HM := Lib.hid hm
  rw [← hm] at hf hd
  clear hm
  have HF := Lib.hid hf
  have HO := Lib.hid ho
  have HK := Lib.hid hk
  have hbA : Below w.heap.size w (w.alloc (.cells #[.int .i64 f, .int .i64 t, dv] 41)) := (Below.refl _ _).alloc (Nat.le_refl _) _
  have HA := Lib.hid (H.below hbA)
  have HBA := Lib.hid (hbA.mono hB)
  have HD := Lib.hid (hd.below hbA)
  obtain ⟨da, dc, rfl, _⟩ := hd
  have hsub : IntKind.i64.wrap ((s : Int) - 1) = (j : Int) := by rw [IntWalk.i64_in _ (by omega)]; omega
  have d1 : decide ((s : Int) < 1) = false := decide_eq_false (by omega)
  have d2 : decide ((a.done.length : Int) < (s : Int)) = false := decide_eq_false (by omega)
  have d3 : decide (a.done.length < s) = false := decide_eq_false (by omega)
  have HSJ := Lib.hid hsj
  have HT := Lib.hid ht
  have HL := Lib.hid hl
  clear H hf ho hk hbA hsj ht hl
  go_enter Tryz.func10, Tryz.ntmps10
  go_wp2_with fail
  refine (decode_any D m _ _ HF.out HD.out).mono ?_
  rintro e w1 ⟨rfl, hb1⟩
  have hS1 : ArS own base q ⟨pc, pr, pb, _, _, _⟩ a w m w1.heap.size (w1.alloc (.cells m.cells 51)) :=
    ⟨(HA.out.below hb1).below ((Below.refl _ _).alloc (Nat.le_refl _) _), heap_at w1 _ _ rfl, Classical.byContradiction fun e => by have := (HA.out.back _ e).2; have := hb1.size; omega, HBA.out.trans ((hb1.mono (by have := HBA.out.size; omega)).trans ((Below.refl _ _).alloc (by have := HBA.out.size; have := hb1.size; omega) _))⟩
  have HS1 := Lib.hid hS1
  obtain ⟨w2, hw2⟩ : ∃ w2, w2 = w1.alloc (.cells m.cells 51) := ⟨_, rfl⟩
  have HS2 := Lib.hid (hw2 ▸ hS1)
  clear hb1 hS1
  go_wp2_with (refine wpList_store_row rfl 51 (.tmp 7) (.tmp 20) rfl w1.heap.size m.cells rfl rfl 51 _ (heap_at _ _ _ rfl) (by kernel_rfl) rfl (Ms.one _) ?_; rw [World.setRow_alloc_new, ← hw2]; clear hw2)
  rw [HM.out] at HS2
  obtain ⟨hq2, hm2⟩ := HS2.out.cells
  have m4 : w2.cell? ⟨w1.heap.size, 4, none⟩ = some (.int .i64 (s : Int)) := hm2 4
  have m0 : w2.cell? ⟨w1.heap.size, 0, none⟩ = some (.int .i64 2) := hm2 0
  have q3 : w2.cell? ⟨q, 3, none⟩ = some (.slice (some ⟨gd, 0, none⟩) a.done.length cd) := hq2 3
  clear hm2 hq2
  have hlen : ∀ u : World, (Builtin.len_ #[32] 3 #[.slice (some ⟨gd, 0, none⟩) a.done.length cd]).run Tryz.prog u = .ok (.int .i64 (a.done.length : Nat)) u := fun u => (run_len_slice (P := Tryz.prog) (w := u) 32 3 _ _ _ Tryz.underlying32).trans rfl
  have l2 := hlen w2
  have l3 := hlen w2.drew
  go_region_held3 (fun u => u.cell? ⟨w1.heap.size, 4, none⟩ = some (.int .i64 (s : Int)) ∧ u.cell? ⟨q, 3, none⟩ = some (.slice (some ⟨gd, 0, none⟩) a.done.length cd) ∧ (Builtin.len_ #[32] 3 #[.slice (some ⟨gd, 0, none⟩) a.done.length cd]).run Tryz.prog u = .ok (.int .i64 (a.done.length : Nat)) u) (first | (go_split_ands; exact ⟨by assumption, by assumption, by assumption⟩) | go_keep) (fail)
  go_wp2_with fail
  clear l2 l3 m0 m4 q3
  have HS3 := Lib.hid ((HS2.out.below hB (below_drew w2)).below hB (below_drew w2.drew))
  obtain ⟨zz, hzz⟩ : ∃ zz, zz = zeroC := ⟨_, rfl⟩
  have hs10 : zz.size = 10 := by rw [hzz]; rfl
  have hz1 : zz.all (·.oneCell') = true := by rw [hzz]; exact zeroC_one
  have hzi : (Tryz.prog.info? 75).map (·.size) = some zz.size := by rw [hs10]; kernel_rfl
  have HZZ := Lib.hid hzz
  clear hzz
  obtain ⟨hq2, hm2⟩ := HS2.out.cells
  have m4 : w2.cell? ⟨w1.heap.size, 4, none⟩ = some (.int .i64 (s : Int)) := hm2 4
  have q0 : w2.cell? ⟨q, 0, none⟩ = some (.pointer (some ⟨pc, 0, none⟩)) := hq2 0
  clear hm2 hq2
  go_region_held_law (fun u => u.cell? ⟨q, 0, none⟩ = some (.pointer (some ⟨pc, 0, none⟩)) ∧ u.cell? ⟨w1.heap.size, 4, none⟩ = some (.int .i64 (s : Int))) (first | (go_split_ands; exact ⟨by assumption, by assumption⟩) | go_keep) (first
    | (go_at_call 20; (refine (close_out (fun k => own k = 1) pc a.c (s : Int) _ (by first | exact HS3.out.ak.calls | exact (HS3.out.below hB ((Below.refl _ _).alloc (Nat.le_refl _) _)).ak.calls) HO.out ⟨by omega, by omega⟩ HK.out).mono ?_); rintro e w3 ⟨he, hb3⟩; rw [← HZZ.out] at he; subst he;
        first
        | (have hz := HS3.out.below hB hb3; have hy := hz.below hB ((Below.refl _ _).alloc (Nat.le_refl _) (.cells zeroC 75)); (obtain ⟨hf1, hf2, hf3⟩ := hz.fresh hB (Nat.le_refl _)); (obtain ⟨hst, hx⟩ := hy.stored (heap_at w3 _ _ rfl) (xs := zz) (by rw [hs10]; rfl) hzi hz1 hf1 hf2 hf3); unfold zeroC estr at hy hst hx; have hz0 := hz.cells.1 0; have hz4 := hz.cells.2 4; have hy0 := hy.cells.1 0; have hy4 := hy.cells.2 4; have hx0 := hx.cells.1 0; have hx4 := hx.cells.2 4)
        | (have hz := (HS3.out.below hB ((Below.refl _ _).alloc (Nat.le_refl _) _)).below hB hb3; (obtain ⟨hf1, hf2, hf3⟩ := HS3.out.fresh hB (Nat.le_refl _)); (obtain ⟨hst, hx⟩ := hz.stored (r := w2.heap.size) ((hb3.block _ (by simp)).trans (heap_at _ (.cells zeroC 75) _ rfl)) (xs := zz) (by rw [hs10]; rfl) hzi hz1 hf1 hf2 hf3); have hz0 := hz.cells.1 0; have hz4 := hz.cells.2 4; have hx0 := hx.cells.1 0; have hx4 := hx.cells.2 4)))
  all_goals
    have k0 : (0 : Int) ≤ (j : Int) := by omega
    have k2 : (j : Int) < (a.told.length : Int) := by have := HSJ.out; have := HT.out; have := HL.out; omega
    refine world_out (fun u => ArS own base q ⟨pc, pr, pb, .slice (some ⟨gd, 0, none⟩) a.done.length cd, .slice (some ⟨gt, 0, none⟩) a.told.length ct, .slice (some ⟨gs, 0, none⟩) a.seen.length cs⟩ a w (repM b s id) w1.heap.size u) hx ?_
    clear hst hz0 hz4 hx0 hx4
    clear hx hz hf1 hf2 hf3 hb3
    intro w5 h5
    have HS6 := Lib.hid h5
    clear h5
    have m4 : w5.cell? ⟨w1.heap.size, 4, none⟩ = some (.int .i64 (s : Int)) := HS6.out.cells.2 4
    have m10 : w5.cell? ⟨w1.heap.size, 10, none⟩ = some (.int .i64 (id : Int)) := HS6.out.cells.2 10
    have q4 : w5.cell? ⟨q, 4, none⟩ = some (.slice (some ⟨gt, 0, none⟩) a.told.length ct) := HS6.out.cells.1 4
    obtain ⟨c5, f5⟩ := HS6.out.ak.told.cellAt rfl htold
    go_wp2_with fail
    go_quiet (fail)
    go_wp2_with fail
    go_ret
    have hE := HS6.out.below hB (below_drewN w5 nq)
    exact ⟨rfl, own, hE.ak, hE.low⟩
end Go.Proofs.YtaelbgjcoakdlaaGreat
