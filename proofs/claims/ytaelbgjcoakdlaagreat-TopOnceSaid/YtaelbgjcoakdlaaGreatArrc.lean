/- arrives: a request that is past its window. -/
import Derived.Test.YtaelbgjcoakdlaaGreatArrb
namespace Go.Proofs.YtaelbgjcoakdlaaGreat
open Go.RowKit Go.Maps

theorem ArS.upRep {own : Nat → Nat} {base q : Nat} {h : Hd} {a : Ak} {w : World} {m : Ms} {mb : Nat} {u u' : World} {r' : Rep} (H : ArS own base q h a w m mb u) (hB : base ≤ w.heap.size) (hc : RepAt u' h.pr r') (hm : Mod (fun k => k = h.pr) u u') : ArS own base q h { a with r := r' } w m mb u' :=
  ⟨H.ak.upRep hc hm, (hm.block mb (lt_of_heap H.msg) (fun e => by have e1 := H.free; have e2 := H.ak.hr; rw [e, e2] at e1; cases e1)).trans H.msg, H.free, H.low.trans (hm.toBelow (Nat.le_trans hB H.low.size) (fun k e => (H.ak.back k (by rw [e, H.ak.hr]; decide)).1))⟩
set_option maxRecDepth 100000 in
set_option maxHeartbeats 1000000 in
theorem ask_stale {own : Nat → Nat} {base : Nat} {q : Nat} {h : Hd} {a : Ak} (D : Nat → Prop) (b s l j : Nat) (mark f t : Int) (dv : Value) (w : World) (H : AkAt own base w q h a) (hB : base ≤ w.heap.size) (hf : Fine (askM 1 b s l)) (hd : BytesV D w dv (code (askM 1 b s l)))
    (ho : ClOK a.c) (hn : a.c.next ≤ 1000) (hsj : s = j + 1) (hN : a.done.length ≤ 1000) (hs : s ≤ a.done.length) (ht : a.told.length = a.done.length) (hl : a.seen.length = a.done.length) (hb : a.r.boot ≤ b) (h1 : 1 ≤ l) (hls : l ≤ s) (hlow : a.r.low ≤ 1000) (hwin : s < (a.r.turn b l).low + 8)
    (hst0 : s < (a.r.turn b l).low) (hk : ∀ i ∈ a.c.opn, (i : Int) ≠ (s : Int)) :
    Calls Tryz.prog 10 #[.pointer (some ⟨q, 0, none⟩), .agg #[.int .i64 f, .int .i64 t, dv], .int .i64 mark] w (ArPost base q h { a with r := a.r.turn b l } w) := by
  obtain ⟨pc, pr, pb, vd, vt, vs⟩ := h
  obtain ⟨gd, cd, e1, cd1, cd2, cd3, cd4, cd5, cd6, cd7⟩ := H.done.at_ (j := j) (by omega)
  obtain ⟨gt, ct, e2, ct1, ct2, ct3, ct4, ct5, ct6, ct7⟩ := H.told.at_ (j := j) (by omega)
  obtain ⟨gs, cs, e3, cs1, cs2, cs3, cs4, cs5, cs6, cs7⟩ := H.seen.at_ (j := j) (by omega)
  dsimp only at e1 e2 e3
  subst e1 e2 e3
  clear cd6 cd7 ct6 ct7 cs6 cs7
  obtain ⟨m, hm⟩ : ∃ m, m = askM 1 b s l := ⟨_, rfl⟩
  have HM := Lib.hid hm
  rw [← hm] at hf hd
  clear hm
  have HF := Lib.hid hf
  have HK := Lib.hid hk
  clear hk
  have HO := Lib.hid ho
  have hbA : Below w.heap.size w (w.alloc (.cells #[.int .i64 f, .int .i64 t, dv] 41)) := (Below.refl _ _).alloc (Nat.le_refl _) _
  have HA := Lib.hid (H.below hbA)
  have HBA := Lib.hid (hbA.mono hB)
  have HD := Lib.hid (hd.below hbA)
  obtain ⟨da, dc, rfl, _⟩ := hd
  have hsub : IntKind.i64.wrap ((s : Int) - 1) = (j : Int) := by rw [IntWalk.i64_in _ (by omega)]; omega
  have d1 : decide ((s : Int) < 1) = false := decide_eq_false (by omega)
  have d2 : decide ((a.done.length : Int) < (s : Int)) = false := decide_eq_false (by omega)
  have d3 : decide (a.done.length < s) = false := decide_eq_false (by omega)
  have HSJ := Lib.hid hsj
  have HT := Lib.hid ht
  have HL := Lib.hid hl
  clear H hf ho hbA hsj ht hl
  go_enter Tryz.func10, Tryz.ntmps10
  go_wp2_with fail
  refine (decode_any D m _ _ HF.out HD.out).mono ?_
  rintro e w1 ⟨rfl, hb1⟩
  have hS1 : ArS own base q ⟨pc, pr, pb, _, _, _⟩ a w m w1.heap.size (w1.alloc (.cells m.cells 51)) :=
    ⟨(HA.out.below hb1).below ((Below.refl _ _).alloc (Nat.le_refl _) _), heap_at w1 _ _ rfl, Classical.byContradiction fun e => by have := (HA.out.back _ e).2; have := hb1.size; omega, HBA.out.trans ((hb1.mono (by have := HBA.out.size; omega)).trans ((Below.refl _ _).alloc (by have := HBA.out.size; have := hb1.size; omega) _))⟩
  have HS1 := Lib.hid hS1
  obtain ⟨w2, hw2⟩ : ∃ w2, w2 = w1.alloc (.cells m.cells 51) := ⟨_, rfl⟩
  have HS2 := Lib.hid (hw2 ▸ hS1)
  clear hb1 hS1
  go_wp2_with (refine wpList_store_row rfl 51 (.tmp 7) (.tmp 20) rfl w1.heap.size m.cells rfl rfl 51 _ (heap_at _ _ _ rfl) (by kernel_rfl) rfl (Ms.one _) ?_; rw [World.setRow_alloc_new, ← hw2]; clear hw2)
  rw [HM.out] at HS2
  obtain ⟨hq2, hm2⟩ := HS2.out.cells
  have m4 : w2.cell? ⟨w1.heap.size, 4, none⟩ = some (.int .i64 (s : Int)) := hm2 4
  have m0 : w2.cell? ⟨w1.heap.size, 0, none⟩ = some (.int .i64 1) := hm2 0
  have q3 : w2.cell? ⟨q, 3, none⟩ = some (.slice (some ⟨gd, 0, none⟩) a.done.length cd) := hq2 3
  clear hm2 hq2
  have hlen : ∀ u : World, (Builtin.len_ #[32] 3 #[.slice (some ⟨gd, 0, none⟩) a.done.length cd]).run Tryz.prog u = .ok (.int .i64 (a.done.length : Nat)) u := fun u => (run_len_slice (P := Tryz.prog) (w := u) 32 3 _ _ _ Tryz.underlying32).trans rfl
  have l2 := hlen w2
  have l3 := hlen w2.drew
  go_region_held3 (fun u => u.cell? ⟨w1.heap.size, 4, none⟩ = some (.int .i64 (s : Int)) ∧ u.cell? ⟨q, 3, none⟩ = some (.slice (some ⟨gd, 0, none⟩) a.done.length cd) ∧ (Builtin.len_ #[32] 3 #[.slice (some ⟨gd, 0, none⟩) a.done.length cd]).run Tryz.prog u = .ok (.int .i64 (a.done.length : Nat)) u) (first | (go_split_ands; exact ⟨by assumption, by assumption, by assumption⟩) | go_keep) (fail)
  go_wp2_with fail
  clear l2 l3 m0 m4 q3
  have HS3 := Lib.hid ((HS2.out.below hB (below_drew w2)).below hB (below_drew w2.drew))
  obtain ⟨zz, hzz⟩ : ∃ zz, zz = zeroM.cells := ⟨_, rfl⟩
  have hs16 : zz.size = 16 := by rw [hzz]; rfl
  have hz1 : zz.all (·.oneCell') = true := by rw [hzz]; exact Ms.one _
  have hzi : (Tryz.prog.info? 51).map (·.size) = some zz.size := by rw [hs16]; kernel_rfl
  have HZZ := Lib.hid hzz
  have HSE := Lib.hid (fun (W : World) (hW : RepAt W pr a.r) => (seen_any pr a.r b s l W hW (HM.out ▸ HF.out) hb h1 (by have := HSJ.out; omega) hls hlow hwin).mono (R' := fun e w' => e = .returned (.tuple #[.int .i64 1, .agg zz]) ∧ RepAt w' pr (a.r.turn b l) ∧ Mod (fun b => b = pr) W w') (fun e w' hp => by obtain ⟨p1, p2, p3⟩ := hp; rcases p3 with ⟨_, p4⟩ | ⟨p4, _⟩ | ⟨p4, _⟩; exact ⟨by rw [p4, hzz]; rfl, p1, p2⟩; exact absurd hst0 (by omega); exact absurd hst0 (by omega)))
  clear hzz
  obtain ⟨hq2, hm2⟩ := HS2.out.cells
  have m4 : ∀ i, w2.cell? ⟨w1.heap.size, i, none⟩ = #[.int .i64 1, .int .i64 1, .int .i64 0, .int .i64 (b : Int), .int .i64 (s : Int), .int .i64 (l : Int), .int .i64 3, .string estr, .int .i64 0, .int .i64 0, .int .i64 9, .bool false, .int .i64 0, .slice none 0 0, .int .i64 0, .int .i64 0][i]? := hm2
  have q1 : w2.cell? ⟨q, 1, none⟩ = some (.pointer (some ⟨pr, 0, none⟩)) := hq2 1
  clear hm2 hq2
  have hSA := ((HS2.out.below hB ((Below.refl _ _).alloc (Nat.le_refl _) (.cells #[.int .i64 0, .int .i64 0, .int .i64 0, .int .i64 0, .int .i64 0, .int .i64 0, .int .i64 0, .string ⟨#[]⟩, .int .i64 0, .int .i64 0, .int .i64 0, .bool false, .int .i64 0, .slice none 0 0, .int .i64 0, .int .i64 0] 51))).below hB (below_drew _)).below hB (below_drew _)
  have qA : (w2.alloc (.cells #[.int .i64 0, .int .i64 0, .int .i64 0, .int .i64 0, .int .i64 0, .int .i64 0, .int .i64 0, .string ⟨#[]⟩, .int .i64 0, .int .i64 0, .int .i64 0, .bool false, .int .i64 0, .slice none 0 0, .int .i64 0, .int .i64 0] 51)).drew.drew.cell? ⟨q, 1, none⟩ = some (.pointer (some ⟨pr, 0, none⟩)) := hSA.cells.1 1
  have mA : ∀ i, (w2.alloc (.cells #[.int .i64 0, .int .i64 0, .int .i64 0, .int .i64 0, .int .i64 0, .int .i64 0, .int .i64 0, .string ⟨#[]⟩, .int .i64 0, .int .i64 0, .int .i64 0, .bool false, .int .i64 0, .slice none 0 0, .int .i64 0, .int .i64 0] 51)).drew.drew.cell? ⟨w1.heap.size, i, none⟩ = #[.int .i64 1, .int .i64 1, .int .i64 0, .int .i64 (b : Int), .int .i64 (s : Int), .int .i64 (l : Int), .int .i64 3, .string estr, .int .i64 0, .int .i64 0, .int .i64 9, .bool false, .int .i64 0, .slice none 0 0, .int .i64 0, .int .i64 0][i]? := hSA.cells.2
  clear hSA
  go_region_held_law (fun u => u.cell? ⟨q, 1, none⟩ = some (.pointer (some ⟨pr, 0, none⟩)) ∧ (∀ i, u.cell? ⟨w1.heap.size, i, none⟩ = #[.int .i64 1, .int .i64 1, .int .i64 0, .int .i64 (b : Int), .int .i64 (s : Int), .int .i64 (l : Int), .int .i64 3, .string estr, .int .i64 0, .int .i64 0, .int .i64 9, .bool false, .int .i64 0, .slice none 0 0, .int .i64 0, .int .i64 0][i]?)) (first | (go_split_ands; exact ⟨by assumption, by assumption⟩) | go_keep) (first
    | (go_at_call 21; (refine (HSE.out _ (by first | exact HS3.out.ak.rep | exact (HS3.out.below hB ((Below.refl _ _).alloc (Nat.le_refl _) _)).ak.rep)).mono ?_); rintro e w3 ⟨rfl, hr3, hm3⟩;
        first
        | (have hz := HS3.out.upRep hB hr3 hm3; have hy := hz.below hB ((Below.refl _ _).alloc (Nat.le_refl _) (.cells zeroM.cells 51)); (obtain ⟨hf1, hf2, hf3⟩ := hz.fresh hB (Nat.le_refl _)); (obtain ⟨hst, hx⟩ := hy.stored (heap_at w3 _ _ rfl) (xs := zz) (by rw [hs16]; rfl) hzi hz1 hf1 hf2 hf3); have hxx : (World.setRow (w3.alloc (.cells zeroM.cells 51)) w3.heap.size zz).heap[w3.heap.size]? = some (.cells zz 51 (0, 0)) := setRow_heap _ _ _ _ _ _ (heap_at w3 (.cells zeroM.cells 51) _ rfl); unfold zeroM Ms.cells estr at hy hst hx hxx; have hz0 := hz.cells.1 1; have hz4 : ∀ i, w3.cell? ⟨w1.heap.size, i, none⟩ = #[.int .i64 1, .int .i64 1, .int .i64 0, .int .i64 (b : Int), .int .i64 (s : Int), .int .i64 (l : Int), .int .i64 3, .string estr, .int .i64 0, .int .i64 0, .int .i64 9, .bool false, .int .i64 0, .slice none 0 0, .int .i64 0, .int .i64 0][i]? := hz.cells.2; have hy0 := hy.cells.1 1; have hy4 : ∀ i, World.cell? _ ⟨w1.heap.size, i, none⟩ = #[.int .i64 1, .int .i64 1, .int .i64 0, .int .i64 (b : Int), .int .i64 (s : Int), .int .i64 (l : Int), .int .i64 3, .string estr, .int .i64 0, .int .i64 0, .int .i64 9, .bool false, .int .i64 0, .slice none 0 0, .int .i64 0, .int .i64 0][i]? := hy.cells.2; have hx0 := hx.cells.1 1; have hx4 : ∀ i, World.cell? _ ⟨w1.heap.size, i, none⟩ = #[.int .i64 1, .int .i64 1, .int .i64 0, .int .i64 (b : Int), .int .i64 (s : Int), .int .i64 (l : Int), .int .i64 3, .string estr, .int .i64 0, .int .i64 0, .int .i64 9, .bool false, .int .i64 0, .slice none 0 0, .int .i64 0, .int .i64 0][i]? := hx.cells.2)
        | (have hz := (HS3.out.below hB ((Below.refl _ _).alloc (Nat.le_refl _) _)).upRep hB hr3 hm3; (obtain ⟨hf1, hf2, hf3⟩ := HS3.out.fresh hB (Nat.le_refl _)); have hbx := ((hm3.block w2.heap.size (by simp) (fun e => absurd (e ▸ hf1) (by rw [HS3.out.ak.hr]; decide))).trans (heap_at _ (.cells zeroM.cells 51) _ rfl)); (obtain ⟨hst, hx⟩ := hz.stored (r := w2.heap.size) hbx (xs := zz) (by rw [hs16]; rfl) hzi hz1 hf1 hf2 hf3); have hxx : (World.setRow w3 w2.heap.size zz).heap[w2.heap.size]? = some (.cells zz 51 (0, 0)) := setRow_heap _ _ _ _ _ _ hbx; have hz0 := hz.cells.1 1; have hz4 : ∀ i, w3.cell? ⟨w1.heap.size, i, none⟩ = #[.int .i64 1, .int .i64 1, .int .i64 0, .int .i64 (b : Int), .int .i64 (s : Int), .int .i64 (l : Int), .int .i64 3, .string estr, .int .i64 0, .int .i64 0, .int .i64 9, .bool false, .int .i64 0, .slice none 0 0, .int .i64 0, .int .i64 0][i]? := hz.cells.2; have hx0 := hx.cells.1 1; have hx4 : ∀ i, World.cell? _ ⟨w1.heap.size, i, none⟩ = #[.int .i64 1, .int .i64 1, .int .i64 0, .int .i64 (b : Int), .int .i64 (s : Int), .int .i64 (l : Int), .int .i64 3, .string estr, .int .i64 0, .int .i64 0, .int .i64 9, .bool false, .int .i64 0, .slice none 0 0, .int .i64 0, .int .i64 0][i]? := hx.cells.2)))
  all_goals
    clear hst hz0 hz4 hx0 hx4 hxx qA mA hz1 hzi hs16
    refine world_out (fun u => ArS own base q ⟨pc, pr, pb, .slice (some ⟨gd, 0, none⟩) a.done.length cd, .slice (some ⟨gt, 0, none⟩) a.told.length ct, .slice (some ⟨gs, 0, none⟩) a.seen.length cs⟩ { a with r := a.r.turn b l } w (askM 1 b s l) w1.heap.size u) hx ?_
    clear hx hz hf1 hf2 hf3 hr3 hm3
    intro w4 h4
    have HS4 := Lib.hid (h4.below hB (below_drew w4))
    have m4 : w4.cell? ⟨w1.heap.size, 4, none⟩ = some (.int .i64 (s : Int)) := h4.cells.2 4
    have q0 : w4.cell? ⟨q, 0, none⟩ = some (.pointer (some ⟨pc, 0, none⟩)) := h4.cells.1 0
    clear h4
    obtain ⟨zc, hzc⟩ : ∃ zc, zc = zeroC := ⟨_, rfl⟩
    have hs10 : zc.size = 10 := by rw [hzc]; rfl
    have hz1 : zc.all (·.oneCell') = true := by rw [hzc]; exact zeroC_one
    have hzi : (Tryz.prog.info? 75).map (·.size) = some zc.size := by rw [hs10]; kernel_rfl
    have HZC := Lib.hid hzc
    clear hzc
    go_wp2_with fail
    go_region_held_law (fun u => u.cell? ⟨q, 0, none⟩ = some (.pointer (some ⟨pc, 0, none⟩)) ∧ u.cell? ⟨w1.heap.size, 4, none⟩ = some (.int .i64 (s : Int))) (first | (go_split_ands; exact ⟨by assumption, by assumption⟩) | go_keep) (first
      | (go_at_call 22; (refine (get_out (fun k => own k = 1) pc a.c (s : Int) _ (by first | exact HS4.out.ak.calls | exact (HS4.out.below hB ((Below.refl _ _).alloc (Nat.le_refl _) _)).ak.calls) HO.out ⟨by omega, by omega⟩ HK.out).mono ?_); rintro e w5 ⟨he, hb5⟩; rw [← HZC.out] at he; subst he;
          first
          | (have hz := HS4.out.below hB hb5; have hy := hz.below hB ((Below.refl _ _).alloc (Nat.le_refl _) (.cells zeroC 75)); (obtain ⟨hf1, hf2, hf3⟩ := hz.fresh hB (Nat.le_refl _)); (obtain ⟨hst, hx⟩ := hy.stored (heap_at w5 _ _ rfl) (xs := zc) (by rw [hs10]; rfl) hzi hz1 hf1 hf2 hf3); unfold zeroC estr at hy hst hx; have hz0 := hz.cells.1 0; have hz4 := hz.cells.2 4; have hy0 := hy.cells.1 0; have hy4 := hy.cells.2 4; have hx0 := hx.cells.1 0; have hx4 := hx.cells.2 4)
          | (have hz := (HS4.out.below hB ((Below.refl _ _).alloc (Nat.le_refl _) _)).below hB hb5; (obtain ⟨hf1, hf2, hf3⟩ := HS4.out.fresh hB (Nat.le_refl _)); (obtain ⟨hst, hx⟩ := hz.stored (r := w4.heap.size) ((hb5.block _ (by simp)).trans (heap_at _ (.cells zeroC 75) _ rfl)) (xs := zc) (by rw [hs10]; rfl) hzi hz1 hf1 hf2 hf3); have hz0 := hz.cells.1 0; have hz4 := hz.cells.2 4; have hx0 := hx.cells.1 0; have hx4 := hx.cells.2 4)))
    all_goals
      clear hst hz0 hz4 hx0 hx4
      refine world_out (fun u => ArS own base q ⟨pc, pr, pb, .slice (some ⟨gd, 0, none⟩) a.done.length cd, .slice (some ⟨gt, 0, none⟩) a.told.length ct, .slice (some ⟨gs, 0, none⟩) a.seen.length cs⟩ { a with r := a.r.turn b l } w (askM 1 b s l) w1.heap.size u) hx ?_
      clear hx hz hf1 hf2 hf3 hb5
      intro w6 h6
      have HS6 := Lib.hid h6
      clear h6
      go_wp2_with fail
      go_ret
      exact ⟨rfl, own, HS6.out.ak, HS6.out.low⟩
end Go.Proofs.YtaelbgjcoakdlaaGreat
