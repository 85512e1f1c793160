/- arrives: a request that is new. -/
import Derived.Test.YtaelbgjcoakdlaaGreatArrn
namespace Go.Proofs.YtaelbgjcoakdlaaGreat
open Go.RowKit Go.Maps

theorem turn_twice (r : Rep) (b l : Nat) : (r.turn b l).turn b l = r.turn b l := by
  have hb := turn_boot r b l
  have hl : l ≤ (r.turn b l).low := by
    unfold Rep.turn
    split
    · split
      · assumption
      · exact Nat.le_refl _
    · exact Nat.le_refl _
  generalize r.turn b l = R at hb hl ⊢
  unfold Rep.turn
  rw [if_pos hb.symm, if_pos hl]
set_option maxRecDepth 100000 in
set_option maxHeartbeats 8000000 in
theorem ask_new {own : Nat → Nat} {base : Nat} {q : Nat} {h : Hd} {a : Ak} (D : Nat → Prop) (b s l j : Nat) (mark f t : Int) (dv : Value) (w : World) (H : AkAt own base w q h a) (hB : base ≤ w.heap.size) (hf : Fine (askM 1 b s l)) (hd : BytesV D w dv (code (askM 1 b s l)))
    (ho : ClOK a.c) (hn : a.c.next ≤ 1000) (hsj : s = j + 1) (hN : a.done.length ≤ 1000) (hs : s ≤ a.done.length) (ht : a.told.length = a.done.length) (hl : a.seen.length = a.done.length) (hb : a.r.boot ≤ b) (h1 : 1 ≤ l) (hls : l ≤ s) (hlow : a.r.low ≤ 1000) (hwin : s < (a.r.turn b l).low + 8)
    (mk : Nat) (hmk : mark = (mk : Int)) (hge : (a.r.turn b l).low ≤ s) (hne : ((a.r.turn b l).slots (s % 8)).s ≠ s) (htold : a.told[j]? = some 0) (hdone : a.done[j]? = some 0) (hfa : Fine (repM b s mk)) (hbs : a.b.sent ≤ 10000) (hbl : a.b.lost ≤ 10000) :
    Calls Tryz.prog 10 #[.pointer (some ⟨q, 0, none⟩), .agg #[.int .i64 f, .int .i64 t, dv], .int .i64 mark] w (ArPost base q h { a with r := (a.r.turn b l).keep s mk, b := a.b.send (pkt (repM b s mk)), done := a.done.set j 1, told := a.told.set j mk } w) := by
  subst hmk
  obtain ⟨pc, pr, pb, vd, vt, vs⟩ := h
  obtain ⟨gd, cd, e1, cd1, cd2, cd3, cd4, cd5, cd6, cd7⟩ := H.done.at_ (j := j) (by omega)
  obtain ⟨gt, ct, e2, ct1, ct2, ct3, ct4, ct5, ct6, ct7⟩ := H.told.at_ (j := j) (by omega)
  obtain ⟨gs, cs, e3, cs1, cs2, cs3, cs4, cs5, cs6, cs7⟩ := H.seen.at_ (j := j) (by omega)
  dsimp only at e1 e2 e3
  subst e1 e2 e3
  clear cd6 cd7 ct6 ct7 cs6 cs7
  obtain ⟨m, hm⟩ : ∃ m, m = askM 1 b s l := ⟨_, rfl⟩
  have HM := Lib.hid hm
  rw [← hm] at hf hd
  clear hm
  have HF := Lib.hid hf
  have HO := Lib.hid ho
  have hbA : Below w.heap.size w (w.alloc (.cells #[.int .i64 f, .int .i64 t, dv] 41)) := (Below.refl _ _).alloc (Nat.le_refl _) _
  have HA := Lib.hid (H.below hbA)
  have HBA := Lib.hid (hbA.mono hB)
  have HD := Lib.hid (hd.below hbA)
  obtain ⟨da, dc, rfl, _⟩ := hd
  have hsub : IntKind.i64.wrap ((s : Int) - 1) = (j : Int) := by rw [IntWalk.i64_in _ (by omega)]; omega
  have d1 : decide ((s : Int) < 1) = false := decide_eq_false (by omega)
  have d2 : decide ((a.done.length : Int) < (s : Int)) = false := decide_eq_false (by omega)
  have d3 : decide (a.done.length < s) = false := decide_eq_false (by omega)
  have HSJ := Lib.hid hsj
  have HT := Lib.hid ht
  have HL := Lib.hid hl
  clear H hf ho hbA hsj ht hl
  go_enter Tryz.func10, Tryz.ntmps10
  go_wp2_with fail
  refine (decode_any D m _ _ HF.out HD.out).mono ?_
  rintro e w1 ⟨rfl, hb1⟩
  have hS1 : ArS own base q ⟨pc, pr, pb, _, _, _⟩ a w m w1.heap.size (w1.alloc (.cells m.cells 51)) :=
    ⟨(HA.out.below hb1).below ((Below.refl _ _).alloc (Nat.le_refl _) _), heap_at w1 _ _ rfl, Classical.byContradiction fun e => by have := (HA.out.back _ e).2; have := hb1.size; omega, HBA.out.trans ((hb1.mono (by have := HBA.out.size; omega)).trans ((Below.refl _ _).alloc (by have := HBA.out.size; have := hb1.size; omega) _))⟩
  have HS1 := Lib.hid hS1
  obtain ⟨w2, hw2⟩ : ∃ w2, w2 = w1.alloc (.cells m.cells 51) := ⟨_, rfl⟩
  have HS2 := Lib.hid (hw2 ▸ hS1)
  clear hb1 hS1
  go_wp2_with (refine wpList_store_row rfl 51 (.tmp 7) (.tmp 20) rfl w1.heap.size m.cells rfl rfl 51 _ (heap_at _ _ _ rfl) (by kernel_rfl) rfl (Ms.one _) ?_; rw [World.setRow_alloc_new, ← hw2]; clear hw2)
  rw [HM.out] at HS2
  obtain ⟨hq2, hm2⟩ := HS2.out.cells
  have m4 : w2.cell? ⟨w1.heap.size, 4, none⟩ = some (.int .i64 (s : Int)) := hm2 4
  have m0 : w2.cell? ⟨w1.heap.size, 0, none⟩ = some (.int .i64 1) := hm2 0
  have q3 : w2.cell? ⟨q, 3, none⟩ = some (.slice (some ⟨gd, 0, none⟩) a.done.length cd) := hq2 3
  clear hm2 hq2
  have hlen : ∀ u : World, (Builtin.len_ #[32] 3 #[.slice (some ⟨gd, 0, none⟩) a.done.length cd]).run Tryz.prog u = .ok (.int .i64 (a.done.length : Nat)) u := fun u => (run_len_slice (P := Tryz.prog) (w := u) 32 3 _ _ _ Tryz.underlying32).trans rfl
  have l2 := hlen w2
  have l3 := hlen w2.drew
  go_region_held3 (fun u => u.cell? ⟨w1.heap.size, 4, none⟩ = some (.int .i64 (s : Int)) ∧ u.cell? ⟨q, 3, none⟩ = some (.slice (some ⟨gd, 0, none⟩) a.done.length cd) ∧ (Builtin.len_ #[32] 3 #[.slice (some ⟨gd, 0, none⟩) a.done.length cd]).run Tryz.prog u = .ok (.int .i64 (a.done.length : Nat)) u) (first | (go_split_ands; exact ⟨by assumption, by assumption, by assumption⟩) | go_keep) (fail)
  go_wp2_with fail
  clear l2 l3 m0 m4 q3
  have HS3 := Lib.hid ((HS2.out.below hB (below_drew w2)).below hB (below_drew w2.drew))
  obtain ⟨zz, hzz⟩ : ∃ zz, zz = zeroM.cells := ⟨_, rfl⟩
  have hs16 : zz.size = 16 := by rw [hzz]; rfl
  have hz1 : zz.all (·.oneCell') = true := by rw [hzz]; exact Ms.one _
  have hzi : (Tryz.prog.info? 51).map (·.size) = some zz.size := by rw [hs16]; kernel_rfl
  have HZZ := Lib.hid hzz
  have HSE := Lib.hid (fun (W : World) (hW : RepAt W pr a.r) => (seen_any pr a.r b s l W hW (HM.out ▸ HF.out) hb h1 (by have := HSJ.out; omega) hls hlow hwin).mono (R' := fun e w' => e = .returned (.tuple #[.int .i64 3, .agg zz]) ∧ RepAt w' pr (a.r.turn b l) ∧ Mod (fun b => b = pr) W w') (fun e w' hp => by obtain ⟨p1, p2, p3⟩ := hp; rcases p3 with ⟨p4, _⟩ | ⟨_, p4, _⟩ | ⟨_, _, p4⟩; exact absurd p4 (by omega); exact absurd p4 hne; exact ⟨by rw [p4, hzz]; rfl, p1, p2⟩))
  clear hzz
  obtain ⟨hq2, hm2⟩ := HS2.out.cells
  have m4 : ∀ i, w2.cell? ⟨w1.heap.size, i, none⟩ = #[.int .i64 1, .int .i64 1, .int .i64 0, .int .i64 (b : Int), .int .i64 (s : Int), .int .i64 (l : Int), .int .i64 3, .string estr, .int .i64 0, .int .i64 0, .int .i64 9, .bool false, .int .i64 0, .slice none 0 0, .int .i64 0, .int .i64 0][i]? := hm2
  have q1 : w2.cell? ⟨q, 1, none⟩ = some (.pointer (some ⟨pr, 0, none⟩)) := hq2 1
  clear hm2 hq2
  have hSA := ((HS2.out.below hB ((Below.refl _ _).alloc (Nat.le_refl _) (.cells #[.int .i64 0, .int .i64 0, .int .i64 0, .int .i64 0, .int .i64 0, .int .i64 0, .int .i64 0, .string ⟨#[]⟩, .int .i64 0, .int .i64 0, .int .i64 0, .bool false, .int .i64 0, .slice none 0 0, .int .i64 0, .int .i64 0] 51))).below hB (below_drew _)).below hB (below_drew _)
  have qA : (w2.alloc (.cells #[.int .i64 0, .int .i64 0, .int .i64 0, .int .i64 0, .int .i64 0, .int .i64 0, .int .i64 0, .string ⟨#[]⟩, .int .i64 0, .int .i64 0, .int .i64 0, .bool false, .int .i64 0, .slice none 0 0, .int .i64 0, .int .i64 0] 51)).drew.drew.cell? ⟨q, 1, none⟩ = some (.pointer (some ⟨pr, 0, none⟩)) := hSA.cells.1 1
  have mA : ∀ i, (w2.alloc (.cells #[.int .i64 0, .int .i64 0, .int .i64 0, .int .i64 0, .int .i64 0, .int .i64 0, .int .i64 0, .string ⟨#[]⟩, .int .i64 0, .int .i64 0, .int .i64 0, .bool false, .int .i64 0, .slice none 0 0, .int .i64 0, .int .i64 0] 51)).drew.drew.cell? ⟨w1.heap.size, i, none⟩ = #[.int .i64 1, .int .i64 1, .int .i64 0, .int .i64 (b : Int), .int .i64 (s : Int), .int .i64 (l : Int), .int .i64 3, .string estr, .int .i64 0, .int .i64 0, .int .i64 9, .bool false, .int .i64 0, .slice none 0 0, .int .i64 0, .int .i64 0][i]? := hSA.cells.2
  clear hSA
  go_region_held_law (fun u => u.cell? ⟨q, 1, none⟩ = some (.pointer (some ⟨pr, 0, none⟩)) ∧ (∀ i, u.cell? ⟨w1.heap.size, i, none⟩ = #[.int .i64 1, .int .i64 1, .int .i64 0, .int .i64 (b : Int), .int .i64 (s : Int), .int .i64 (l : Int), .int .i64 3, .string estr, .int .i64 0, .int .i64 0, .int .i64 9, .bool false, .int .i64 0, .slice none 0 0, .int .i64 0, .int .i64 0][i]?)) (first | (go_split_ands; exact ⟨by assumption, by assumption⟩) | go_keep) (first
    | (go_at_call 21; (refine (HSE.out _ (by first | exact HS3.out.ak.rep | exact (HS3.out.below hB ((Below.refl _ _).alloc (Nat.le_refl _) _)).ak.rep)).mono ?_); rintro e w3 ⟨rfl, hr3, hm3⟩;
        first
        | (have hz := HS3.out.upRep hB hr3 hm3; have hy := hz.below hB ((Below.refl _ _).alloc (Nat.le_refl _) (.cells zeroM.cells 51)); (obtain ⟨hf1, hf2, hf3⟩ := hz.fresh hB (Nat.le_refl _)); (obtain ⟨hst, hx⟩ := hy.stored (heap_at w3 _ _ rfl) (xs := zz) (by rw [hs16]; rfl) hzi hz1 hf1 hf2 hf3); have hxx : (World.setRow (w3.alloc (.cells zeroM.cells 51)) w3.heap.size zz).heap[w3.heap.size]? = some (.cells zz 51 (0, 0)) := setRow_heap _ _ _ _ _ _ (heap_at w3 (.cells zeroM.cells 51) _ rfl); unfold zeroM Ms.cells estr at hy hst hx hxx; have hz0 := hz.cells.1 1; have hz4 : ∀ i, w3.cell? ⟨w1.heap.size, i, none⟩ = #[.int .i64 1, .int .i64 1, .int .i64 0, .int .i64 (b : Int), .int .i64 (s : Int), .int .i64 (l : Int), .int .i64 3, .string estr, .int .i64 0, .int .i64 0, .int .i64 9, .bool false, .int .i64 0, .slice none 0 0, .int .i64 0, .int .i64 0][i]? := hz.cells.2; have hy0 := hy.cells.1 1; have hy4 : ∀ i, World.cell? _ ⟨w1.heap.size, i, none⟩ = #[.int .i64 1, .int .i64 1, .int .i64 0, .int .i64 (b : Int), .int .i64 (s : Int), .int .i64 (l : Int), .int .i64 3, .string estr, .int .i64 0, .int .i64 0, .int .i64 9, .bool false, .int .i64 0, .slice none 0 0, .int .i64 0, .int .i64 0][i]? := hy.cells.2; have hx0 := hx.cells.1 1; have hx4 : ∀ i, World.cell? _ ⟨w1.heap.size, i, none⟩ = #[.int .i64 1, .int .i64 1, .int .i64 0, .int .i64 (b : Int), .int .i64 (s : Int), .int .i64 (l : Int), .int .i64 3, .string estr, .int .i64 0, .int .i64 0, .int .i64 9, .bool false, .int .i64 0, .slice none 0 0, .int .i64 0, .int .i64 0][i]? := hx.cells.2)
        | (have hz := (HS3.out.below hB ((Below.refl _ _).alloc (Nat.le_refl _) _)).upRep hB hr3 hm3; (obtain ⟨hf1, hf2, hf3⟩ := HS3.out.fresh hB (Nat.le_refl _)); have hbx := ((hm3.block w2.heap.size (by simp) (fun e => absurd (e ▸ hf1) (by rw [HS3.out.ak.hr]; decide))).trans (heap_at _ (.cells zeroM.cells 51) _ rfl)); (obtain ⟨hst, hx⟩ := hz.stored (r := w2.heap.size) hbx (xs := zz) (by rw [hs16]; rfl) hzi hz1 hf1 hf2 hf3); have hxx : (World.setRow w3 w2.heap.size zz).heap[w2.heap.size]? = some (.cells zz 51 (0, 0)) := setRow_heap _ _ _ _ _ _ hbx; have hz0 := hz.cells.1 1; have hz4 : ∀ i, w3.cell? ⟨w1.heap.size, i, none⟩ = #[.int .i64 1, .int .i64 1, .int .i64 0, .int .i64 (b : Int), .int .i64 (s : Int), .int .i64 (l : Int), .int .i64 3, .string estr, .int .i64 0, .int .i64 0, .int .i64 9, .bool false, .int .i64 0, .slice none 0 0, .int .i64 0, .int .i64 0][i]? := hz.cells.2; have hx0 := hx.cells.1 1; have hx4 : ∀ i, World.cell? _ ⟨w1.heap.size, i, none⟩ = #[.int .i64 1, .int .i64 1, .int .i64 0, .int .i64 (b : Int), .int .i64 (s : Int), .int .i64 (l : Int), .int .i64 3, .string estr, .int .i64 0, .int .i64 0, .int .i64 9, .bool false, .int .i64 0, .slice none 0 0, .int .i64 0, .int .i64 0][i]? := hx.cells.2)))
  all_goals
    clear hst hz0 hz4 hx0 hx4 hxx qA mA hz1 hzi hs16
    refine world_out (fun u => ArS own base q ⟨pc, pr, pb, .slice (some ⟨gd, 0, none⟩) a.done.length cd, .slice (some ⟨gt, 0, none⟩) a.told.length ct, .slice (some ⟨gs, 0, none⟩) a.seen.length cs⟩ { a with r := a.r.turn b l } w (askM 1 b s l) w1.heap.size u) hx ?_
    clear hx hz hf1 hf2 hf3 hr3 hm3
    intro w4 h4
    have HS4 := Lib.hid h4
    have m3 : w4.cell? ⟨w1.heap.size, 3, none⟩ = some (.int .i64 (b : Int)) := h4.cells.2 3
    have m4 : w4.cell? ⟨w1.heap.size, 4, none⟩ = some (.int .i64 (s : Int)) := h4.cells.2 4
    have hmv : (repM b s mk).cells = #[.int .i64 2, .int .i64 0, .int .i64 1, .int .i64 (b : Int), .int .i64 (s : Int), .int .i64 0, .int .i64 0, .string estr, .int .i64 0, .int .i64 0, .int .i64 (mk : Int), .bool false, .int .i64 0, .slice none 0 0, .int .i64 0, .int .i64 0] := rfl
    clear h4
    go_wp2_with (refine wpList_store_row rfl 51 (.tmp 15) (.tmp 132) rfl w4.heap.size (repM b s mk).cells rfl rfl 51 _ (heap_at _ _ _ rfl) (by kernel_rfl) rfl (Ms.one _) ?_; rw [World.setRow_alloc_new])
    refine world_out (fun u => ArS own base q ⟨pc, pr, pb, .slice (some ⟨gd, 0, none⟩) a.done.length cd, .slice (some ⟨gt, 0, none⟩) a.told.length ct, .slice (some ⟨gs, 0, none⟩) a.seen.length cs⟩ { a with r := a.r.turn b l } w (askM 1 b s l) w1.heap.size u ∧ u.heap[w4.heap.size]? = some (Obj.cells (repM b s mk).cells 51 (0, 0)) ∧ own w4.heap.size = 0) ⟨HS4.out.below hB ((Below.refl _ _).alloc (Nat.le_refl _) _), heap_at w4 _ _ rfl, (HS4.out.fresh hB (Nat.le_refl _)).1⟩ ?_
    clear m3 m4 hmv
    rintro w5 ⟨h5, hb5, ho5⟩
    have HS5 := Lib.hid h5
    have HB5 := Lib.hid hb5
    have HO5 := Lib.hid ho5
    have HS6 := Lib.hid ((h5.below hB (below_drew w5)).setDone (g := gd) rfl cd1 j 1)
    clear h5 hb5 ho5
    have m4 : w5.cell? ⟨w1.heap.size, 4, none⟩ = some (.int .i64 (s : Int)) := HS5.out.cells.2 4
    have q3 : w5.cell? ⟨q, 3, none⟩ = some (.slice (some ⟨gd, 0, none⟩) a.done.length cd) := HS5.out.cells.1 3
    obtain ⟨c5, f5⟩ := HS5.out.ak.done.cellAt rfl hdone
    have k0 : (0 : Int) ≤ (j : Int) := by omega
    have k1 : (j : Int) < (a.done.length : Int) := by have := HSJ.out; omega
    have k2 : (j : Int) < (a.told.length : Int) := by have := HSJ.out; have := HT.out; omega
    have n4 := HS6.out.cells.2 4
    have n3 := HS6.out.cells.1 3
    go_region
    all_goals
      refine world_out (fun u => ArS own base q ⟨pc, pr, pb, .slice (some ⟨gd, 0, none⟩) a.done.length cd, .slice (some ⟨gt, 0, none⟩) a.told.length ct, .slice (some ⟨gs, 0, none⟩) a.seen.length cs⟩ { { a with r := a.r.turn b l } with done := a.done.set j 1 } w (askM 1 b s l) w1.heap.size u ∧ u.heap[w4.heap.size]? = some (Obj.cells (repM b s mk).cells 51 (0, 0))) ⟨HS6.out, (Below.heap_setCell _ _ _ w4.heap.size (fun e => absurd (HO5.out.symm.trans ((congrArg own e).trans cd1)) (by decide))).trans HB5.out⟩ ?_
      clear m4 q3 c5 f5 n4 n3
      rintro w6 ⟨h6, hb6⟩
      have HS7 := Lib.hid h6
      have HB7 := Lib.hid hb6
      have HS8 := Lib.hid ((h6.below hB (below_drew w6)).setTold (g := gt) rfl ct1 j (mk : Int))
      clear h6 hb6
      have m4 : w6.cell? ⟨w1.heap.size, 4, none⟩ = some (.int .i64 (s : Int)) := HS7.out.cells.2 4
      have q4 : w6.cell? ⟨q, 4, none⟩ = some (.slice (some ⟨gt, 0, none⟩) a.told.length ct) := HS7.out.cells.1 4
      obtain ⟨c5, f5⟩ := HS7.out.ak.told.cellAt rfl htold
      have n4 := HS8.out.cells.2 4
      have n5 := HS8.out.cells.1 4
      go_wp2_with fail
      go_region_held_law (fun u => u.cell? ⟨q, 4, none⟩ = some (.slice (some ⟨gt, 0, none⟩) a.told.length ct) ∧ u.cell? ⟨w1.heap.size, 4, none⟩ = some (.int .i64 (s : Int))) (first | (go_split_ands; exact ⟨by assumption, by assumption⟩) | go_keep) (fail)
      refine world_out (fun u => ArS own base q ⟨pc, pr, pb, .slice (some ⟨gd, 0, none⟩) a.done.length cd, .slice (some ⟨gt, 0, none⟩) a.told.length ct, .slice (some ⟨gs, 0, none⟩) a.seen.length cs⟩ { { { a with r := a.r.turn b l } with done := a.done.set j 1 } with told := a.told.set j (mk : Int) } w (askM 1 b s l) w1.heap.size u ∧ u.heap[w4.heap.size]? = some (Obj.cells (repM b s mk).cells 51 (0, 0))) ⟨HS8.out, (Below.heap_setCell _ _ _ w4.heap.size (fun e => absurd (HO5.out.symm.trans ((congrArg own e).trans ct1)) (by decide))).trans HB7.out⟩ ?_
      clear m4 q4 c5 f5 n4 n5
      rintro w7 ⟨h7, hb7⟩
      have HS9 := Lib.hid h7
      have HB9 := Lib.hid hb7
      clear h7 hb7
      go_wp2_with (refine wpList_load_row rfl 51 (.tmp 15) rfl w4.heap.size rfl 51 (repM b s mk).cells (0, 0) _ HB9.out Tryz.underlying51 rfl (by kernel_rfl) ?_)
      refine (sends_any (fun k => own k = 3) q pb (repM b s mk) a.b w7 (by show ¬ own q = 3; rw [HS9.out.ak.hq]; decide) (HS9.out.cells.1 2) HS9.out.ak.bag hfa (by omega) (by omega)).mono ?_
      rintro e w8 ⟨rfl, hbag8, hm8⟩
      have HS10 := Lib.hid (HS9.out.upBag hB hbag8 hm8)
      have HB10 := Lib.hid ((hm8.block _ (lt_of_heap HB9.out) (fun e => absurd (HO5.out.symm.trans e) (by decide))).trans HB9.out)
      clear hbag8 hm8
      have HS11 := Lib.hid (HS10.out.below hB (below_drew w8))
      have q1 : w8.cell? ⟨q, 1, none⟩ = some (.pointer (some ⟨pr, 0, none⟩)) := HS10.out.cells.1 1
      have HKP := Lib.hid (fun (W : World) (hW : RepAt W pr (a.r.turn b l)) => keep_any pr (a.r.turn b l) b s l mk W hW (HM.out ▸ HF.out) hfa (Nat.le_of_eq (turn_boot _ _ _)) h1 (by have := HSJ.out; omega) hls (turn_low_le _ _ _ (by have := HSJ.out; omega) hlow) (by rw [turn_twice]; exact hwin) (by rw [turn_twice]; exact hge) (by rw [turn_twice]; exact hne))
      rw [turn_twice] at HKP
      go_wp2_with fail
      refine new_region_at (q := q) (pr := pr) (mb := w1.heap.size) (ab := w4.heap.size) (m := askM 1 b s l) (an := repM b s mk) (R := fun u => RepAt u pr ((a.r.turn b l).keep s mk) ∧ Mod (fun k => k = pr) w8.drew u) (by kernel_rfl) (by rfl) (by kernel_rfl) q1 HS10.out.msg HB10.out ((HKP.out _ HS11.out.ak.rep).mono fun e w9 h => h) ?_
      rintro e w9 ⟨hr9, hm9⟩ h6
      have hz := HS11.out.upRep hB hr9 hm9
      rw [h6]
      go_wp2_with fail
      go_ret
      exact ⟨rfl, _, hz.ak, hz.low⟩
end Go.Proofs.YtaelbgjcoakdlaaGreat
