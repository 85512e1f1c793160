/- The holder: Bears of a lease, DeleteFunc and MinFunc of at most one.  The holder: DeleteFunc and MinFunc of at most one.  The holder: Use.  The holder: Use of one lease. -/
import Derived.Test.YtchdfogifhfclaaGreatDoorHogM
import Derived.Lib.SliceRun
namespace Go.Proofs.YtchdfogifhfclaaGreatDoor
open Go.RowKit Go.Maps Go.MapKept
open Go.ChangeMaps (setBlock)

theorem below_cells {B b : Nat} {w0 : World} (h : B ≤ b) : ∀ (vs : List Value) (o : Nat) (w : World), Below B w0 w → Below B w0 (w.setCells b o vs)
  | [], _, _, hb => hb
  | v :: r, o, w, hb => below_cells h r (o + 1) _ (hb.setCell (p := ⟨b, o, none⟩) h v)
set_option maxRecDepth 100000 in
set_option maxHeartbeats 2000000 in
theorem bearsL_any (D : Nat → Prop) (p : ByteArray) (m s t sent exp now : Int) (sv : Value) (w : World) (hs : Ck8.IntsV D w sv [s]) (h1 : 1 ≤ s ∧ s ≤ 1099511627776) (hp : pathOK p = true) (hm : ModeB m = true) :
    Calls Tryz.prog 56 #[.agg (lC p m sv t sent exp), .int .i64 now, .string p, .int .i64 m] w fun e w' => e = .returned (.bool (!decide (exp ≤ now))) ∧ Below w.heap.size w w' := by
  have HP := Lib.hid hp
  have HM := Lib.hid hm
  have hb : ((m == 2) = true) ∨ ((m == 2) = false ∧ (m == 1) = true) := by rcases faultEq p m hm with h | h <;> rw [h] <;> decide
  obtain ⟨sb, so, sc, rfl, _, _, _, _, _⟩ := hs.at_ (j := 0) rfl
  obtain ⟨w0, hw0⟩ : ∃ w0, w0 = w.alloc (.cells (lC p m (.slice (some ⟨sb, so, none⟩) 1 sc) t sent exp) 49) := ⟨_, rfl⟩
  have hb0 : Below w.heap.size w w0 := by rw [hw0]; exact below_one _ _
  have HS := Lib.hid (stampValid_any D [s] _ _ (hs.below hb0) (fun x hx => by simp at hx; subst hx; exact h1) (by simp))
  have HB := Lib.hid hb0
  have c0 := blk_cell (show w0.heap[w.heap.size]? = some (.cells (lC p m (.slice (some ⟨sb, so, none⟩) 1 sc) t sent exp) 49 (0, 0)) by rw [hw0]; exact heap_at _ _ _ rfl)
  clear hs h1 hp hm hb0
  unfold lC at hw0 c0
  unfold lC
  cases hd : decide (exp ≤ now) with
  | true =>
    clear hb
    go_enter Tryz.func56, Tryz.ntmps56
    go_upto_region 1 with fail
    rw [← hw0]
    clear hw0
    go_wp2_with fail
    go_ret
    exact ⟨rfl, HB.out⟩
  | false =>
    rcases hb with b1 | ⟨b1, b2⟩
    all_goals
      go_enter Tryz.func56, Tryz.ntmps56
      go_upto_region 1 with fail
      rw [← hw0]
      clear hw0
      go_wp2_with fail
      refine (isMode_any m _).mono ?_
      rintro e w1 ⟨rfl, rfl⟩
      rw [HM.out]
      go_wp2_with fail
      refine HS.out.mono ?_
      rintro e w1 ⟨rfl, rfl⟩
      go_wp2_with fail
      refine (covers_any _ p _ (by have := pathOK_size HP.out; omega) HP.out (.inr rfl)).mono ?_
      rintro e w1 ⟨rfl, rfl⟩
      go_wp2_with fail
      go_ret
      exact ⟨rfl, HB.out⟩
structure UseBx (now : Int) (p : ByteArray) (m : Int) (Bn Bp Bm : Nat) (w : World) : Prop where
  n : w.cell? ⟨Bn, 0, none⟩ = some (.int .i64 now)
  p : w.cell? ⟨Bp, 0, none⟩ = some (.string p)
  m : w.cell? ⟨Bm, 0, none⟩ = some (.int .i64 m)
  lt : Bn < w.heap.size ∧ Bp < w.heap.size ∧ Bm < w.heap.size
theorem UseBx.below {now : Int} {p : ByteArray} {m : Int} {Bn Bp Bm : Nat} {w w' : World} (h : UseBx now p m Bn Bp Bm w) (hb : Below w.heap.size w w') : UseBx now p m Bn Bp Bm w' :=
  ⟨(hb.cell (p := ⟨Bn, 0, none⟩) h.lt.1).trans h.n, (hb.cell (p := ⟨Bp, 0, none⟩) h.lt.2.1).trans h.p, (hb.cell (p := ⟨Bm, 0, none⟩) h.lt.2.2).trans h.m, ⟨Nat.lt_of_lt_of_le h.lt.1 hb.size, Nat.lt_of_lt_of_le h.lt.2.1 hb.size, Nat.lt_of_lt_of_le h.lt.2.2 hb.size⟩⟩
set_option maxRecDepth 100000 in
set_option maxHeartbeats 2000000 in
theorem use1_any (D : Nat → Prop) (p : ByteArray) (m s t sent exp now : Int) (sv : Value) (Bn Bp Bm : Nat) (w : World) (hs : Ck8.IntsV D w sv [s]) (h1 : 1 ≤ s ∧ s ≤ 1099511627776) (hp : pathOK p = true) (hm : ModeB m = true) (hB : UseBx now p m Bn Bp Bm w) :
    Calls Tryz.prog 55 #[.agg (lC p m sv t sent exp), .pointer (some ⟨Bn, 0, none⟩), .pointer (some ⟨Bp, 0, none⟩), .pointer (some ⟨Bm, 0, none⟩)] w fun e w' => e = .returned (.bool (decide (exp ≤ now))) ∧ Below w.heap.size w w' := by
  obtain ⟨sb, so, sc, rfl, _, _, _, _, _⟩ := hs.at_ (j := 0) rfl
  obtain ⟨w1, hw1⟩ : ∃ w1, w1 = w.alloc (.cells (lC p m (.slice (some ⟨sb, so, none⟩) 1 sc) t sent exp) 49) := ⟨_, rfl⟩
  have hb1 : Below w.heap.size w w1 := by rw [hw1]; exact below_one _ _
  have HX := Lib.hid (show w1.heap[w.heap.size]? = some (.cells (lC p m (.slice (some ⟨sb, so, none⟩) 1 sc) t sent exp) 49 (0, 0)) by rw [hw1]; exact heap_at _ _ _ rfl)
  have HBE := Lib.hid (bearsL_any D p m s t sent exp now _ w1 (hs.below hb1) h1 hp hm)
  obtain ⟨x1, x2, x3, x4⟩ := hB.below hb1
  have HB1 := Lib.hid hb1
  clear hs h1 hp hm hB hb1 x4
  unfold lC at hw1
  unfold lC
  go_enter Tryz.func55, Tryz.ntmps55
  go_upto_region 1 with fail
  rw [← hw1]
  clear hw1
  go_wp2_with (refine wpList_load_row rfl 49 (.tmp 4) rfl w.heap.size rfl 49 (lC p m (.slice (some ⟨sb, so, none⟩) 1 sc) t sent exp) (0, 0) _ HX.out Tryz.underlying49 rfl (by kernel_rfl) ?_)
  refine HBE.out.mono ?_
  rintro e w2 ⟨rfl, hb2⟩
  go_wp2_with fail
  go_ret
  exact ⟨by simp, below_step HB1.out hb2⟩
end Go.Proofs.YtchdfogifhfclaaGreatDoor
namespace Go.Proofs.YtchdfogifhfclaaGreatDoor
open Go.RowKit Go.Maps Go.MapKept
open Go.ChangeMaps (setBlock)

/-- One lease in a row of its own. -/
structure OneL (p : ByteArray) (m s t sent exp : Int) (b vb vc : Nat) (w : World) : Prop where
  cell : ∀ i, i < 9 → w.cell? ⟨b, i, none⟩ = (lC p m (.slice (some ⟨vb, 0, none⟩) 1 vc) t sent exp)[i]?
  free : ∀ i, i < 9 → w.frozen? ⟨b, i, none⟩ = false
  lt : b < w.heap.size
  iv : Ck8.IntsV (fun k => k ≠ b) w (.slice (some ⟨vb, 0, none⟩) 1 vc) [s]
theorem OneL.below {p : ByteArray} {m s t sent exp : Int} {b vb vc : Nat} {w w' : World} (h : OneL p m s t sent exp b vb vc w) (hb : Below w.heap.size w w') : OneL p m s t sent exp b vb vc w' :=
  ⟨fun i hi => (hb.cell (p := ⟨b, i, none⟩) h.lt).trans (h.cell i hi), fun i hi => by
    rw [← h.free i hi]
    unfold World.frozen?
    rw [hb.block b h.lt], Nat.lt_of_lt_of_le h.lt hb.size, h.iv.below hb⟩
set_option maxRecDepth 100000 in
set_option maxHeartbeats 2000000 in
theorem indexL_any (p : ByteArray) (m s t sent exp now : Int) (b vb vc cap : Nat) (Bn Bp Bm : Nat) (w : World) (hO : OneL p m s t sent exp b vb vc w) (h1 : 1 ≤ s ∧ s ≤ 1099511627776) (hp : pathOK p = true) (hm : ModeB m = true) (hB : UseBx now p m Bn Bp Bm w) :
    Calls Tryz.prog 101 #[.slice (some ⟨b, 0, none⟩) 1 cap, .func (.func 55) #[] #[.pointer (some ⟨Bn, 0, none⟩), .pointer (some ⟨Bp, 0, none⟩), .pointer (some ⟨Bm, 0, none⟩)]] w fun e w' => e = .returned (.int .i64 (if exp ≤ now then 0 else -1)) ∧ Below w.heap.size w w' := by
  have k0 := hO.cell 0 (by omega)
  have k1 := hO.cell 1 (by omega)
  have k2 := hO.cell 2 (by omega)
  have k3 := hO.cell 3 (by omega)
  have k4 := hO.cell 4 (by omega)
  have k5 := hO.cell 5 (by omega)
  have k6 := hO.cell 6 (by omega)
  have k7 := hO.cell 7 (by omega)
  have k8 := hO.cell 8 (by omega)
  have HE := Lib.hid (use1_any _ p m s t sent exp now _ Bn Bp Bm w hO.iv h1 hp hm hB)
  have l0 := hO.lt
  clear hO h1 hp hm hB
  unfold lC at k0 k1 k2 k3 k4 k5 k6 k7 k8 HE
  by_cases hd : exp ≤ now
  · have d1 : decide (exp ≤ now) = true := decide_eq_true hd
    rw [if_pos hd]
    rw [d1] at HE
    clear hd d1
    go_enter Tryz.func101, Tryz.ntmps101
    go_wp2_with fail
    refine wp_loop_rounds 1 ?_
    rw [rounds_succ]
    go_wp2_with fail
    refine HE.out.mono ?_
    rintro e w1 ⟨rfl, hb1⟩
    go_wp2_with fail
    go_ret
    exact ⟨rfl, hb1⟩
  · have d1 : decide (exp ≤ now) = false := decide_eq_false hd
    rw [if_neg hd]
    rw [d1] at HE
    clear hd d1
    go_enter Tryz.func101, Tryz.ntmps101
    go_wp2_with fail
    refine wp_loop_rounds 2 ?_
    rw [rounds_succ]
    go_wp2_with fail
    refine HE.out.mono ?_
    rintro e w1 ⟨rfl, hb1⟩
    go_wp2_with fail
    rw [rounds_succ]
    go_wp2_with fail
    go_ret
    exact ⟨rfl, hb1⟩
theorem Tryz.clearL (b c : Nat) (ty : TypeId) (w : World) (hc : ∀ j, j < 9 → (w.cell? ⟨b, j, none⟩).isSome = true) (hf : ∀ j, j < 9 → w.frozen? ⟨b, j, none⟩ = false) :
    (Builtin.clear_ #[104] ty #[.slice (some ⟨b, 0, none⟩) 1 c]).run Tryz.prog w = .ok (.tuple #[]) (w.setCells b 0 zlC.toList) := by
  have hst := run_storeCells_cells (P := Tryz.prog) b 0 zlC.toList 0 w (by simpa [zlC] using hc) (by simpa [zlC] using hf) (by intro v hv; have := zlC_one; rw [Array.all_eq_true'] at this; exact this v (by simpa using hv))
  have hzc : (Builtin.zeroCells (Value.agg #[.int .i64 0, .int .i64 0, .string ⟨#[]⟩, .int .i64 0, .slice none 0 0, .int .i64 0, .int .i64 0, .int .i64 0, .bool false]).cells 1).toList = zlC.toList := by kernel_rfl
  have hz := Tryz.zeroLs
  unfold zlC estr at hz
  simp [Builtin.clear_, run_underlying Tryz.underlying104, hz, hzc, hst]
set_option maxRecDepth 100000 in
set_option maxHeartbeats 2000000 in
theorem delL0_any (f : Value) (a : Option Addr) (c : Nat) (w : World) : Calls Tryz.prog 53 #[.slice a 0 c, f] w fun e w' => e = .returned (.slice a 0 c) ∧ w = w' := by
  have hx : Calls Tryz.prog 101 #[.slice a 0 c, f] w fun e w' => e = .returned (.int .i64 (-1)) ∧ w = w' := by
    go_enter Tryz.func101, Tryz.ntmps101
    go_wp2_with fail
    refine wp_loop_rounds 1 ?_
    rw [rounds_succ]
    go_wp2_with fail
    go_ret
    exact ⟨rfl, rfl⟩
  have HX := Lib.hid hx
  clear hx
  go_enter Tryz.func53, Tryz.ntmps53
  go_wp2_with fail
  refine HX.out.mono ?_
  rintro e w1 ⟨rfl, rfl⟩
  go_wp2_with fail
  go_ret
  exact ⟨rfl, rfl⟩
set_option maxRecDepth 100000 in
set_option maxHeartbeats 2000000 in
/-- A lease that stands is kept. -/
theorem delLk_any (p : ByteArray) (m s t sent exp now : Int) (b vb vc cap : Nat) (Bn Bp Bm : Nat) (w : World) (hO : OneL p m s t sent exp b vb vc w) (h1 : 1 ≤ s ∧ s ≤ 1099511627776) (hp : pathOK p = true) (hm : ModeB m = true) (hB : UseBx now p m Bn Bp Bm w) (hd : ¬ exp ≤ now) :
    Calls Tryz.prog 53 #[.slice (some ⟨b, 0, none⟩) 1 cap, .func (.func 55) #[] #[.pointer (some ⟨Bn, 0, none⟩), .pointer (some ⟨Bp, 0, none⟩), .pointer (some ⟨Bm, 0, none⟩)]] w fun e w' => e = .returned (.slice (some ⟨b, 0, none⟩) 1 cap) ∧ Below w.heap.size w w' := by
  have hx := indexL_any p m s t sent exp now b vb vc cap Bn Bp Bm w hO h1 hp hm hB
  rw [if_neg hd] at hx
  have HX := Lib.hid hx
  clear hx hO h1 hp hm hB hd
  go_enter Tryz.func53, Tryz.ntmps53
  go_wp2_with fail
  refine HX.out.mono ?_
  rintro e w1 ⟨rfl, hb1⟩
  go_wp2_with fail
  go_ret
  exact ⟨rfl, hb1⟩
set_option maxRecDepth 100000 in
set_option maxHeartbeats 2000000 in
/-- A lease that has expired is gone; its row's memory is cleared. -/
theorem delLd_any (B : Nat) (p : ByteArray) (m s t sent exp now : Int) (b vb vc cap : Nat) (Bn Bp Bm : Nat) (w : World) (hO : OneL p m s t sent exp b vb vc w) (h1 : 1 ≤ s ∧ s ≤ 1099511627776) (hp : pathOK p = true) (hm : ModeB m = true) (hB : UseBx now p m Bn Bp Bm w) (hd : exp ≤ now) (hBb : B ≤ b) :
    Calls Tryz.prog 53 #[.slice (some ⟨b, 0, none⟩) 1 cap, .func (.func 55) #[] #[.pointer (some ⟨Bn, 0, none⟩), .pointer (some ⟨Bp, 0, none⟩), .pointer (some ⟨Bm, 0, none⟩)]] w fun e w' => e = .returned (.slice (some ⟨b, 0, none⟩) 0 cap) ∧ Below B w w' := by
  have hx := indexL_any p m s t sent exp now b vb vc cap Bn Bp Bm w hO h1 hp hm hB
  rw [if_pos hd] at hx
  have HX := Lib.hid hx
  have HO := Lib.hid hO
  clear hx hO h1 hp hm hB hd
  go_enter Tryz.func53, Tryz.ntmps53
  go_wp2_with fail
  refine HX.out.mono ?_
  rintro e w1 ⟨rfl, hb1⟩
  have ho1 := HO.out.below hb1
  have hcl := fun ty => Tryz.clearL b cap ty w1 (fun j hj => by rw [ho1.cell j hj]; simp [lC, hj]) ho1.free
  have HB1 := Lib.hid hb1
  have HL := Lib.hid HO.out.lt
  clear ho1 hb1
  go_wp2_with fail
  refine wp_loop_rounds 1 ?_
  rw [rounds_succ]
  go_wp2_with fail
  go_ret
  exact ⟨rfl, below_cells hBb _ _ _ ⟨HB1.out.os, HB1.out.tape, HB1.out.output, HB1.out.size, fun k hk => HB1.out.block k (by have := HL.out; omega)⟩⟩
set_option maxRecDepth 100000 in
set_option maxHeartbeats 2000000 in
theorem minL_any (p : ByteArray) (m s t sent exp : Int) (b vb vc cap : Nat) (f : Value) (w : World) (hO : OneL p m s t sent exp b vb vc w) :
    Calls Tryz.prog 57 #[.slice (some ⟨b, 0, none⟩) 1 cap, f] w fun e w' => e = .returned (.agg (lC p m (.slice (some ⟨vb, 0, none⟩) 1 vc) t sent exp)) ∧ Below w.heap.size w w' := by
  obtain ⟨w1, hw1⟩ : ∃ w1, w1 = w.alloc (.cells zlC 49) := ⟨_, rfl⟩
  have hb1 : Below w.heap.size w w1 := by rw [hw1]; exact below_one _ _
  have HX1 := Lib.hid (show w1.heap[w.heap.size]? = some (.cells zlC 49 (0, 0)) by rw [hw1]; exact heap_at _ _ _ rfl)
  have ho1 := hO.below hb1
  have k0 := ho1.cell 0 (by omega)
  have k1 := ho1.cell 1 (by omega)
  have k2 := ho1.cell 2 (by omega)
  have k3 := ho1.cell 3 (by omega)
  have k4 := ho1.cell 4 (by omega)
  have k5 := ho1.cell 5 (by omega)
  have k6 := ho1.cell 6 (by omega)
  have k7 := ho1.cell 7 (by omega)
  have k8 := ho1.cell 8 (by omega)
  have HB1 := Lib.hid hb1
  clear hO hb1 ho1
  unfold lC at k0 k1 k2 k3 k4 k5 k6 k7 k8
  unfold zlC estr at hw1
  go_enter Tryz.func57, Tryz.ntmps57
  go_upto_region 1 with fail
  rw [← hw1]
  clear hw1
  go_wp2_with fail
  obtain ⟨w2, hw2⟩ : ∃ w2, w2 = w1.alloc (.cells #[.int .i64 0, .int .i64 1, .string p, .int .i64 m, .slice (some ⟨vb, 0, none⟩) 1 vc, .int .i64 t, .int .i64 sent, .int .i64 exp, .bool false] 49) := ⟨_, rfl⟩
  rw [← hw2]
  have hb2 : Below w1.heap.size w1 w2 := by rw [hw2]; exact below_one _ _
  have HX2 := Lib.hid (show w2.heap[w1.heap.size]? = some (.cells (lC p m (.slice (some ⟨vb, 0, none⟩) 1 vc) t sent exp) 49 (0, 0)) by rw [hw2]; exact heap_at _ _ _ rfl)
  have HX12 := Lib.hid ((hb2.block _ (lt_of_heap HX1.out)).trans HX1.out)
  have HB2 := Lib.hid (below_step HB1.out hb2)
  clear hw2 hb2 k0 k1 k2 k3 k4 k5 k6 k7 k8
  refine wp_loop_rounds 1 ?_
  rw [rounds_succ]
  go_wp2_with (first
    | (refine wpList_load_row rfl 49 (.tmp 5) rfl w1.heap.size rfl 49 (lC p m (.slice (some ⟨vb, 0, none⟩) 1 vc) t sent exp) (0, 0) _ HX2.out Tryz.underlying49 rfl (by kernel_rfl) ?_)
    | (refine wpList_store_row rfl 49 (.tmp 4) (.tmp 32) rfl w.heap.size (lC p m (.slice (some ⟨vb, 0, none⟩) 1 vc) t sent exp) rfl rfl 49 _ HX12.out (by kernel_rfl) rfl (lC_one _ _ _ _ _ _ _ _) ?_))
  refine bodyPost_ret (v := .agg (lC p m (.slice (some ⟨vb, 0, none⟩) 1 vc) t sent exp)) (results_cell_row (fn := Tryz.f57) rfl _ _ w.heap.size 49 (lC p m (.slice (some ⟨vb, 0, none⟩) 1 vc) t sent exp) (0, 0) _ rfl (setRow_heap _ _ _ _ _ _ HX12.out) Tryz.underlying49 rfl (by kernel_rfl)) rfl ⟨rfl, below_row HB2.out (Nat.le_refl _) _⟩
end Go.Proofs.YtchdfogifhfclaaGreatDoor
namespace Go.Proofs.YtchdfogifhfclaaGreatDoor
open Go.RowKit Go.Maps Go.MapKept
open Go.ChangeMaps (setBlock)

def useW (now : Int) (pa : ByteArray) (m : Int) (w : World) : World := (((w.alloc (.cells #[.int .i64 now] 3)).alloc (.cells #[.string pa] 9)).alloc (.cells #[.int .i64 m] 22)).alloc (.cells zlC 49)
structure UseS (now : Int) (pa : ByteArray) (m : Int) (w w0 : World) : Prop where
  h0 : w0.heap[w.heap.size]? = some (.cells #[.int .i64 now] 3 (0, 0))
  h1 : w0.heap[w.heap.size + 1]? = some (.cells #[.string pa] 9 (0, 0))
  h2 : w0.heap[w.heap.size + 1 + 1]? = some (.cells #[.int .i64 m] 22 (0, 0))
  h3 : w0.heap[w.heap.size + 1 + 1 + 1]? = some (.cells zlC 49 (0, 0))
  b : Below w.heap.size w w0
theorem useS (now : Int) (pa : ByteArray) (m : Int) (w : World) : UseS now pa m w (useW now pa m w) := by
  unfold useW
  refine ⟨?_, ?_, ?_, ?_, ?_⟩
  · rw [heap_past _ _ _ (by (simp <;> omega)), heap_past _ _ _ (by (simp <;> omega)), heap_past _ _ _ (by (simp <;> omega)), heap_at _ _ _ rfl]
  · rw [heap_past _ _ _ (by (simp <;> omega)), heap_past _ _ _ (by (simp <;> omega)), heap_at _ _ _ (by (simp <;> omega))]
  · rw [heap_past _ _ _ (by (simp <;> omega)), heap_at _ _ _ (by (simp <;> omega))]
  · rw [heap_at _ _ _ (by (simp <;> omega))]
  · exact ((((Below.refl _ _).alloc (Nat.le_refl _) _).alloc (by (simp <;> omega)) _).alloc (by (simp <;> omega)) _).alloc (by (simp <;> omega)) _
theorem UseS.keep {now : Int} {pa : ByteArray} {m : Int} {w w0 w1 : World} (h : UseS now pa m w w0) (hb : Below w0.heap.size w0 w1) : UseS now pa m w w1 :=
  ⟨(hb.block _ (lt_of_heap h.h0)).trans h.h0, (hb.block _ (lt_of_heap h.h1)).trans h.h1, (hb.block _ (lt_of_heap h.h2)).trans h.h2, (hb.block _ (lt_of_heap h.h3)).trans h.h3, h.b.trans (hb.mono h.b.size)⟩
theorem UseS.bx {now : Int} {pa : ByteArray} {m : Int} {w w0 : World} (h : UseS now pa m w w0) : UseBx now pa m w.heap.size (w.heap.size + 1) (w.heap.size + 1 + 1) w0 :=
  ⟨blk_cell h.h0 0, blk_cell h.h1 0, blk_cell h.h2 0, lt_of_heap h.h0, lt_of_heap h.h1, lt_of_heap h.h2⟩
def useR (pa : ByteArray) (m : Int) : Int := if pathOK pa then (if ModeB m then 62 else 11) else 10
def UseNo (r : Int) (w : World) (e : Ending) (w' : World) : Prop := e = .returned (.tuple #[.agg zlC, .int .i64 r]) ∧ Below w.heap.size w w'
set_option maxRecDepth 100000 in
set_option maxHeartbeats 4000000 in
theorem use_none (F : Nat → Prop) (h : Nat) (rho now : Int) (pa : ByteArray) (m : Int) (w : World) (H : HoAt F h rho none w) (hs : pa.size ≤ 140737488355328) :
    Calls Tryz.prog 13 #[.pointer (some ⟨h, 0, none⟩), .int .i64 now, .string pa, .int .i64 m] w (UseNo (useR pa m) w) := by
  have hmf : ∀ (fn : Fn) (first cap : Array Value) (w : World), (Instr.makeFunc fn first cap).run Tryz.prog w = .ok (.func fn first cap) w := fun _ _ _ _ => rfl
  obtain ⟨w0, hw0⟩ : ∃ w0, w0 = useW now pa m w := ⟨_, rfl⟩
  have hS := useS now pa m w
  rw [← hw0] at hS
  have HS := Lib.hid hS
  have H0 := Lib.hid (H.below hS.b)
  have c1 := blk_cell hS.h1 0
  have c2 := blk_cell hS.h2 0
  obtain ⟨R, hR⟩ : ∃ R, R = useR pa m := ⟨_, rfl⟩
  have HR := Lib.hid hR
  rw [← hR]
  clear hS H hR
  unfold useW zlC estr at hw0
  go_enter Tryz.func13, Tryz.ntmps13
  go_upto_region 1 with fail
  rw [← hw0]
  clear hw0
  go_wp2_with fail
  refine (valid_any pa _ hs).mono ?_
  rintro e w1 ⟨rfl, rfl⟩
  cases h1 : pathOK pa with
  | false =>
    have e1 : R = 10 := by rw [HR.out]; unfold useR; rw [h1]; rfl
    clear h1
    go_wp2_with (refine wpList_store_row rfl 49 (.tmp 8) (.tmp 19) rfl (w.heap.size + 1 + 1 + 1) zlC rfl rfl 49 _ HS.out.h3 (by kernel_rfl) rfl zlC_one ?_)
    refine bodyPost_ret (v := .tuple #[.agg zlC, .int .i64 R]) (results_cell_tmp2 (fn := Tryz.f13) rfl _ _ (w.heap.size + 1 + 1 + 1) 49 zlC (0, 0) _ _ rfl (by rw [e1]; rfl) (setRow_heap _ _ _ _ _ _ HS.out.h3) Tryz.underlying49 rfl (by kernel_rfl)) rfl ⟨rfl, below_row HS.out.b (by omega) _⟩
  | true =>
    cases h2 : ModeB m with
    | false =>
      have e1 : R = 11 := by rw [HR.out]; unfold useR; rw [h1, h2]; rfl
      have b1 : (m != 1) = true := by unfold ModeB at h2; simp at h2; simp [h2.1]
      have b2 : (m != 2) = true := by unfold ModeB at h2; simp at h2; simp [h2.2]
      clear h1 h2
      go_wp2_with (refine wpList_store_row rfl 49 (.tmp 8) (.tmp 27) rfl (w.heap.size + 1 + 1 + 1) zlC rfl rfl 49 _ HS.out.h3 (by kernel_rfl) rfl zlC_one ?_)
      refine bodyPost_ret (v := .tuple #[.agg zlC, .int .i64 R]) (results_cell_tmp2 (fn := Tryz.f13) rfl _ _ (w.heap.size + 1 + 1 + 1) 49 zlC (0, 0) _ _ rfl (by rw [e1]; rfl) (setRow_heap _ _ _ _ _ _ HS.out.h3) Tryz.underlying49 rfl (by kernel_rfl)) rfl ⟨rfl, below_row HS.out.b (by omega) _⟩
    | true =>
      have e1 : R = 62 := by rw [HR.out]; unfold useR; rw [h1, h2]; rfl
      have hb : ((m != 1) = false) ∨ ((m != 1) = true ∧ (m != 2) = false) := by rcases faultEq pa m h2 with h | h <;> rw [h] <;> decide
      clear h1 h2
      rcases hb with b1 | ⟨b1, b2⟩
      all_goals
        go_wp2_with fail
        refine (listH_none F h rho _ H0.out).mono ?_
        rintro e w1 ⟨rfl, hb1⟩
        have HS1 := Lib.hid (HS.out.keep hb1)
        clear hb1
        go_wp2_with fail
        refine (delL0_any _ none 0 _).mono ?_
        rintro e w2 ⟨rfl, rfl⟩
        go_wp2_with (refine wpList_store_row rfl 49 (.tmp 8) (.tmp 35) rfl (w.heap.size + 1 + 1 + 1) zlC rfl rfl 49 _ HS1.out.h3 (by kernel_rfl) rfl zlC_one ?_)
        refine bodyPost_ret (v := .tuple #[.agg zlC, .int .i64 R]) (results_cell_tmp2 (fn := Tryz.f13) rfl _ _ (w.heap.size + 1 + 1 + 1) 49 zlC (0, 0) _ _ rfl (by rw [e1]; rfl) (setRow_heap _ _ _ _ _ _ HS1.out.h3) Tryz.underlying49 rfl (by kernel_rfl)) rfl ⟨rfl, below_row HS1.out.b (by omega) _⟩
end Go.Proofs.YtchdfogifhfclaaGreatDoor
namespace Go.Proofs.YtchdfogifhfclaaGreatDoor
open Go.RowKit Go.Maps Go.MapKept
open Go.ChangeMaps (setBlock)

def UseYes (l : Ls) (w : World) (e : Ending) (w' : World) : Prop := ∃ vb vc, e = .returned (.tuple #[.agg (lC l.p l.m (.slice (some ⟨vb, 0, none⟩) 1 vc) l.t l.sent l.exp), .int .i64 0]) ∧ Below w.heap.size w w'
def UseOne (l : Ls) (now : Int) (w : World) (e : Ending) (w' : World) : Prop := (l.exp ≤ now ∧ UseNo 62 w e w') ∨ (now < l.exp ∧ UseYes l w e w')
set_option maxRecDepth 100000 in
set_option maxHeartbeats 4000000 in
theorem use_some (F : Nat → Prop) (h : Nat) (rho now : Int) (l : Ls) (w : World) (H : HoAt F h rho (some l) w) (hp : pathOK l.p = true) (hm : ModeB l.m = true) (h1 : 1 ≤ l.s ∧ l.s ≤ 1099511627776) :
    Calls Tryz.prog 13 #[.pointer (some ⟨h, 0, none⟩), .int .i64 now, .string l.p, .int .i64 l.m] w (UseOne l now w) := by
  obtain ⟨pa, m, s, t, sent, exp⟩ := l
  simp only at hp hm h1
  have hmf : ∀ (fn : Fn) (first cap : Array Value) (w : World), (Instr.makeFunc fn first cap).run Tryz.prog w = .ok (.func fn first cap) w := fun _ _ _ _ => rfl
  obtain ⟨w0, hw0⟩ : ∃ w0, w0 = useW now pa m w := ⟨_, rfl⟩
  have hS := useS now pa m w
  rw [← hw0] at hS
  have HS := Lib.hid hS
  have H0 := Lib.hid (H.below hS.b)
  have HP := Lib.hid hp
  have HM := Lib.hid hm
  have H1 := Lib.hid h1
  have c1 := blk_cell hS.h1 0
  have c2 := blk_cell hS.h2 0
  have hb : ((m != 1) = false) ∨ ((m != 1) = true ∧ (m != 2) = false) := by rcases faultEq pa m hm with h | h <;> rw [h] <;> decide
  clear hS H hp hm h1
  unfold useW zlC estr at hw0
  go_enter Tryz.func13, Tryz.ntmps13
  go_upto_region 1 with fail
  rw [← hw0]
  clear hw0
  go_wp2_with fail
  refine (valid_any pa _ (by have := pathOK_size HP.out; omega)).mono ?_
  rintro e w1 ⟨rfl, rfl⟩
  rw [HP.out]
  rcases hb with b1 | ⟨b1, b2⟩
  all_goals
    go_wp2_with fail
    refine (listH_some F h rho ⟨pa, m, s, t, sent, exp⟩ _ H0.out).mono ?_
    rintro e w1 ⟨b, c, vb, vc, rfl, hc, hb1, hb2, hcell, hfree, hiv, hbel⟩
    simp only at hcell hiv
    have HO1 := Lib.hid (show OneL pa m s t sent exp b vb vc w1 from ⟨hcell, hfree, hb2, hiv.mono (fun k _ hd => hd.2)⟩)
    have HBX := Lib.hid (HS.out.keep hbel)
    have HLO := Lib.hid (show w.heap.size + 4 ≤ b from Nat.le_trans (lt_of_heap HS.out.h3) hb1)
    by_cases hd : exp ≤ now
    · have HDL := Lib.hid (delLd_any (w.heap.size + 4) pa m s t sent exp now b vb vc c w.heap.size (w.heap.size + 1) (w.heap.size + 1 + 1) w1 HO1.out H1.out HP.out HM.out HBX.out.bx hd HLO.out)
      have HD := Lib.hid hd
      clear hc hb1 hb2 hcell hfree hiv hbel hd
      go_wp2_with fail
      refine HDL.out.mono ?_
      rintro e w2 ⟨rfl, hb2⟩
      have HX2 := Lib.hid ((hb2.block (w.heap.size + 1 + 1 + 1) (by omega)).trans HBX.out.h3)
      have HB2 := Lib.hid (show Below w.heap.size w w2 from HBX.out.b.trans (hb2.mono (by omega)))
      clear hb2
      go_wp2_with (refine wpList_store_row rfl 49 (.tmp 8) (.tmp 35) rfl (w.heap.size + 1 + 1 + 1) zlC rfl rfl 49 _ HX2.out (by kernel_rfl) rfl zlC_one ?_)
      refine bodyPost_ret (v := .tuple #[.agg zlC, .int .i64 62]) (results_cell_tmp2 (fn := Tryz.f13) rfl _ _ (w.heap.size + 1 + 1 + 1) 49 zlC (0, 0) _ _ rfl rfl (setRow_heap _ _ _ _ _ _ HX2.out) Tryz.underlying49 rfl (by kernel_rfl)) rfl (.inl ⟨HD.out, rfl, below_row HB2.out (by omega) _⟩)
    · have HDL := Lib.hid (delLk_any pa m s t sent exp now b vb vc c w.heap.size (w.heap.size + 1) (w.heap.size + 1 + 1) w1 HO1.out H1.out HP.out HM.out HBX.out.bx hd)
      have HD := Lib.hid hd
      clear hc hb1 hb2 hcell hfree hiv hbel hd
      go_wp2_with fail
      refine HDL.out.mono ?_
      rintro e w2 ⟨rfl, hb2⟩
      have HO2 := Lib.hid (HO1.out.below hb2)
      have HS2 := Lib.hid (HBX.out.keep hb2)
      clear hb2
      go_wp2_with fail
      refine (minL_any pa m s t sent exp b vb vc c _ _ HO2.out).mono ?_
      rintro e w3 ⟨rfl, hb3⟩
      have HS3 := Lib.hid (HS2.out.keep hb3)
      clear hb3
      go_wp2_with (refine wpList_store_row rfl 49 (.tmp 8) (.tmp 37) rfl (w.heap.size + 1 + 1 + 1) (lC pa m (.slice (some ⟨vb, 0, none⟩) 1 vc) t sent exp) rfl rfl 49 _ HS3.out.h3 (by kernel_rfl) rfl (lC_one _ _ _ _ _ _ _ _) ?_)
      refine bodyPost_ret (v := .tuple #[.agg (lC pa m (.slice (some ⟨vb, 0, none⟩) 1 vc) t sent exp), .int .i64 0]) (results_cell_tmp2 (fn := Tryz.f13) rfl _ _ (w.heap.size + 1 + 1 + 1) 49 (lC pa m (.slice (some ⟨vb, 0, none⟩) 1 vc) t sent exp) (0, 0) _ _ rfl rfl (setRow_heap _ _ _ _ _ _ HS3.out.h3) Tryz.underlying49 rfl (by kernel_rfl)) rfl (.inr ⟨by have := HD.out; show now < exp; omega, vb, vc, rfl, below_row HS3.out.b (by omega) _⟩)
end Go.Proofs.YtchdfogifhfclaaGreatDoor
