/- The book: Valid, mayRec, limits at the three records.  The book: mayRec, limits at the three records. -/
import Derived.Test.YtchdfogifhfclaaGreatDoorBk
namespace Go.Proofs.YtchdfogifhfclaaGreatDoor
open Go.RowKit

/-- A slice of one grant; of none. -/
def OneG (D : Nat → Prop) (w : World) (v : Value) (g : Gr) : Prop := ∃ b c sv, v = .slice (some ⟨b, 0, none⟩) 1 c ∧ 1 ≤ c ∧ c ≤ maxLen ∧ D b ∧ b < w.heap.size ∧ (∀ i, i < 6 → w.cell? ⟨b, i, none⟩ = (gC 1 1 g.p g.m sv g.t)[i]?) ∧ (∀ i, w.frozen? ⟨b, i, none⟩ = false) ∧ Ck8.IntsV D w sv [g.s]
def GsV (D : Nat → Prop) (w : World) (v : Value) : Option Gr → Prop
  | none => v = .slice none 0 0
  | some g => OneG D w v g
theorem OneG.keep {D : Nat → Prop} {w w' : World} {v : Value} {g : Gr} (h : OneG D w v g) (hk : ∀ k, k < w.heap.size → D k → w'.heap[k]? = w.heap[k]?) (hs : w.heap.size ≤ w'.heap.size) : OneG D w' v g := by
  obtain ⟨b, c, sv, e, h1, h2, h3, h4, h5, h6, h7⟩ := h
  refine ⟨b, c, sv, e, h1, h2, h3, by omega, fun i hi => ?_, fun i => ?_, h7.keep hk hs⟩
  · rw [World.cell?_of_block (w := w) (a := ⟨b, i, none⟩) (hk b h4 h3)]; exact h5 i hi
  · rw [← h6 i]
    unfold World.frozen?
    rw [hk b h4 h3]
theorem OneG.below {D : Nat → Prop} {w w' : World} {v : Value} {g : Gr} (h : OneG D w v g) (hb : Below w.heap.size w w') : OneG D w' v g := h.keep (fun k hk _ => hb.block k hk) hb.size
theorem OneG.mono {D D' : Nat → Prop} {w : World} {v : Value} {g : Gr} (h : OneG D w v g) (hd : ∀ k, k < w.heap.size → D k → D' k) : OneG D' w v g := by
  obtain ⟨b, c, sv, e, h1, h2, h3, h4, h5, h6, h7⟩ := h
  exact ⟨b, c, sv, e, h1, h2, hd b h4 h3, h4, h5, h6, h7.mono hd⟩
theorem GsV.keep {D : Nat → Prop} {w w' : World} {v : Value} {o : Option Gr} (h : GsV D w v o) (hk : ∀ k, k < w.heap.size → D k → w'.heap[k]? = w.heap[k]?) (hs : w.heap.size ≤ w'.heap.size) : GsV D w' v o := by
  cases o with
  | none => exact h
  | some g => exact OneG.keep h hk hs
theorem GsV.below {D : Nat → Prop} {w w' : World} {v : Value} {o : Option Gr} (h : GsV D w v o) (hb : Below w.heap.size w w') : GsV D w' v o := h.keep (fun k hk _ => hb.block k hk) hb.size
theorem GsV.mono {D D' : Nat → Prop} {w : World} {v : Value} {o : Option Gr} (h : GsV D w v o) (hd : ∀ k, k < w.heap.size → D k → D' k) : GsV D' w v o := by
  cases o with
  | none => exact h
  | some g => exact OneG.mono h hd
def bV (next longest : Int) (gs : Value) : Value := .agg #[.int .i64 next, .int .i64 0, .int .i64 longest, gs]
/-- What may stand in the book. -/
structure BkOK (next longest : Int) (o : Option Gr) : Prop where
  nx : 1 ≤ next ∧ next ≤ 3
  lg : longest = 0 ∨ (4 ≤ longest ∧ longest ≤ 1048576)
  gr : ∀ g, o = some g → g.OK ∧ g.s < next
set_option maxRecDepth 100000 in
set_option maxHeartbeats 1000000 in
theorem bvalid_none (next longest : Int) (w : World) (h : BkOK next longest none) : Calls Tryz.prog 126 #[bV next longest (.slice none 0 0)] w fun e w' => e = .returned (.bool true) ∧ Below w.heap.size w w' := by
  have hn := h.nx
  have HN := Lib.hid hn
  unfold bV
  rcases h.lg with rfl | hl
  · clear h hn
    go_enter Tryz.func126, Tryz.ntmps126
    go_wp2_with fail
    refine (heads_any next _ ⟨HN.out.1, Int.le_trans HN.out.2 (by omega)⟩).mono ?_
    rintro e w1 ⟨rfl, rfl⟩
    go_wp2_with fail
    refine wp_loop_rounds 1 ?_
    rw [rounds_succ]
    go_wp2_with fail
    go_ret
    exact ⟨by simp, (Below.refl _ _).alloc (Nat.le_refl _) _⟩
  · have d0 : (longest != 0) = true := by rw [bne_iff_ne]; omega
    have d1 : (longest == 0) = false := beq_eq_false_iff_ne.2 (by omega)
    have HL := Lib.hid hl
    clear h hn hl
    go_enter Tryz.func126, Tryz.ntmps126
    go_wp2_with fail
    refine (heads_any next _ ⟨HN.out.1, Int.le_trans HN.out.2 (by omega)⟩).mono ?_
    rintro e w1 ⟨rfl, rfl⟩
    go_wp2_with fail
    refine (legal_any longest _ HL.out).mono ?_
    rintro e w1 ⟨rfl, rfl⟩
    go_wp2_with fail
    refine wp_loop_rounds 1 ?_
    rw [rounds_succ]
    go_wp2_with fail
    go_ret
    exact ⟨by simp, (Below.refl _ _).alloc (Nat.le_refl _) _⟩
set_option maxRecDepth 100000 in
set_option maxHeartbeats 2000000 in
theorem bvalid_some (D : Nat → Prop) (next longest : Int) (g : Gr) (gs : Value) (w : World) (h : BkOK next longest (some g)) (hl : 4 ≤ longest ∧ longest ≤ 1048576) (hg : OneG D w gs g) : Calls Tryz.prog 126 #[bV next longest gs] w fun e w' => e = .returned (.bool true) ∧ Below w.heap.size w w' := by
  have HN := Lib.hid h.nx
  have HOK := Lib.hid (h.gr g rfl).1
  have d0 : (longest != 0) = true := by rw [bne_iff_ne]; omega
  have d1 : (longest == 0) = false := beq_eq_false_iff_ne.2 (by omega)
  have d2 : decide (next ≤ g.s) = false := decide_eq_false (by have := (h.gr g rfl).2; omega)
  have HL := Lib.hid hl
  obtain ⟨b, c, sv, rfl, hc1, hc2, hD, hb, hcell, hfr, hiv⟩ := hg
  have HIV := Lib.hid hiv
  obtain ⟨sb, so, sc, rfl, _, _, _, _, _⟩ := hiv.at_ (j := 0) rfl
  have k0 := hcell 0 (by omega)
  have k1 := hcell 1 (by omega)
  have k2 := hcell 2 (by omega)
  have k3 := hcell 3 (by omega)
  have k4 := hcell 4 (by omega)
  have k5 := hcell 5 (by omega)
  obtain ⟨p, m, s, t⟩ := g
  simp only at d2 k0 k1 k2 k3 k4 k5
  clear h hl hcell hfr hiv hD
  unfold gC at k0 k1 k2 k3 k4 k5
  unfold bV
  go_enter Tryz.func126, Tryz.ntmps126
  go_wp2_with fail
  refine (heads_any next _ ⟨HN.out.1, Int.le_trans HN.out.2 (by omega)⟩).mono ?_
  rintro e w1 ⟨rfl, rfl⟩
  go_wp2_with fail
  refine (legal_any longest _ HL.out).mono ?_
  rintro e w1 ⟨rfl, rfl⟩
  go_wp2_with fail
  refine wp_loop_rounds 2 ?_
  rw [rounds_succ]
  go_upto_region 7 with fail
  obtain ⟨w0, hw0⟩ : ∃ w0, w0 = (w.alloc (.cells #[.int .i64 next, .int .i64 0, .int .i64 longest, .slice (some ⟨b, 0, none⟩) 1 c] 72)).alloc (.cells #[.int .i64 1, .int .i64 1, .string p, .int .i64 m, .slice (some ⟨sb, so, none⟩) 1 sc, .int .i64 t] 45) := ⟨_, rfl⟩
  have hB0 : Below w.heap.size w w0 := by rw [hw0]; exact ((Below.refl _ _).alloc (Nat.le_refl _) _).alloc (by simp) _
  have hx1 : w0.heap[w.heap.size]? = some (.cells #[.int .i64 next, .int .i64 0, .int .i64 longest, .slice (some ⟨b, 0, none⟩) 1 c] 72 (0, 0)) := by rw [hw0, heap_past _ _ _ (by simp), heap_at _ _ _ rfl]
  have hx2 : w0.heap[w.heap.size + 1]? = some (.cells #[.int .i64 1, .int .i64 1, .string p, .int .i64 m, .slice (some ⟨sb, so, none⟩) 1 sc, .int .i64 t] 45 (0, 0)) := by rw [hw0, heap_at _ _ _ (by simp)]
  rw [← hw0]
  have HB0 := Lib.hid hB0
  have HX1 := Lib.hid hx1
  have HX2 := Lib.hid hx2
  have HS0 := Lib.hid (show w.heap.size + 2 ≤ w0.heap.size by rw [hw0]; simp)
  have c1 := blk_cell hx1
  have c2 := blk_cell hx2
  clear hw0 hB0 hx1 hx2 k0 k1 k2 k3 k4 k5
  have hmg := fun n => mayGrant_any D ⟨p, m, s, t⟩ (.slice (some ⟨sb, so, none⟩) [s].length sc) (w0.drewN n) HOK.out (HIV.out.below (HB0.out.trans ((below_drewN w0 n).mono HB0.out.size)))
  have HMG := Lib.hid hmg
  clear hmg
  go_region_held_law (fun u => (∀ i, u.cell? ⟨w.heap.size, i, none⟩ = #[.int .i64 next, .int .i64 0, .int .i64 longest, .slice (some ⟨b, 0, none⟩) 1 c][i]?) ∧ (∀ i, u.cell? ⟨w.heap.size + 1, i, none⟩ = #[.int .i64 1, .int .i64 1, .string p, .int .i64 m, .slice (some ⟨sb, so, none⟩) 1 sc, .int .i64 t][i]?)) (first | (go_split_ands; exact ⟨by assumption, by assumption⟩) | go_keep) (first
    | (go_at_call 168; (refine (HMG.out 1).mono ?_); rintro e w2 ⟨rfl, hb2⟩; have q1 := blk_cell ((hb2.block _ (by have := HS0.out; show _ < w0.heap.size; omega)).trans HX1.out); have q2 := blk_cell ((hb2.block _ (by have := HS0.out; show _ < w0.heap.size; omega)).trans HX2.out); have HB2 := Lib.hid ((HB0.out.trans ((below_drewN w0 1).mono HB0.out.size)).trans (hb2.mono HB0.out.size)); clear hb2)
    | (go_at_call 169; (refine (newest_any D s _ _ (HIV.out.below HB2.out)).mono ?_); rintro e w3 ⟨rfl, rfl⟩))
  go_wp2_with fail
  rw [rounds_succ]
  go_wp2_with fail
  go_ret
  exact ⟨by simp, HB2.out⟩
end Go.Proofs.YtchdfogifhfclaaGreatDoor
namespace Go.Proofs.YtchdfogifhfclaaGreatDoor
open Go.RowKit

def recLong (t : Int) : Value := .agg (rC 2 0 0 estr 0 (.slice none 0 0) 0 0 (.slice none 0 0) 0 t)
def recGrant (p : ByteArray) (m : Int) (sv : Value) (t : Int) : Value := .agg (rC 4 1 1 p m sv t 0 (.slice none 0 0) 0 0)
def recFresh (sv : Value) : Value := .agg (rC 5 0 0 estr 0 (.slice none 0 0) 0 1 sv 0 0)
set_option maxRecDepth 100000 in
set_option maxHeartbeats 1000000 in
theorem mayLong_any (t : Int) (w : World) (h : 4 ≤ t ∧ t ≤ 1048576) : Calls Tryz.prog 127 #[recLong t] w fun e w' => e = .returned (.bool true) ∧ Below w.heap.size w w' := by
  have d0 : (t == 0) = false := beq_eq_false_iff_ne.2 (by omega)
  have HL := Lib.hid h
  clear h
  unfold recLong rC estr
  go_enter Tryz.func127, Tryz.ntmps127
  go_wp2_with fail
  refine (sameZero_any _).mono ?_
  rintro e w1 ⟨rfl, hb⟩
  have c0 := blk_cell ((hb.block w.heap.size (by simp)).trans (heap_at w _ _ rfl))
  have HB := Lib.hid (((Below.refl _ w).alloc (Nat.le_refl _) _).trans (hb.mono (by simp)))
  clear hb
  go_wp2_with fail
  refine (legal_any t _ HL.out).mono ?_
  rintro e w2 ⟨rfl, rfl⟩
  go_wp2_with fail
  go_ret
  exact ⟨by simp, HB.out⟩
set_option maxRecDepth 100000 in
set_option maxHeartbeats 2000000 in
theorem mayGrantRec_any (D : Nat → Prop) (g : Gr) (sv : Value) (w : World) (h : g.OK) (h1 : g.s = 1) (hs : Ck8.IntsV D w sv [g.s]) : Calls Tryz.prog 127 #[recGrant g.p g.m sv g.t] w fun e w' => e = .returned (.bool true) ∧ Below w.heap.size w w' := by
  have HOK := Lib.hid h
  have HS := Lib.hid hs
  obtain ⟨sb, so, sc, rfl, _, _, _, _, _⟩ := hs.at_ (j := 0) rfl
  obtain ⟨p, m, s, t⟩ := g
  simp only at h1 HS
  subst h1
  clear h hs
  unfold recGrant rC
  go_enter Tryz.func127, Tryz.ntmps127
  go_wp2_with fail
  refine (sameNot_any 1 1 p m (some ⟨sb, so, none⟩) sc t _).mono ?_
  rintro e w1 ⟨rfl, hb⟩
  have hh := (hb.block w.heap.size (by simp)).trans (heap_at w _ _ rfl)
  have HH := Lib.hid hh
  have c0 := blk_cell hh
  have HB := Lib.hid (((Below.refl _ w).alloc (Nat.le_refl _) _).trans (hb.mono (by simp)))
  clear hb hh
  go_wp2_with fail
  go_quiet (first
    | (go_at_call 169; exact quiet_eq (newest_any D 1 _ _ (HS.out.below (HB.out.trans ((below_drewN _ _).mono HB.out.size))))))
  have c1 : ∀ i, (w1.drewN nq).cell? ⟨w.heap.size, i, none⟩ = _ := c0
  go_wp2_with fail
  refine (mayGrant_any D ⟨p, m, 1, t⟩ _ _ HOK.out (HS.out.below (HB.out.trans ((below_drewN _ _).mono HB.out.size)))).mono ?_
  rintro e w2 ⟨rfl, hb2⟩
  have HB2 := Lib.hid ((HB.out.trans ((below_drewN _ _).mono HB.out.size)).trans (hb2.mono HB.out.size))
  clear hb2
  go_wp2_with fail
  go_ret
  exact ⟨by simp, HB2.out⟩
set_option maxRecDepth 100000 in
set_option maxHeartbeats 1000000 in
theorem mayFresh_any (D : Nat → Prop) (x : Int) (sv : Value) (w : World) (hx : 1 ≤ x ∧ x ≤ 1099511627776) (hs : Ck8.IntsV D w sv [x]) : Calls Tryz.prog 127 #[recFresh sv] w fun e w' => e = .returned (.bool true) ∧ Below w.heap.size w w' := by
  have HX := Lib.hid hx
  have HS := Lib.hid hs
  obtain ⟨sb, so, sc, rfl, _, _, _, _, _⟩ := hs.at_ (j := 0) rfl
  clear hs hx
  unfold recFresh rC estr
  go_enter Tryz.func127, Tryz.ntmps127
  go_wp2_with fail
  refine (sameZero_any _).mono ?_
  rintro e w1 ⟨rfl, hb⟩
  have c0 := blk_cell ((hb.block w.heap.size (by simp)).trans (heap_at w _ _ rfl))
  have HB := Lib.hid (((Below.refl _ w).alloc (Nat.le_refl _) _).trans (hb.mono (by simp)))
  clear hb
  go_wp2_with fail
  refine (counter_any 1 _ (by omega)).mono ?_
  rintro e w2 ⟨rfl, rfl⟩
  go_wp2_with fail
  refine (bstamped_any D x _ _ (HS.out.below HB.out) HX.out).mono ?_
  rintro e w2 ⟨rfl, rfl⟩
  go_wp2_with fail
  go_ret
  exact ⟨by simp, HB.out⟩
set_option maxHeartbeats 1000000 in
theorem limits_long (next longest : Int) (gs : Option Addr) (n c : Nat) (w : World) : Calls Tryz.prog 128 #[bV next longest (.slice gs n c), .int .i64 2] w fun e w' => e = .returned (.int .i64 0) ∧ Below w.heap.size w w' := by
  unfold bV
  go_enter Tryz.func128, Tryz.ntmps128
  go_wp2_with fail
  go_ret
  exact ⟨by simp, (Below.refl _ w).alloc (Nat.le_refl _) _⟩
set_option maxHeartbeats 1000000 in
theorem limits_grant (next longest : Int) (hn : next ≤ 3) (w : World) : Calls Tryz.prog 128 #[bV next longest (.slice none 0 0), .int .i64 4] w fun e w' => e = .returned (.int .i64 0) ∧ Below w.heap.size w w' := by
  have d0 : decide (1099511627776 < next) = false := decide_eq_false (by omega)
  unfold bV
  go_enter Tryz.func128, Tryz.ntmps128
  go_wp2_with fail
  go_ret
  exact ⟨by simp, (Below.refl _ w).alloc (Nat.le_refl _) _⟩
set_option maxHeartbeats 1000000 in
theorem limits_fresh (next longest : Int) (hn : next ≤ 3) (gs : Option Addr) (n c : Nat) (w : World) : Calls Tryz.prog 128 #[bV next longest (.slice gs n c), .int .i64 5] w fun e w' => e = .returned (.int .i64 0) ∧ Below w.heap.size w w' := by
  have d0 : decide (1099511627776 < next) = false := decide_eq_false (by omega)
  unfold bV
  go_enter Tryz.func128, Tryz.ntmps128
  go_wp2_with fail
  go_ret
  exact ⟨by simp, (Below.refl _ w).alloc (Nat.le_refl _) _⟩
end Go.Proofs.YtchdfogifhfclaaGreatDoor
