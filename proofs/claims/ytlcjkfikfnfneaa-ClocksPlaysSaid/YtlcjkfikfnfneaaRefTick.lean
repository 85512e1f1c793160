/- THE WALK of subletref08.Tick. -/
import Derived.Test.YtlcjkfikfnfneaaRef8
import Derived.Deep.RegionLaw
import Derived.Deep.CutBlock
import Derived.Deep.DeepCutAuto
namespace Go.Proofs.Ytlcjkfikfnfneaa
open Go.RowKit

theorem refused {D : Nat → Prop} {w wr : World} {c : Ck} {d : Int} {dl : List Int} {n m cp : Nat} {a : Option Addr} (hn : c.tickE d dl = n) (h0 : n ≠ 0) (hI : IntsV D w (.slice a m cp) c.now) (hB : Below w.heap.size w wr) :
    RTick D w (c.tickR d dl) (c.tickE d dl) (.returned (.tuple #[.agg #[.int .i64 c.passed, .slice a m cp, .int .i64 c.drift], .int .i64 n])) wr := by
  rw [went_no (by rw [hn]; exact h0), hn]
  exact ⟨a, m, cp, rfl, (hI.mono (fun _ _ h => Or.inl h)).below hB, hB⟩
theorem below3 {w wr : World} {b : Nat} (hB : Below w.heap.size w wr) (hb : w.heap.size ≤ b) (x y z : Value) : Below w.heap.size w (((wr.setCell ⟨b, 0, none⟩ x).setCell ⟨b, 1, none⟩ y).setCell ⟨b, 2, none⟩ z) :=
  ((hB.setCell (p := ⟨b, 0, none⟩) hb x).setCell (p := ⟨b, 1, none⟩) hb y).setCell (p := ⟨b, 2, none⟩) hb z
theorem max_if (a b : Int) : max a b = (if a < b then b else a) := by split <;> omega
def outU (now dl : List Int) (k : Nat) : List Int := (List.range k).map (fun j => now.getD j 0 + dl.getD j 0)
theorem outU_succ (now dl : List Int) (k : Nat) : outU now dl (k + 1) = outU now dl k ++ [now.getD k 0 + dl.getD k 0] := by simp [outU, List.range_succ]
theorem outU_all (now dl : List Int) (h : dl.length = now.length) : outU now dl dl.length = nowU now dl dl.length := by
  apply List.ext_getElem?
  intro j
  by_cases hj : j < now.length
  · rw [nowU_at _ _ _ _ hj, if_pos (by omega)]
    simp [outU, List.getElem?_range (show j < dl.length by omega)]
  · rw [List.getElem?_eq_none (by simp [outU]; omega), List.getElem?_eq_none (by rw [nowU_length]; omega)]
/-- In the midst of the last loop. -/
structure MidR (W1 wr : World) (X3 : Nat) (s : Int) (l : List Int) (dr : Int) (v : Value) : Prop where
  cell : wr.heap[X3]? = some (.cells #[.int .i64 s, v, .int .i64 dr] 33 (0, 0))
  own : wr.ownsRow W1.heap.size 3 1 v l.length (l.map I8)
  out : Below X3 W1 wr
  lt : X3 < W1.heap.size
section
variable {W1 wr Y w5 : World} {X3 : Nat} {s dr z : Int} {l : List Int} {v nv : Value}
theorem MidR.size (M : MidR W1 wr X3 s l dr v) : X3 ≤ wr.heap.size ∧ W1.heap.size ≤ wr.heap.size := by have := M.out.size; have := M.lt; omega
theorem MidR.grown (M : MidR W1 wr X3 s l dr v) (hY : Below wr.heap.size wr Y) (hgrow : Y.grownBy w5 v.ownBlock) : w5.heap[X3]? = some (.cells #[.int .i64 s, v, .int .i64 dr] 33 (0, 0)) := by
  have hl := lt_of_heap M.cell
  have hy := hY.size
  refine (hgrow.block X3 (by omega) (fun e => ?_)).trans ((hY.block X3 hl).trans M.cell)
  have := (M.own.lt X3 e.symm).1
  have := M.lt
  omega
theorem MidR.push (M : MidR W1 wr X3 s l dr v) (hY : Below wr.heap.size wr Y) (hgrow : Y.grownBy w5 v.ownBlock) (hown3 : w5.ownsRow W1.heap.size 3 1 nv (l.length + 1) (l.map I8 ++ [.int .i64 z])) : MidR W1 (w5.setCell ⟨X3, 1, none⟩ nv) X3 s (l ++ [z]) dr nv := by
  have hX := M.grown hY hgrow
  have hs := M.size
  have hy := hY.size
  have hl := M.lt
  refine ⟨by rw [blk_set hX 1 _]; rfl, ?_, ((M.out.trans (hY.mono hs.1)).grown hgrow (by omega) (fun k hk => by have := (M.own.lt k hk).1; omega)).setCell (Nat.le_refl _) _, hl⟩
  have := ownsRow_keep (w' := w5.setCell ⟨X3, 1, none⟩ nv) hown3 (fun k hk => Below.heap_setCell w5 ⟨X3, 1, none⟩ _ k (by have := (hown3.lt k hk).1; show k ≠ X3; omega))
  simpa [I8] using this
theorem MidR.keep (M : MidR W1 wr X3 s l dr v) (hY : Below wr.heap.size wr Y) : MidR W1 Y X3 s l dr v :=
  ⟨(hY.block X3 (lt_of_heap M.cell)).trans M.cell, ownsRow_keep M.own (fun k hk => hY.block k (M.own.lt k hk).2), M.out.trans (hY.mono M.size.1), M.lt⟩
theorem MidR.drift (M : MidR W1 wr X3 s l dr v) (hY : Below wr.heap.size wr Y) (dr' : Int) : MidR W1 (Y.setCell ⟨X3, 2, none⟩ (.int .i64 dr')) X3 s l dr' v := by
  have M' := M.keep hY
  have hl := M.lt
  exact ⟨by rw [blk_set M'.cell 2 _]; rfl, ownsRow_keep M'.own (fun k hk => Below.heap_setCell Y ⟨X3, 2, none⟩ _ k (by have := (M'.own.lt k hk).1; show k ≠ X3; omega)), M'.out.setCell (Nat.le_refl _) _, hl⟩
end
def O33 (x y z : Value) : Obj := .cells #[x, y, z] 33

set_option maxRecDepth 100000 in
set_option maxHeartbeats 2000000 in
theorem rtick_any (c : Ck) (d : Int) (D D2 : Nat → Prop) (dl : List Int) (nv dv : Value) (w : World) (hf : c.Fit) (hd : I64 d) (hdl : ∀ (j : Nat) (x : Int), dl[j]? = some x → I64 x) (hnv : IntsV D w nv c.now) (hv : IntsV D2 w dv dl) :
    Calls Try.prog 14 #[.agg #[.int .i64 c.passed, nv, .int .i64 c.drift], .int .i64 d, dv] w (RTick D w (c.tickR d dl) (c.tickE d dl)) := by
  obtain ⟨i0, hi, hz0', hz1', hz2'⟩ := info_parts Try.info3
  have HV := Lib.hid hv
  have HNV := Lib.hid hnv
  have HDL := Lib.hid hdl
  have HF := Lib.hid hf
  obtain ⟨a, cp, rfl, hc, hcm, _⟩ := hv
  obtain ⟨na, nc, rfl, hnc, hncm, _⟩ := hnv
  unfold maxLen at hcm hncm
  obtain ⟨hd1, hd2⟩ := hd
  obtain ⟨hl1, hl8⟩ := hf.len
  obtain ⟨hp0, hp1⟩ := hf.passed
  obtain ⟨hr0, hr1⟩ := hf.drift
  have HX1 := Lib.hid (blk_alloc (heap_at w (.cells #[.int .i64 c.passed, .slice na c.now.length nc, .int .i64 c.drift] 33) _ rfl) (.cells #[.int .i64 0, .slice none 0 0, .int .i64 0] 33))
  have HX2 := Lib.hid (heap_at (w.alloc (.cells #[.int .i64 c.passed, .slice na c.now.length nc, .int .i64 c.drift] 33)) (.cells #[.int .i64 0, .slice none 0 0, .int .i64 0] 33) (w.heap.size + 1) (by simp))
  have HBW : Hid (Below w.heap.size w ((w.alloc (.cells #[.int .i64 c.passed, .slice na c.now.length nc, .int .i64 c.drift] 33)).alloc (.cells #[.int .i64 0, .slice none 0 0, .int .i64 0] 33))) := Lib.hid (((Below.refl _ _).alloc (Nat.le_refl _) _).alloc (by simp) _)
  clear hdl hf
  have hln : dl.length ≠ c.now.length → ((dl.length : Int) != (c.now.length : Int)) = true := fun h => by rw [bne_iff_ne]; omega
  by_cases hlen : dl.length = c.now.length
  case neg =>
    have hln := hln hlen
    have hE : c.tickE d dl = 2 := by unfold Ck.tickE; rw [if_pos (Or.inl hlen)]
    have HE := Lib.hid hE
    clear hE hlen
    go_enter Try.func14, Try.ntmps14
    go_wp2_with fail
    refine bodyPost_ret (v := .tuple #[.agg #[.int .i64 c.passed, .slice na c.now.length nc, .int .i64 c.drift], .int .i64 2]) (by simp [results, Try.results14, go_sem]) rfl ?_
    exact refused HE.out (by decide) HNV.out (((Below.refl _ _).alloc (Nat.le_refl _) _).alloc (by simp) _)
  have hlnf : ((dl.length : Int) != (c.now.length : Int)) = false := by rw [bne_eq_false_iff_eq]; omega
  clear hln
  by_cases hdn : d < 0
  · have hE : c.tickE d dl = 2 := by unfold Ck.tickE; rw [if_pos (Or.inr (Or.inl hdn))]
    have HE := Lib.hid hE
    clear hE hlen
    go_enter Try.func14, Try.ntmps14
    go_wp2_with fail
    refine bodyPost_ret (v := .tuple #[.agg #[.int .i64 c.passed, .slice na c.now.length nc, .int .i64 c.drift], .int .i64 2]) (by simp [results, Try.results14, go_sem]) rfl ?_
    exact refused HE.out (by decide) HNV.out (((Below.refl _ _).alloc (Nat.le_refl _) _).alloc (by simp) _)
  have hE0 : c.tickE d dl = if negU dl dl.length = true then 2 else if lateU c.now dl (decide (1152921504606846976 - c.passed < d)) dl.length = true then 30 else 0 := by
    unfold Ck.tickE
    cases hng : negU dl dl.length with
    | true => rw [if_pos (Or.inr (Or.inr rfl))]; simp
    | false => rw [if_neg (by rintro (h | h | h); exact h hlen; exact hdn h; cases h)]; simp
  have HE0 := Lib.hid hE0
  have HLEN := Lib.hid hlen
  have q1 : decide (d < 0) = false := decide_eq_false hdn
  clear hE0 hlen
  go_enter Try.func14, Try.ntmps14
  go_wp2_with fail
  obtain ⟨W0, hW0⟩ : ∃ W0, W0 = (w.alloc (.cells #[.int .i64 c.passed, .slice na c.now.length nc, .int .i64 c.drift] 33)).alloc (.cells #[.int .i64 0, .slice none 0 0, .int .i64 0] 33) := ⟨_, rfl⟩
  rw [← hW0] at HX1 HX2 HBW
  rw [← hW0]
  have HWS : Hid (W0.heap.size = w.heap.size + 2) := Lib.hid (by rw [hW0]; simp)
  have HV0 := Lib.hid (HV.out.below HBW.out)
  have HNV0 := Lib.hid (HNV.out.below HBW.out)
  obtain ⟨c0, c1, c2, f0, f1, f2⟩ := blk3 HX1.out
  obtain ⟨r0, r1, r2, s0, s1, s2⟩ := blk3 HX2.out
  clear hW0
  go_loop [8] (fun i => ∃ k : Nat, k ≤ dl.length ∧ i = .int .i64 k ∧ Hid (negU dl k = false)) (fun i => dl.length - (intOf i).toNat)
  case atStart => exact ⟨0, by omega, rfl, Lib.hid rfl⟩
  case round =>
    obtain ⟨k, hk, rfl, HN⟩ := hrel
    have k0 : (0 : Int) ≤ (k : Int) := by omega
    by_cases hlt : k < dl.length
    · obtain ⟨x, hx⟩ : ∃ x, dl[k]? = some x := ⟨_, List.getElem?_eq_getElem hlt⟩
      obtain ⟨b, o, c', e1, _, _, hb, _, t0⟩ := HV0.out.at_ hx
      injection e1 with e1 _ e2
      subst e1 e2
      have k1 : (k : Int) < (dl.length : Int) := by omega
      have hnext : negU dl (k + 1) = decide (x < 0) := by unfold negU; rw [HN.out, getD_of hx]; rfl
      have HNX := Lib.hid hnext
      clear hx hnext hb
      by_cases hneg : x < 0
      · have hup := negU_up (dl := dl) (k := k + 1) (n := dl.length) (by rw [HNX.out]; exact decide_eq_true hneg) (by omega)
        have HE : Hid (c.tickE d dl = 2) := Lib.hid (by rw [HE0.out, if_pos hup])
        have hne : ¬ w.heap.size = w.heap.size + 1 := by omega
        clear hup
        go_wp2_with fail
        refine bodyPost_ret (v := .tuple #[.agg #[.int .i64 c.passed, .slice na c.now.length nc, .int .i64 c.drift], .int .i64 2]) (by simp [results, Try.results14, go_sem, r0, r1, r2]) rfl ?_
        exact refused HE.out (by decide) HNV.out (below3 HBW.out (by omega) _ _ _)
      · have hup : negU dl (k + 1) = false := by rw [HNX.out]; exact decide_eq_false hneg
        have HUP := Lib.hid hup
        clear hup
        go_wp2_with fail
        exact ⟨⟨k + 1, by omega, by push_cast; rfl, HUP⟩, by simp only [intOf]; omega⟩
    · obtain rfl : k = dl.length := by omega
      have hE1 : c.tickE d dl = if lateU c.now dl (decide (1152921504606846976 - c.passed < d)) dl.length = true then 30 else 0 := by rw [HE0.out, if_neg (by rw [HN.out]; decide)]
      have HE1 := Lib.hid hE1
      clear hE1
      by_cases hdM : 1152921504606846976 - c.passed < d
      · have HE : Hid (c.tickE d dl = 30) := Lib.hid (by rw [HE1.out, if_pos (lateU_up (k := 0) (by show decide _ = true; exact decide_eq_true hdM) (Nat.zero_le _))])
        have hne : ¬ w.heap.size = w.heap.size + 1 := by omega
        go_wp2_with fail
        refine bodyPost_ret (v := .tuple #[.agg #[.int .i64 c.passed, .slice na c.now.length nc, .int .i64 c.drift], .int .i64 30]) (by simp [results, Try.results14, go_sem, r0, r1, r2]) rfl ?_
        exact refused HE.out (by decide) HNV.out (below3 HBW.out (by omega) _ _ _)
      · have hE2 : c.tickE d dl = if lateU c.now dl false dl.length = true then 30 else 0 := by rw [HE1.out, decide_eq_false hdM]
        have HE2 := Lib.hid hE2
        have q2 : decide (1152921504606846976 - c.passed < d) = false := decide_eq_false hdM
        clear hE2
        go_wp2_with fail
        clear c0 c1 c2 f0 f1 f2 r0 r1 r2 s0 s1 s2
        go_loopw [9] (fun i wr => ∃ k : Nat, k ≤ dl.length ∧ i = .int .i64 k ∧ Hid (lateU c.now dl false k = false) ∧ Below W0.heap.size W0 wr) (fun i _ => dl.length - (intOf i).toNat)
        case atStart => exact ⟨0, by omega, rfl, Lib.hid rfl, Below.refl _ _⟩
        case round =>
          obtain ⟨k, hk, rfl, HL, hB⟩ := hrel
          have k0 : (0 : Int) ≤ (k : Int) := by omega
          have HB := Lib.hid hB
          have hsz := HBW.out.size
          have hX1 := (hB.block _ (lt_of_heap HX1.out)).trans HX1.out
          have hX2 := (hB.block _ (lt_of_heap HX2.out)).trans HX2.out
          have HBB : Hid (Below w.heap.size w wr) := Lib.hid (HBW.out.trans (hB.mono hsz))
          have HVr := Lib.hid (HV0.out.below hB)
          have HNVr := Lib.hid (HNV0.out.below hB)
          obtain ⟨c0, c1, c2, f0, f1, f2⟩ := blk3 hX1
          obtain ⟨r0, r1, r2, s0, s1, s2⟩ := blk3 hX2
          have HX1r := Lib.hid hX1
          have HX2r := Lib.hid hX2
          clear hX1 hX2 hB
          by_cases hlt : k < dl.length
          · obtain ⟨x, hx⟩ : ∃ x, dl[k]? = some x := ⟨_, List.getElem?_eq_getElem hlt⟩
            obtain ⟨z, hz⟩ : ∃ z, c.now[k]? = some z := ⟨_, List.getElem?_eq_getElem (by rw [← HLEN.out]; exact hlt)⟩
            obtain ⟨b, o, c', e1, _, _, hb, _, t0⟩ := HVr.out.at_ hx
            injection e1 with e1 _ e2
            subst e1 e2
            obtain ⟨b2, o2, c2', e1, _, _, hb2, _, t1⟩ := HNVr.out.at_ hz
            injection e1 with e1 _ e2
            subst e1 e2
            have hzb := HF.out.now k z hz
            have hxb := HDL.out k x hx
            have k1 : (k : Int) < (dl.length : Int) := by omega
            have k2 : (k : Int) < (c.now.length : Int) := by rw [← HLEN.out]; exact k1
            have hnext : lateU c.now dl false (k + 1) = decide (1152921504606846976 - z < x) := by simp only [lateU]; rw [HL.out, getD_of hx, getD_of hz]; rfl
            have HNX := Lib.hid hnext
            have w1' : IntKind.i64.wrap (1152921504606846976 - z) = 1152921504606846976 - z := IntWalk.i64_in _ (by omega)
            clear hx hz hnext hb hb2
            by_cases hla : 1152921504606846976 - z < x
            · have hup := lateU_up (now := c.now) (dl := dl) (b := false) (k := k + 1) (n := dl.length) (by rw [HNX.out]; exact decide_eq_true hla) (by omega)
              have HE : Hid (c.tickE d dl = 30) := Lib.hid (by rw [HE2.out, if_pos hup])
              have g1 : decide (1152921504606846976 - z < x) = true := decide_eq_true hla
              have hne : ¬ w.heap.size = w.heap.size + 1 := by omega
              clear hup
              go_wp2_with fail
              go_quiet (fail)
              go_wp2_with fail
              refine bodyPost_ret (v := .tuple #[.agg #[.int .i64 c.passed, .slice (some ⟨b2, o2, none⟩) c.now.length nc, .int .i64 c.drift], .int .i64 30]) (by simp [results, Try.results14, go_sem, r0, r1, r2]) rfl ?_
              exact refused HE.out (by decide) HNV.out (below3 (HBB.out.trans ((below_drewN _ _).mono HBB.out.size)) (by omega) _ _ _)
            · have hup : lateU c.now dl false (k + 1) = false := by rw [HNX.out]; exact decide_eq_false hla
              have HUP := Lib.hid hup
              have g1 : decide (1152921504606846976 - z < x) = false := decide_eq_false hla
              clear hup
              go_wp2_with fail
              go_quiet (fail)
              go_wp2_with fail
              exact ⟨⟨k + 1, by omega, by push_cast; rfl, HUP, HB.out.trans ((below_drewN _ _).mono HB.out.size)⟩, by simp only [intOf]; omega⟩
          · obtain rfl : k = dl.length := by omega
            have HE : Hid (c.tickE d dl = 0) := Lib.hid (by rw [HE2.out, if_neg (by rw [HL.out]; decide)])
            have h0 := Ck.tick0 HE.out
            have HT := Lib.hid h0
            have hdM2 := h0.dM
            have hd0 := h0.d0
            clear h0
            obtain ⟨wo, rfl⟩ : ∃ wo : World, wo = wr := ⟨_, rfl⟩
            go_wp2_with fail
            obtain ⟨X3, hX3⟩ : ∃ X3, X3 = wo.heap.size := ⟨_, rfl⟩
            obtain ⟨W1, hW1⟩ : ∃ W1, W1 = wo.alloc (.cells #[.int .i64 (c.passed + d), .slice none 0 0, .int .i64 c.drift] 33) := ⟨_, rfl⟩
            rw [← hX3, ← hW1]
            have hBo : Below wo.heap.size wo W1 := by rw [hW1]; exact (Below.refl _ _).alloc (Nat.le_refl _) _
            have hlX : w.heap.size + 1 < X3 := by have h1 := HB.out.size; have h2 := HWS.out; omega
            have HM0 : Hid (MidR W1 W1 X3 (c.passed + d) (outU c.now dl 0) c.drift (.slice none 0 0)) := Lib.hid ⟨by rw [hW1]; exact heap_at _ _ _ hX3, World.ownsRow_nil _ _ _ _, Below.refl _ _, by rw [hW1, hX3]; simp⟩
            have HXa := Lib.hid ((hBo.block _ (lt_of_heap HX1r.out)).trans HX1r.out)
            have HXb := Lib.hid ((hBo.block _ (lt_of_heap HX2r.out)).trans HX2r.out)
            have HVa : Hid (IntsV (fun k => D2 k ∧ k < X3) W1 (.slice a dl.length cp) dl) := Lib.hid (by rw [hX3]; exact HVr.out.old.below hBo)
            have HNa : Hid (IntsV (fun k => D k ∧ k < X3) W1 (.slice na c.now.length nc) c.now) := Lib.hid (by rw [hX3]; exact HNVr.out.old.below hBo)
            have HBa := Lib.hid (HBB.out.trans (hBo.mono HBB.out.size))
            have hXws : w.heap.size ≤ X3 := by omega
            clear c0 c1 c2 f0 f1 f2 r0 r1 r2 s0 s1 s2 hW1 hBo hX3
            go_loopw [11] (fun i wr => ∃ (k : Nat) (v : Value), k ≤ dl.length ∧ i = .int .i64 k ∧ MidR W1 wr X3 (c.passed + d) (outU c.now dl k) (driftU d dl c.drift k) v) (fun i _ => dl.length - (intOf i).toNat)
            case atStart => exact ⟨0, _, by omega, rfl, HM0.out⟩
            case round =>
              obtain ⟨k, v, hk, rfl, M⟩ := hrel
              have k0 : (0 : Int) ≤ (k : Int) := by omega
              obtain ⟨av, cv, rfl⟩ := own_slice M.own
              have hlt1 := M.lt
              have hX1w := (M.out.block _ (show w.heap.size < X3 by omega)).trans HXa.out
              have hX2w := (M.out.block _ (show w.heap.size + 1 < X3 by omega)).trans HXb.out
              have HX2w := Lib.hid hX2w
              have HM := Lib.hid M
              have hkk := M.out.block
              have HVw := Lib.hid (HVa.out.keep (fun q _ hq => hkk q hq.2) M.out.size)
              have HNw := Lib.hid (HNa.out.keep (fun q _ hq => hkk q hq.2) M.out.size)
              clear hkk
              by_cases hlt : k < dl.length
              · obtain ⟨x, hx⟩ : ∃ x, dl[k]? = some x := ⟨_, List.getElem?_eq_getElem hlt⟩
                obtain ⟨z, hz⟩ : ∃ z, c.now[k]? = some z := ⟨_, List.getElem?_eq_getElem (by rw [← HLEN.out]; exact hlt)⟩
                obtain ⟨b, o, c', e1, _, _, hb, _, t0⟩ := HVw.out.at_ hx
                injection e1 with e1 _ e2
                subst e1 e2
                obtain ⟨b2, o2, c2', e1, _, _, hb2, _, t1⟩ := HNw.out.at_ hz
                injection e1 with e1 _ e2
                subst e1 e2
                have hzb := HF.out.now k z hz
                have hx0 := HT.out.a0 k hlt
                have hxM := HT.out.aM k hlt
                rw [getD_of hx] at hx0 hxM
                rw [getD_of hz] at hxM
                have k1 : (k : Int) < (dl.length : Int) := by omega
                have hk1 : k + 1 ≤ dl.length := hlt
                have hcast : Value.int .i64 ((k : Int) + 1) = Value.int .i64 ((k + 1 : Nat) : Int) := by push_cast; rfl
                have HCAST := Lib.hid hcast
                have hmeas : dl.length - (intOf (Value.int .i64 ((k : Int) + 1))).toNat < dl.length - (intOf (Value.int .i64 (k : Int))).toNat := by simp only [intOf]; omega
                have HMEAS := Lib.hid hmeas
                clear hcast hmeas
                have k2 : (k : Int) < (c.now.length : Int) := by rw [← HLEN.out]; exact k1
                have hou : outU c.now dl (k + 1) = outU c.now dl k ++ [z + x] := by rw [outU_succ, getD_of hx, getD_of hz]
                have hnx : driftU d dl c.drift (k + 1) = max (driftU d dl c.drift k) (T3.leastT d x) := by simp only [driftU]; rw [getD_of hx]
                have hol : (outU c.now dl k).length = k := by simp [outU]
                obtain ⟨L, hL⟩ : ∃ L, L = outU c.now dl k := ⟨_, rfl⟩
                obtain ⟨dr, hdr⟩ : ∃ dr, dr = driftU d dl c.drift k := ⟨_, rfl⟩
                have hdb := driftU_bd (d := d) (dl := dl) (m := c.drift) ⟨hr0, hr1⟩ k
                rw [← hL] at M HM hou hol
                rw [← hdr] at M HM hnx hdb
                obtain ⟨le, hleE⟩ : ∃ le, le = T3.leastT d x := ⟨_, rfl⟩
                have hle := T3.leastT_bd d x
                rw [← hleE] at hnx hle
                have HLE := Lib.hid hleE
                have HMX : Hid (max dr le = (if dr < le then le else dr)) := Lib.hid (max_if dr le)
                clear hleE
                have HOU := Lib.hid hou
                have HNX := Lib.hid hnx
                have hw8 : IntKind.i64.wrap (z + x) = z + x := IntWalk.i64_in _ (by omega)
                obtain ⟨c0, c1, c2, f0, f1, f2⟩ := blk3 hX1w
                obtain ⟨e0, e1, e2, g0, g1, g2⟩ := blk3 M.cell
                have d1 : wr.drew.cell? ⟨w.heap.size, 1, none⟩ = some (.slice (some ⟨b2, o2, none⟩) c.now.length nc) := c1
                have d2 : wr.drew.cell? ⟨X3, 1, none⟩ = some (.slice av L.length cv) := e1
                have d3 : wr.drew.cell? ⟨b, o + k, none⟩ = some (.int .i64 x) := t0
                have d4 : wr.drew.cell? ⟨b2, o2 + k, none⟩ = some (.int .i64 z) := t1
                have d5 : (wr.alloc (.cells #[.int .i64 (z + x)] 3)).drew.cell? ⟨X3, 1, none⟩ = some (.slice av L.length cv) := (blk3 (blk_alloc M.cell _)).2.1
                have hx8 := HDL.out k x hx
                have hBal : Below wr.heap.size wr (wr.alloc (.cells #[.int .i64 (z + x)] 3)).drew := ((Below.refl _ _).alloc (Nat.le_refl _) _).drew
                have HBAL := Lib.hid hBal
                have hl7 : L.length ≤ 8 := by omega
                have hms := M.size
                have HX := Lib.hid hx
                clear hx hz hou hnx hL hdr c0 c1 c2 f0 f1 f2 e0 e1 e2 g0 g1 g2 t0 t1 hb hb2 M hX1w hX2w hBal hol
                go_upto_region 19 with fail
                go_cut [85] (fun u85 wc => ∃ nv : Value, MidR W1 wc X3 (c.passed + d) (L ++ [z + x]) dr nv)
                case first =>
                  go_region_law
                    ((refine step_append_lies _ (by rfl) _ _ _ (by rfl) W1.heap.size 3 i0 _ 1 8 Try.underlying27 hi hz0' hz1' hz2' rfl (by omega) (.slice av L.length cv) L.length _ (by rfl) (HM.out.own.alloc _) ⟨wr.heap.size, 0, none⟩ 1 1 [.int .i64 (z + x)] (by rfl) (by rfl)
                        (World.news_of_block (cs := #[.int .i64 (z + x)]) (t := 3) (fr := (0, 0)) (heap_at _ _ _ (by simp))) (by simp [Value.oneCell']) (by omega) (by unfold maxLen; omega) (by omega) (by simp; omega) (wr.heap.size + 1) (by simp) ?_
                      intro gg cap2 w5 hown5 hgrow5 hat5 hlt5
                      obtain ⟨z0, z1, z2, y0, y1, y2⟩ := blk3 (HM.out.grown HBAL.out hgrow5)))
                  all_goals
                    go_wp2_with fail
                    go_meet
                    exact ⟨_, HM.out.push HBAL.out hgrow5 hown5⟩
                case rest =>
                  obtain ⟨nv, M⟩ := hcut
                  obtain ⟨nav, ncv, rfl⟩ := own_slice M.own
                  obtain ⟨e0, e1, e2, g0, g1, g2⟩ := blk3 M.cell
                  obtain ⟨b', o', c', ee, _, _, _, _, t0⟩ := (HVa.out.keep (fun q _ hq => M.out.block q hq.2) M.out.size).at_ HX.out
                  injection ee with ee _ ee2
                  injection ee with ee
                  injection ee with ee1 ee3 _
                  subst ee1 ee3
                  clear ee2 hw8 hms
                  have d6 : wc.drew.cell? ⟨X3, 2, none⟩ = some (.int .i64 dr) := e2
                  have d7 : wc.drew.cell? ⟨b, o + k, none⟩ = some (.int .i64 x) := t0
                  have d8 : wc.drew.frozen? ⟨X3, 2, none⟩ = false := g2
                  have HMc := Lib.hid M
                  clear e0 e1 e2 g0 g1 g2 t0 M d1 d2 d3 d4 d5
                  go_wp2_with fail
                  go_region_with (go_at_call 23; (refine (rleast_any d x _ ⟨hd1, hd2⟩ hx8).mono ?_); rintro e w7 ⟨rfl, hb7⟩; rw [← HLE.out]; obtain ⟨-, -, p2, -, -, p5⟩ := blk3 ((HMc.out.keep ((below_drew wc).trans hb7)).cell); have HB7 := Lib.hid ((below_drew wc).trans hb7); clear hb7)
                  all_goals
                    go_wp2_with fail
                    have R := HMc.out.drift HB7.out (if dr < le then le else dr)
                    rw [← HOU.out] at R
                    rw [← HMX.out, ← HNX.out] at R
                    rw [← HMX.out, ← HNX.out]
                    exact ⟨⟨k + 1, _, hk1, HCAST.out, R⟩, HMEAS.out⟩
              · obtain rfl : k = dl.length := by omega
                obtain ⟨c0, c1, c2, f0, f1, f2⟩ := blk3 M.cell
                obtain ⟨r0, r1, r2, s0, s1, s2⟩ := blk3 hX2w
                have hne : ¬ w.heap.size + 1 = X3 := by omega
                have hRow := IntsV.of_own M.own
                have HBend := Lib.hid (HBa.out.trans (M.out.mono (by omega)))
                have hsum : (c.tickR d dl) = ⟨nowU c.now dl dl.length, c.passed + d, driftU d dl c.drift dl.length⟩ := by unfold Ck.tickR; rw [if_pos HE.out]
                have HSUM := Lib.hid hsum
                have HROW := Lib.hid hRow
                clear hX1w hX2w M hsum hRow
                go_wp2_with fail
                refine bodyPost_ret (v := .tuple #[.agg #[.int .i64 (c.passed + d), .slice av (outU c.now dl dl.length).length cv, .int .i64 (driftU d dl c.drift dl.length)], .int .i64 0]) (by simp [results, Try.results14, go_sem, r0, r1, r2]) rfl ?_
                rw [HSUM.out, HE.out]
                refine ⟨av, _, cv, rfl, ?_, below3 HBend.out (by omega) _ _ _⟩
                have hI := HROW.out.keep (w' := ((wr.setCell ⟨w.heap.size + 1, 0, none⟩ (.int .i64 (c.passed + d))).setCell ⟨w.heap.size + 1, 1, none⟩ (.slice av (outU c.now dl dl.length).length cv)).setCell ⟨w.heap.size + 1, 2, none⟩ (.int .i64 (driftU d dl c.drift dl.length))) (fun q _ hq => set3 wr _ _ _ _ q (by omega)) (by simp [World.setCell])
                rw [outU_all _ _ HLEN.out] at hI ⊢
                exact hI.mono (fun q _ hq => Or.inr (by omega))
end Go.Proofs.Ytlcjkfikfnfneaa
