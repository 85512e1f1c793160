/- THE WALK of Tick. -/
import Derived.Test.YtlcjkfikfnfneaaCk
namespace Go.Proofs.Ytlcjkfikfnfneaa
open Go.RowKit

/-- What Tick does. -/
def TickPost (w : World) (p g : Nat) (c : Ck) (d : Int) (dl : List Int) (e : Ending) (w' : World) : Prop :=
  e = .returned (.int .i64 (c.tickE d dl)) ∧ CkAt w' p g (c.tickR d dl) ∧ Mod (Fpg p g) w w'
theorem tick_refused {w w' : World} {p g : Nat} {c : Ck} {d : Int} {dl : List Int} {n : Nat} (H : CkAt w p g c) (hn : c.tickE d dl = n) (h0 : n ≠ 0) (hb : w = w') : TickPost w p g c d dl (.returned (.int .i64 n)) w' := by
  subst hb
  refine ⟨by rw [hn], ?_, Mod.refl _ _⟩
  unfold Ck.tickR
  rw [if_neg (by rw [hn]; exact h0)]
  exact H
theorem nil_tick (d : Int) (dv : Value) (w : World) : Calls Try.prog 10 #[.pointer none, .int .i64 d, dv] w fun e w' => e = .returned (.int .i64 1) ∧ w = w' := by
  go_enter Try.func10, Try.ntmps10
  go_wp2_with fail
  go_ret
  exact ⟨rfl, rfl⟩

/-- In the midst of a tick that goes through: k clocks have been moved. -/
structure MidTick (w w' : World) (p g : Nat) (c : Ck) (d : Int) (dl : List Int) (k : Nat) : Prop where
  hp : w'.heap[p]? = some (.cells #[.slice (some ⟨g, 0, none⟩) c.now.length c.now.length, .int .i64 (c.passed + d), .int .i64 (driftU d dl c.drift k)] 48 (0, 0))
  hg : w'.heap[g]? = some (.cells ((nowU c.now dl k).map I8).toArray 3 (0, 0))
  mod : Mod (Fpg p g) w w'
theorem MidTick.below {w w' w2 : World} {p g : Nat} {c : Ck} {d : Int} {dl : List Int} {k : Nat} (h : MidTick w w' p g c d dl k) (hb : Below w'.heap.size w' w2) : MidTick w w2 p g c d dl k :=
  ⟨(hb.block p (lt_of_heap h.hp)).trans h.hp, (hb.block g (lt_of_heap h.hg)).trans h.hg, h.mod.below hb⟩
theorem nowU_get {now dl : List Int} {k : Nat} {x : Int} (hx : now[k]? = some x) : (nowU now dl k)[k]? = some x := by
  have hk := (List.getElem?_eq_some_iff.1 hx).1
  rw [nowU_at _ _ _ _ hk, if_neg (by omega), getD_of hx]

set_option maxRecDepth 100000 in
set_option maxHeartbeats 2000000 in
theorem tick_any (p g : Nat) (c : Ck) (d : Int) (D : Nat → Prop) (dl : List Int) (dv : Value) (w : World) (h : CkAt w p g c) (hf : c.Fit) (hd : I64 d) (hdl : ∀ (j : Nat) (x : Int), dl[j]? = some x → I64 x) (hv : IntsV D w dv dl) (hD : ¬ D p ∧ ¬ D g) :
    Calls Try.prog 10 #[.pointer (some ⟨p, 0, none⟩), .int .i64 d, dv] w (TickPost w p g c d dl) := by
  have H := Lib.hid h
  have HV := Lib.hid hv
  have HDL := Lib.hid hdl
  have HF := Lib.hid hf
  obtain ⟨c0, c1, c2, f0, f1, f2⟩ := h.cells
  obtain ⟨a, cp, rfl, hc, hcm, _⟩ := hv
  unfold maxLen at hcm
  obtain ⟨hd1, hd2⟩ := hd
  obtain ⟨hl1, hl8⟩ := hf.len
  obtain ⟨hp0, hp1⟩ := hf.passed
  obtain ⟨hr0, hr1⟩ := hf.drift
  clear hdl h hf
  by_cases hlen : dl.length = c.now.length
  case neg =>
    have hE : c.tickE d dl = 2 := by unfold Ck.tickE; rw [if_pos (Or.inl hlen)]
    have HE := Lib.hid hE
    have hln : ((dl.length : Int) != (c.now.length : Int)) = true := by rw [bne_iff_ne]; omega
    clear hE hlen
    go_enter Try.func10, Try.ntmps10
    go_wp2_with fail
    refine (len_any p g c w H.out).mono ?_
    rintro e w1 ⟨rfl, rfl⟩
    go_wp2_with fail
    go_ret
    exact tick_refused H.out HE.out (by decide) rfl
  by_cases hdn : d < 0
  · have hE : c.tickE d dl = 2 := by unfold Ck.tickE; rw [if_pos (Or.inr (Or.inl hdn))]
    have HE := Lib.hid hE
    have hln : ((dl.length : Int) != (c.now.length : Int)) = false := by rw [bne_eq_false_iff_eq]; omega
    clear hE hlen
    go_enter Try.func10, Try.ntmps10
    go_wp2_with fail
    refine (len_any p g c w H.out).mono ?_
    rintro e w1 ⟨rfl, rfl⟩
    go_wp2_with fail
    go_ret
    exact tick_refused H.out HE.out (by decide) rfl
  have hln : ((dl.length : Int) != (c.now.length : Int)) = false := by rw [bne_eq_false_iff_eq]; omega
  cases hng : negU dl dl.length with
  | true =>
    have hE : c.tickE d dl = 2 := by unfold Ck.tickE; rw [if_pos (Or.inr (Or.inr hng))]
    have HE := Lib.hid hE
    have HNG := Lib.hid hng
    clear hE hlen hng
    go_enter Try.func10, Try.ntmps10
    go_wp2_with fail
    refine (len_any p g c w H.out).mono ?_
    rintro e w1 ⟨rfl, rfl⟩
    go_wp2_with fail
    refine (contains_any D dl _ w HV.out).mono ?_
    rintro e w1 ⟨rfl, rfl⟩
    rw [HNG.out]
    go_wp2_with fail
    go_ret
    exact tick_refused H.out HE.out (by decide) rfl
  | false =>
    have HNG := Lib.hid hng
    obtain ⟨b0, hb0⟩ : ∃ b0, b0 = decide (1152921504606846976 - c.passed < d) := ⟨_, rfl⟩
    have hE : c.tickE d dl = if lateU c.now dl b0 dl.length = true then 30 else 0 := by
      unfold Ck.tickE
      rw [if_neg (by rintro (h | h | h); exact h hlen; exact hdn h; rw [hng] at h; cases h), ← hb0]
    have HE := Lib.hid hE
    have HB0 := Lib.hid hb0
    have HLEN := Lib.hid hlen
    clear hE hng hb0 hlen
    go_enter Try.func10, Try.ntmps10
    go_wp2_with fail
    refine (len_any p g c w H.out).mono ?_
    rintro e w1 ⟨rfl, rfl⟩
    go_wp2_with fail
    refine (contains_any D dl _ w HV.out).mono ?_
    rintro e w1 ⟨rfl, rfl⟩
    rw [HNG.out]
    go_wp2_with fail
    go_loop [7, 36] (fun lt i => ∃ (k : Nat) (b : Bool), k ≤ dl.length ∧ i = .int .i64 k ∧ lt = .bool b ∧ Hid (b = lateU c.now dl b0 k)) (fun _ i => dl.length - (intOf i).toNat)
    case atStart => exact ⟨0, b0, by omega, rfl, by rw [HB0.out], Lib.hid rfl⟩
    case round =>
      obtain ⟨k, b, hk, rfl, rfl, HL⟩ := hrel
      by_cases hlt : k < dl.length
      · obtain ⟨x, hx⟩ : ∃ x, dl[k]? = some x := ⟨_, List.getElem?_eq_getElem hlt⟩
        obtain ⟨z, hz⟩ : ∃ z, c.now[k]? = some z := ⟨_, List.getElem?_eq_getElem (by rw [← HLEN.out]; exact hlt)⟩
        obtain ⟨bb, o, c', e1, _, _, hb, _, t0⟩ := HV.out.at_ hx
        injection e1 with e1 _ e2
        subst e1 e2
        obtain ⟨t1, ft1⟩ := H.out.time hz
        obtain ⟨hz0, hz1⟩ := HF.out.now k z hz
        obtain ⟨hx0, hx1⟩ := HDL.out k x hx
        have k0 : (0 : Int) ≤ (k : Int) := by omega
        have k1 : (k : Int) < (dl.length : Int) := by omega
        have k2 : (k : Int) < (c.now.length : Int) := by rw [← HLEN.out]; exact k1
        have hnext : lateU c.now dl b0 (k + 1) = (b || decide (1152921504606846976 - z < x)) := by simp only [lateU]; rw [HL.out, getD_of hx, getD_of hz]
        have HNX := Lib.hid hnext
        clear hx hz hnext
        cases b with
        | true =>
          have HNX2 := Lib.hid (HNX.out.trans (Bool.true_or _))
          go_wp2_with fail
          exact ⟨⟨k + 1, true, by omega, by push_cast; rfl, rfl, Lib.hid HNX2.out.symm⟩, by simp only [intOf]; omega⟩
        | false =>
          have HNX2 := Lib.hid (HNX.out.trans (Bool.false_or _))
          go_wp2_with fail
          exact ⟨⟨k + 1, _, by omega, by push_cast; rfl, rfl, Lib.hid HNX2.out.symm⟩, by simp only [intOf]; omega⟩
      · obtain rfl : k = dl.length := by omega
        cases b with
        | true =>
          have hE2 : c.tickE d dl = 30 := by rw [HE.out, ← HL.out]; rfl
          have HE2 := Lib.hid hE2
          clear hE2
          go_wp2_with fail
          go_ret
          exact tick_refused H.out HE2.out (by decide) rfl
        | false =>
          have hE2 : c.tickE d dl = 0 := by rw [HE.out, ← HL.out]; rfl
          have HT := Lib.hid (Ck.tick0 hE2)
          have HE2 := Lib.hid hE2
          have hdM := HT.out.dM
          have hdn2 : decide (d < 0) = false := decide_eq_false (by omega)
          have hdm2 : decide (1152921504606846976 - c.passed < d) = false := decide_eq_false (by omega)
          have hpg : ¬ p = g := H.out.ne
          have hgp : ¬ g = p := fun e => H.out.ne e.symm
          clear hE2
          go_wp2_with fail
          clear c0 c1 c2 f0 f1 f2
          go_loopw [67] (fun i wr => ∃ k : Nat, k ≤ dl.length ∧ i = .int .i64 k ∧ MidTick w wr p g c d dl k) (fun i _ => dl.length - (intOf i).toNat)
          case atStart => exact ⟨0, by omega, rfl, by rw [blk_set H.out.hp 1 _]; rfl, (blk_far H.out.hg (fun e => hgp e) _), (Mod.refl _ _).setCell (fun _ => Or.inl rfl) _⟩
          case round =>
            obtain ⟨k, hk, rfl, M⟩ := hrel
            have HM := Lib.hid M
            by_cases hlt : k < dl.length
            · obtain ⟨x, hx⟩ : ∃ x, dl[k]? = some x := ⟨_, List.getElem?_eq_getElem hlt⟩
              obtain ⟨z, hz⟩ : ∃ z, c.now[k]? = some z := ⟨_, List.getElem?_eq_getElem (by rw [← HLEN.out]; exact hlt)⟩
              obtain ⟨bb, o, c', e1, _, _, hb, _, t0⟩ := (HV.out.mod M.mod (fun q hq hq2 hF => by rcases hF with rfl | rfl; exact hD.1 hq2; exact hD.2 hq2)).at_ hx
              injection e1 with e1 _ e2
              subst e1 e2
              obtain ⟨c0, c1, c2, f0, f1, f2⟩ := blk3 M.hp
              have t1 : wr.cell? ⟨g, k, none⟩ = some (.int .i64 z) := (blk_cell M.hg k).trans (by simp [nowU_get hz, I8])
              have ft1 : wr.frozen? ⟨g, k, none⟩ = false := blk_free M.hg k
              obtain ⟨hz0, hz1⟩ := HF.out.now k z hz
              have hx0 := HT.out.a0 k hlt
              have hx1 := HT.out.aM k hlt
              rw [getD_of hx] at hx0 hx1
              rw [getD_of hz] at hx1
              have k0 : (0 : Int) ≤ (k : Int) := by omega
              have k1 : (k : Int) < (dl.length : Int) := by omega
              have k2 : (k : Int) < (c.now.length : Int) := by rw [← HLEN.out]; exact k1
              have hdr := driftU_bd (d := d) (dl := dl) (m := c.drift) ⟨hr0, hr1⟩ k
              have hle := T3.leastT_bd d x
              have hnx : driftU d dl c.drift (k + 1) = max (driftU d dl c.drift k) (T3.leastT d x) := by simp only [driftU]; rw [getD_of hx]
              have hnw : nowU c.now dl (k + 1) = (nowU c.now dl k).set k (z + x) := by simp only [nowU]; rw [getD_of hx, getD_of hz]
              obtain ⟨dr, hdrE⟩ : ∃ dr, dr = driftU d dl c.drift k := ⟨_, rfl⟩
              obtain ⟨le, hleE⟩ : ∃ le, le = T3.leastT d x := ⟨_, rfl⟩
              rw [← hdrE] at c2 hdr hnx
              rw [← hleE] at hle hnx
              have HNX := Lib.hid hnx
              have HNW := Lib.hid hnw
              have HDR := Lib.hid hdrE
              have HLE := Lib.hid hleE
              clear hx hz hnx hnw hdrE hleE M
              go_wp2_with fail
              obtain ⟨W1, hW1⟩ : ∃ W1, W1 = wr.setCell ⟨g, k, none⟩ (.int .i64 (z + x)) := ⟨_, rfl⟩
              rw [← hW1]
              have P1 : W1.heap[p]? = some (.cells #[.slice (some ⟨g, 0, none⟩) c.now.length c.now.length, .int .i64 (c.passed + d), .int .i64 dr] 48 (0, 0)) := by
                rw [hW1, HDR.out]; exact blk_far HM.out.hp (fun e => hpg e) _
              have G1 : W1.heap[g]? = some (.cells ((nowU c.now dl (k + 1)).map I8).toArray 3 (0, 0)) := by
                rw [hW1, blk_set HM.out.hg k _, HNW.out, List.map_set]; simp [I8]
              have M1 : Mod (Fpg p g) w W1 := by rw [hW1]; exact HM.out.mod.setCell (fun _ => Or.inr rfl) _
              have d2 : W1.drew.cell? ⟨p, 2, none⟩ = some (.int .i64 dr) := (blk3 P1).2.2.1
              have e2 : W1.drew.frozen? ⟨p, 2, none⟩ = false := (blk3 P1).2.2.2.2.2
              have HP1 := Lib.hid P1
              have HG1 := Lib.hid G1
              have HM1 := Lib.hid M1
              clear c0 c1 c2 f0 f1 f2 t0 t1 ft1 hW1 P1 G1 M1
              go_region_with (go_at_call 21; (refine (least_any d x _ ⟨hd1, hd2⟩ ⟨by omega, by omega⟩).mono ?_); rintro e w2 ⟨rfl, hb2⟩; rw [← HLE.out]; have P2 := (hb2.block p (lt_of_heap HP1.out)).trans HP1.out; have HG2 := Lib.hid ((hb2.block g (lt_of_heap HG1.out)).trans HG1.out); have HM2 := Lib.hid (HM1.out.drew.below hb2); obtain ⟨-, -, d2', -, -, e2'⟩ := blk3 P2; have HP2 := Lib.hid P2; clear P2 hb2)
              all_goals
                go_wp2_with fail
                refine ⟨⟨k + 1, by omega, by push_cast; rfl, ?_, ?_, ?_⟩, by simp only [intOf]; omega⟩
                · rw [blk_set HP2.out 2 _, HNX.out, show max dr le = (if dr < le then le else dr) from by split <;> omega]; rfl
                · exact blk_far HG2.out (fun e => hgp e) _
                · exact HM2.out.setCell (fun _ => Or.inl rfl) _
            · obtain rfl : k = dl.length := by omega
              go_wp2_with fail
              go_ret
              refine ⟨by rw [HE2.out]; rfl, ?_, HM.out.mod⟩
              unfold Ck.tickR
              rw [if_pos HE2.out]
              refine ⟨?_, HM.out.hg, H.out.ne⟩
              simpa [nowU_length] using HM.out.hp
end Go.Proofs.Ytlcjkfikfnfneaa
