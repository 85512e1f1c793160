/- THE WALK of ClocksForth. -/
import Derived.Test.YtlcjkfikfnfneaaWake
import Derived.Test.YtlcjkfikfnfneaaOpenMv
import Derived.Deep.QuietTactic
import Derived.BigQuiet
namespace Go.Proofs.Ytlcjkfikfnfneaa
open Go.RowKit

theorem now_q {w0 w : World} {p g : Nat} {c : Ck} (h : Cs w0 p g c w) (i : Int) (n : Nat) : Calls Try.prog 11 #[.pointer (some ⟨p, 0, none⟩), .int .i64 i] (w.drewN n) fun e w' => e = .returned (.int .i64 (c.at_ i)) ∧ ∃ k, w' = w.drewN k :=
  (now_any p g c i _ (h.drewN n).at_).mono fun _ _ ⟨h1, h2⟩ => ⟨h1, n, h2.symm⟩
theorem empty_ints (w : World) : (w.alloc (.cells #[] 3)).ownsRow w.heap.size 3 1 (.slice (some ⟨w.heap.size, 0, none⟩) 0 0) 0 [] := by
  have := World.ownsRow_made (base := w.heap.size) (e := 3) (size := 1) w #[] 0 (Nat.le_refl _) (by decide) rfl
  simpa using this
theorem Ck.at_of {c : Ck} {k : Nat} {x : Int} (h : c.now[k]? = some x) : c.at_ (k : Int) = x := by
  have := (List.getElem?_eq_some_iff.1 h).1
  unfold Ck.at_
  rw [if_neg (by omega), Int.toNat_natCast]
  exact getD_of h
theorem driftU_ge (d : Int) (dl : List Int) (m : Int) : ∀ k, m ≤ driftU d dl m k
  | 0 => by simp [driftU]
  | k + 1 => by have := driftU_ge d dl m k; simp only [driftU]; omega
/-- A copy of ints: append([]int{}, l...). -/
theorem copied_ints {w w3 : World} {v : Value} {n : Nat} {l : List Int} (ho : w3.ownsRow w.heap.size 3 1 v n (l.map I8)) (hg : (w.alloc (.cells #[] 3)).grownBy w3 (some w.heap.size)) : IntsV (fun k => w.heap.size ≤ k) w3 v l ∧ Below w.heap.size w w3 :=
  ⟨IntsV.of_own ho, ((Below.refl _ _).alloc (Nat.le_refl _) _).grown hg (by simp) (by intro k hk; injection hk with hk; omega)⟩
/-- The step in one. -/
structure Went (c c' : Ck) (a : Int) (b : Nat → Int) (m : Nat) : Prop where
  passed : c'.passed = c.passed + a
  drift : c.drift ≤ c'.drift
  now : ∀ (k : Nat) (x : Int), c.now[k]? = some x → c'.now[k]? = some (x + b k)
theorem went_ok {c : Ck} {d : Int} {dl : List Int} (h : c.tickE d dl = 0) : Went c (c.tickR d dl) d (fun k => dl.getD k 0) c.now.length ∧ (c.tickR d dl).now.length = c.now.length := by
  have h0 := Ck.tick0 h
  unfold Ck.tickR
  rw [if_pos h]
  refine ⟨⟨rfl, driftU_ge _ _ _ _, fun k x hx => ?_⟩, nowU_length _ _ _⟩
  have hk := (List.getElem?_eq_some_iff.1 hx).1
  show (nowU c.now dl dl.length)[k]? = _
  rw [nowU_at _ _ _ _ hk, if_pos (by rw [h0.len]; exact hk), getD_of hx]
theorem went_no {c : Ck} {d : Int} {dl : List Int} (h : c.tickE d dl ≠ 0) : c.tickR d dl = c := by
  unfold Ck.tickR
  rw [if_neg h]

theorem blk2 {w : World} {g : Nat} {a b : Value} {t : TypeId} (h : w.heap[g]? = some (.cells #[a, b] t (0, 0))) : w.cell? ⟨g, 0, none⟩ = some a ∧ w.cell? ⟨g, 1, none⟩ = some b ∧ w.frozen? ⟨g, 0, none⟩ = false ∧ w.frozen? ⟨g, 1, none⟩ = false := ⟨blk_cell h 0, blk_cell h 1, blk_free h 0, blk_free h 1⟩
theorem now_qe {w0 w : World} {p g : Nat} {c : Ck} (h : Cs w0 p g c w) (i : Int) (n : Nat) {x : Int} (hx : c.at_ i = x) : Calls Try.prog 11 #[.pointer (some ⟨p, 0, none⟩), .int .i64 i] (w.drewN n) fun e w' => e = .returned (.int .i64 x) ∧ ∃ k, w' = w.drewN k := hx ▸ now_q h i n
/-- What stands when the tick has been made. -/
structure Aft (w1 w8 : World) (p g X B : Nat) (c' : Ck) (O : Obj) (D : Nat → Prop) (dv av : Value) (dl : List Int) (m : Nat) (now : List Int) : Prop where
  cs : Cs w1 p g c' w8
  box : w8.heap[X]? = some O
  dl : IntsV D w8 dv dl
  all : w8.ownsRow B 3 1 av m (now.map I8)
theorem Aft.keep {w1 w8 w9 : World} {p g X B : Nat} {c' : Ck} {O : Obj} {D : Nat → Prop} {dv av : Value} {dl : List Int} {m : Nat} {now : List Int} (h : Aft w1 w8 p g X B c' O D dv av dl m now) (hb : Below w8.heap.size w8 w9) : Aft w1 w9 p g X B c' O D dv av dl m now :=
  ⟨h.cs.keep hb, (hb.block X (lt_of_heap h.box)).trans h.box, h.dl.below hb, ownsRow_keep h.all (fun k hk => hb.block k (h.all.lt k hk).2)⟩
theorem Aft.mk' {w1 ws w7 w8 : World} {p g X B : Nat} {c' : Ck} {O : Obj} {D : Nat → Prop} {dv av : Value} {dl : List Int} {m : Nat} {now : List Int} (hcs : Cs w1 p g c' w8) (hX : ws.heap[X]? = some O) (hdl : IntsV D ws dv dl) (hall : ws.ownsRow B 3 1 av m (now.map I8))
    (h7 : Below ws.heap.size ws w7) (h8 : Mod (Fpg p g) w7 w8) (hpX : p < X ∧ g < X) (hXB : X < B) (hD : ¬ D p ∧ ¬ D g) : Aft w1 w8 p g X B c' O D dv av dl m now := by
  have hs := h7.size
  refine ⟨hcs, ?_, (hdl.below h7).mod h8 (fun k _ hk hF => by rcases hF with rfl | rfl; exact hD.1 hk; exact hD.2 hk), ownsRow_keep hall (fun k hk => ?_)⟩
  · have hl := lt_of_heap hX
    exact ((h8.block X (by omega) (by rintro (e | e) <;> omega)).trans (h7.block X hl)).trans hX
  · obtain ⟨h1, h2⟩ := hall.lt k hk
    exact (h8.block k (by omega) (by rintro (e | e) <;> omega)).trans (h7.block k h2)

set_option maxRecDepth 100000 in
set_option maxHeartbeats 4000000 in
theorem clocksForth_any (n : Int) (l : List Mv) (v : Value) (w : World) (hv : MovesIn w v l) (hl : l.length ≤ 140737488355328) :
    Calls Try.prog 5 #[.int .i64 n, v] w fun e w' => e = .returned (.bool true) ∧ Below w.heap.size w w' := by
  obtain ⟨i0, hi, hz0, hz1, hz2⟩ := info_parts Try.info3
  have HV := Lib.hid hv
  obtain ⟨va, vc, rfl, hvc, hvm, _⟩ := hv
  unfold maxLen at hvm
  by_cases hn : 1 ≤ n ∧ n ≤ 8
  case neg =>
    rcases (show n < 1 ∨ (¬ n < 1 ∧ 8 < n) from by omega) with h1 | ⟨h1, h2⟩
    all_goals
      go_enter Try.func5, Try.ntmps5
      go_wp2_with fail
      refine (awake_any w).mono ?_
      rintro e w1 ⟨rfl, hb1⟩
      go_wp2_with fail
      refine (new_no n w1 hn).mono ?_
      rintro e w2 ⟨rfl, rfl⟩
      clear hn
      go_wp2_with fail
      go_ret
      exact ⟨rfl, hb1⟩
  obtain ⟨m, rfl⟩ : ∃ m : Nat, n = m := ⟨n.toNat, by omega⟩
  have HNM := Lib.hid hn
  obtain ⟨hn1, hn8⟩ := hn
  go_enter Try.func5, Try.ntmps5
  go_wp2_with fail
  refine (awake_any w).mono ?_
  rintro e w1 ⟨rfl, hb1⟩
  have HB1 := Lib.hid hb1
  go_wp2_with fail
  refine (new_ok m w1 HNM.out).mono ?_
  rintro e w2 ⟨p, g, rfl, C1, hp, hg, hb⟩
  have H2 := Lib.hid (Cs.of_new HNM.out C1 hp hg hb)
  clear C1 hp hg hb hb1
  go_wp2_with fail
  go_loopw [46] (fun i wr => ∃ (j : Nat) (c : Ck), j ≤ l.length ∧ i = .int .i64 j ∧ Hid (c.now.length = m) ∧ Cs w1 p g c wr) (fun i _ => l.length - (intOf i).toNat)
  case atStart => exact ⟨0, _, by omega, rfl, Lib.hid (by simp [Ck.start]), H2.out⟩
  case round =>
    obtain ⟨j, c, hj, rfl, HM, T⟩ := hrel
    obtain ⟨wo, rfl⟩ : ∃ wo : World, wo = wr := ⟨_, rfl⟩
    have HT := Lib.hid T
    have hBw := HB1.out.trans (T.out.mono HB1.out.size)
    have HBw := Lib.hid hBw
    clear T H2
    by_cases hlt : j < l.length
    · obtain ⟨q, hq⟩ : ∃ q, l[j]? = some q := ⟨_, List.getElem?_eq_getElem hlt⟩
      obtain ⟨b', o, c1, dv, e1, _, _, hbs, t0, t1, hm⟩ := HV.out.at_ hq
      injection e1 with e1 _ e2
      subst e1 e2
      have HI := Lib.hid (hm.dl.old.below hBw)
      have HMV := Lib.hid hm
      obtain ⟨da, dc, rfl, hdc, hdm, _⟩ := hm.dl
      unfold maxLen at hdm
      have p0 := (hBw.cell (p := ⟨b', o + j * 2, none⟩) hbs).trans t0
      have p1 := (hBw.cell (p := ⟨b', o + j * 2 + 1, none⟩) hbs).trans t1
      have k0 : (0 : Int) ≤ (j : Int) := by omega
      have k1 : (j : Int) < (l.length : Int) := by omega
      clear t0 t1 hq hm hBw hbs
      go_wp2_with fail
      obtain ⟨X, hX⟩ : ∃ X, X = wo.heap.size := ⟨_, rfl⟩
      obtain ⟨W0, hW0⟩ : ∃ W0, W0 = wo.alloc (.cells #[.int .i64 q.d, .slice da q.dl.length dc] 37) := ⟨_, rfl⟩
      rw [← hW0, ← hX]
      have T0 : Cs w1 p g c W0 := by rw [hW0]; exact HT.out.box _
      have HX0 : Hid (W0.heap[X]? = some (.cells #[.int .i64 q.d, .slice da q.dl.length dc] 37 (0, 0))) := Lib.hid (by rw [hW0]; exact heap_at _ _ _ hX)
      have HI0 : Hid (IntsV (fun k => True ∧ k < w.heap.size) W0 (.slice da q.dl.length dc) q.dl) := Lib.hid (by rw [hW0]; exact HI.out.below ((Below.refl _ _).alloc (Nat.le_refl _) _))
      have hpX : p < X ∧ g < X := by rw [hX]; exact HT.out.at_.lt
      have hDpg : ¬ (True ∧ p < w.heap.size) ∧ ¬ (True ∧ g < w.heap.size) := by have h1 := HB1.out.size; have h2 := HT.out.new; omega
      have HT0 := Lib.hid T0
      have hXl : X < W0.heap.size := lt_of_heap HX0.out
      clear T0 hX hW0 p0 p1
      refine (true_any p g c W0 HT0.out.at_).mono ?_
      rintro e w3 ⟨rfl, rfl⟩
      go_wp2_with fail
      refine (drift_any p g c W0 HT0.out.at_).mono ?_
      rintro e w3 ⟨rfl, rfl⟩
      go_wp2_with fail
      go_loopw [11, 12] (fun x i ws => ∃ k : Nat, k ≤ m ∧ i = .int .i64 k ∧ ws.ownsRow W0.heap.size 3 1 x k ((c.now.take k).map I8) ∧ Below W0.heap.size W0 ws) (fun _ i _ => m - (intOf i).toNat)
      case atStart => exact ⟨0, by omega, rfl, World.ownsRow_nil _ _ _ _, Below.refl _ _⟩
      case round =>
        obtain ⟨k, hk, rfl, hown, hB⟩ := hrel
        obtain ⟨ax, cx, rfl⟩ := own_slice hown
        have HO := Lib.hid hown
        have hs := hB.size
        have HTs := Lib.hid (HT0.out.keep hB)
        by_cases hkm : k < m
        · obtain ⟨z, hz⟩ : ∃ z, c.now[k]? = some z := ⟨_, List.getElem?_eq_getElem (by rw [HM.out]; exact hkm)⟩
          have htk : c.now.take (k + 1) = c.now.take k ++ [z] := by rw [List.take_add_one, hz]; rfl
          have HTK := Lib.hid htk
          have HZ := Lib.hid (Ck.at_of hz)
          have HB := Lib.hid hB
          clear hown hz htk hB
          go_wp2_with fail
          refine (now_any p g c k _ HTs.out.at_).mono ?_
          rintro e w4 ⟨he, rfl⟩
          rw [HZ.out] at he
          subst he
          go_wp2_with (at_builtin; refine wpList_append_lies _ rfl (.tmp 59) (.tmp 63) _ rfl W0.heap.size 3 i0 _ 1 8 Try.underlying27 hi hz0 hz1 hz2 rfl (by omega) (.slice ax k cx) k _ rfl (HO.out.alloc _) ⟨wr.heap.size, 0, none⟩ 1 1 [.int .i64 z] rfl rfl (World.news_of_block (cs := #[.int .i64 z]) (t := 3) (fr := (0, 0)) (heap_at _ _ _ rfl)) (by simp [Value.oneCell']) (by omega) (by unfold maxLen; omega) (by omega) (by simp; omega) (wr.heap.size + 1) (by simp) ?_; intro g3 cap3 w5 hown3 hgrow3 hat3 hlt3)
          refine ⟨⟨k + 1, by omega, by push_cast; rfl, ?_, (HB.out.alloc hs _).grown hgrow3 (by simp; omega) (fun q hq => (HO.out.lt q hq).1)⟩, by simp only [intOf]; omega⟩
          rw [HTK.out, List.map_append]
          exact hown3
        · obtain rfl : m = k := by omega
          have hall : wr.ownsRow W0.heap.size 3 1 (.slice ax m cx) m (c.now.map I8) := by
            have := HO.out
            rw [List.take_of_length_le (by rw [HM.out]; exact Nat.le_refl _)] at this
            exact this
          have HA := Lib.hid hall
          have HIs := Lib.hid (HI0.out.below hB)
          have HXs := Lib.hid ((hB.block X (lt_of_heap HX0.out)).trans HX0.out)
          obtain ⟨x0, x1, -, -⟩ := blk2 HXs.out
          have x0d : wr.drew.cell? ⟨X, 0, none⟩ = some (.int .i64 q.d) := x0
          have x1d : wr.drew.cell? ⟨X, 1, none⟩ = some (.slice da q.dl.length dc) := x1
          have x0a : (wr.alloc (.cells #[] 3)).drew.cell? ⟨X, 0, none⟩ = some (.int .i64 q.d) := (blk2 (blk_alloc HXs.out _)).1
          have x1a : (wr.alloc (.cells #[] 3)).drew.cell? ⟨X, 1, none⟩ = some (.slice da q.dl.length dc) := (blk2 (blk_alloc HXs.out _)).2.1
          have hXB := hXl
          have hlen8 := Nat.le_trans HMV.out.len reach_le
          have T := HTs.out
          clear hown hB hall x0 x1 HO
          by_cases hE : c.tickE q.d q.dl = 0
          · skip
            have hW := went_ok hE
            obtain ⟨c', hc'⟩ : ∃ c', c' = c.tickR q.d q.dl := ⟨_, rfl⟩
            rw [← hc'] at hW
            have h0 := Ck.tick0 hE
            have hd0 := h0.d0
            have hdM := h0.dM
            have hnl : ((q.dl.length : Int) != (m : Int)) = false := by rw [bne_eq_false_iff_eq, h0.len, HM.out]
            have HW := Lib.hid hW.1
            have HWL := Lib.hid (hW.2.trans HM.out)
            have HH0 := Lib.hid h0
            have hdr := hW.1.drift
            have HC' := Lib.hid hc'
            have HE := Lib.hid hE
            have hps := T.fit.passed
            have hq1 : decide (1152921504606846976 < c.passed + q.d) = false := decide_eq_false (by omega)
            have hq2 : decide (q.d < 0) = false := decide_eq_false (by omega)
            have hq3 : decide (c'.drift < c.drift) = false := decide_eq_false (by omega)
            clear hW h0 hc' hE T
            go_wp2_with fail
            go_region_held_law (fun y => y.cell? ⟨X, 0, none⟩ = some (.int .i64 q.d) ∧ y.cell? ⟨X, 1, none⟩ = some (.slice da q.dl.length dc)) (first | exact ⟨by assumption, by assumption⟩ | go_keep) (first
              | (refine step_append_ints rfl (.tmp 68) (.tmp 70) _ rfl _ 3 i0 Try.underlying27 hi hz0 hz1 hz2 _ 0 [] rfl (empty_ints _) _ _ q.dl rfl (HIs.out.below (((below_drew wr)).alloc (Nat.le_refl _) _)) (by omega) (by simp) ?_; intro v7 w7 hown7 hgrow7 hat7; rw [Nat.zero_add, List.nil_append] at hown7; obtain ⟨a7, c7, rfl⟩ := own_slice hown7; have hcp := copied_ints (w := wr.drew) hown7 hgrow7; have I7 := Lib.hid hcp.1; have B7 := Lib.hid hcp.2; have H7 := Lib.hid (HTs.out.drew.keep hcp.2); have hX7 := (hcp.2.block X (lt_of_heap HXs.out)).trans HXs.out; obtain ⟨f0, f1, -, -⟩ := blk2 hX7; clear hown7 hgrow7 hat7 hcp hX7)
              | (go_at_call 10; (refine (cs_tick H7.out q.d HMV.out.dok HMV.out.lok I7.out (by have := HTs.out.at_.lt; exact ⟨fun h => by have h2 : wr.heap.size ≤ p := h; omega, fun h => by have h2 : wr.heap.size ≤ g := h; omega⟩)).mono ?_); rintro e w8 ⟨he8, T8, hm8⟩; replace he8 : e = .returned (.int .i64 0) := he8.trans (by rw [HE.out]; rfl); subst he8; rw [← HC'.out] at T8; have A8 := Aft.mk' T8 HXs.out HIs.out HA.out ((below_drew wr).trans B7.out) hm8 hpX hXB hDpg; obtain ⟨g0, g1, -, -⟩ := blk2 A8.box; have HA8 := Lib.hid A8; clear T8 hm8 A8))
            all_goals
              have hfit := HA8.out.cs.fit.passed
              go_wp2_with fail
              refine (true_any p g _ w8 HA8.out.cs.at_).mono ?_
              rintro e w9 ⟨he, rfl⟩; rw [HW.out.passed] at he; subst he
              go_wp2_with fail
              refine (true_any p g _ w8 HA8.out.cs.at_).mono ?_
              rintro e w9 ⟨he, rfl⟩; rw [HW.out.passed] at he; subst he
              go_wp2_with fail
              refine (drift_any p g _ w8 HA8.out.cs.at_).mono ?_
              rintro e w9 ⟨rfl, rfl⟩
              go_wp2_with fail
              go_loopw [121] (fun i wt => ∃ k : Nat, k ≤ m ∧ i = .int .i64 k ∧ Below w8.heap.size w8 wt) (fun i _ => m - (intOf i).toNat)
              case atStart => exact ⟨0, by omega, rfl, Below.refl _ _⟩
              case round =>
                obtain ⟨k, hk, rfl, hB⟩ := hrel
                have HA9 := Lib.hid (HA8.out.keep hB)
                have HB9 := Lib.hid hB
                clear hB
                by_cases hkm : k < m
                · obtain ⟨z, hz⟩ : ∃ z, c.now[k]? = some z := ⟨_, List.getElem?_eq_getElem (by rw [HM.out]; exact hkm)⟩
                  obtain ⟨gb, go_, gc, e1, _, _, _, _, z0⟩ := (IntsV.of_own HA9.out.all).at_ hz
                  injection e1 with e1 en e2
                  clear en
                  subst e1 e2
                  have k0 : (0 : Int) ≤ (k : Int) := by omega
                  have k1 : (k : Int) < (m : Int) := by omega
                  obtain ⟨i0', i1', -, -⟩ := blk2 HA9.out.box
                  have hzb := HTs.out.fit.now k z hz
                  obtain ⟨y, hy⟩ : ∃ y, q.dl[k]? = some y := ⟨_, List.getElem?_eq_getElem (by rw [HH0.out.len, HM.out]; exact hkm)⟩
                  obtain ⟨hb, ho, hc, e1, _, _, _, _, y0⟩ := HA9.out.dl.at_ hy
                  injection e1 with e1 _ e2
                  subst e1 e2
                  have hy0 := HH0.out.a0 k (List.getElem?_eq_some_iff.1 hy).1
                  have hyM := HH0.out.aM k (List.getElem?_eq_some_iff.1 hy).1
                  have hat := Ck.at_of (HW.out.now k z hz)
                  rw [getD_of hy] at hy0 hyM hat
                  rw [getD_of hz] at hyM
                  have k2 : (k : Int) < (q.dl.length : Int) := by rw [HH0.out.len, HM.out]; exact k1
                  have HAT := Lib.hid hat
                  have hwr : IntKind.i64.wrap (z + y) = z + y := IntWalk.i64_in _ (by omega)
                  have hng : decide (y < 0) = false := decide_eq_false (by omega)
                  clear hz hy hat
                  go_wp2_with fail
                  go_quiet (first | (go_at_call 11; exact now_qe HA9.out.cs _ _ HAT.out))
                  go_wp2_with fail
                  exact ⟨⟨k + 1, by omega, by push_cast; rfl, HB9.out.trans ((below_drewN _ _).mono HB9.out.size)⟩, by simp only [intOf]; omega⟩
                · go_wp2_with fail
                  exact ⟨⟨j + 1, c', by omega, by push_cast; rfl, HWL, HA9.out.cs⟩, by simp only [intOf]; omega⟩
          · skip
            have hW := went_no hE
            have hE1 : ((c.tickE q.d q.dl : Int) == 0) = false := by rw [beq_eq_false_iff_ne]; omega
            have hE2 : ((c.tickE q.d q.dl : Int) != 0) = true := by rw [bne_iff_ne]; omega
            have HW := Lib.hid hW
            have hps := T.fit.passed
            have hq1 : decide (1152921504606846976 < c.passed) = false := decide_eq_false (by omega)
            clear hW hE T
            go_wp2_with fail
            go_region_held_law (fun y => y.cell? ⟨X, 0, none⟩ = some (.int .i64 q.d) ∧ y.cell? ⟨X, 1, none⟩ = some (.slice da q.dl.length dc)) (first | exact ⟨by assumption, by assumption⟩ | go_keep) (first
              | (refine step_append_ints rfl (.tmp 68) (.tmp 70) _ rfl _ 3 i0 Try.underlying27 hi hz0 hz1 hz2 _ 0 [] rfl (empty_ints _) _ _ q.dl rfl (HIs.out.below (((below_drew wr)).alloc (Nat.le_refl _) _)) (by omega) (by simp) ?_; intro v7 w7 hown7 hgrow7 hat7; rw [Nat.zero_add, List.nil_append] at hown7; obtain ⟨a7, c7, rfl⟩ := own_slice hown7; have hcp := copied_ints (w := wr.drew) hown7 hgrow7; have I7 := Lib.hid hcp.1; have B7 := Lib.hid hcp.2; have H7 := Lib.hid (HTs.out.drew.keep hcp.2); have hX7 := (hcp.2.block X (lt_of_heap HXs.out)).trans HXs.out; obtain ⟨f0, f1, -, -⟩ := blk2 hX7; clear hown7 hgrow7 hat7 hcp hX7)
              | (go_at_call 10; (refine (cs_tick H7.out q.d HMV.out.dok HMV.out.lok I7.out (by have := HTs.out.at_.lt; exact ⟨fun h => by have h2 : wr.heap.size ≤ p := h; omega, fun h => by have h2 : wr.heap.size ≤ g := h; omega⟩)).mono ?_); rintro e w8 ⟨rfl, T8, hm8⟩; rw [HW.out] at T8; have A8 := Aft.mk' T8 HXs.out HIs.out HA.out ((below_drew wr).trans B7.out) hm8 hpX hXB hDpg; obtain ⟨g0, g1, -, -⟩ := blk2 A8.box; have HA8 := Lib.hid A8; clear T8 hm8 A8))
            all_goals
              have hfit := HA8.out.cs.fit.passed
              go_wp2_with fail
              refine (true_any p g _ w8 HA8.out.cs.at_).mono ?_
              rintro e w9 ⟨rfl, rfl⟩
              go_wp2_with fail
              refine (true_any p g _ w8 HA8.out.cs.at_).mono ?_
              rintro e w9 ⟨rfl, rfl⟩
              go_wp2_with fail
              refine (drift_any p g _ w8 HA8.out.cs.at_).mono ?_
              rintro e w9 ⟨rfl, rfl⟩
              go_wp2_with fail
              refine (drift_any p g _ w8 HA8.out.cs.at_).mono ?_
              rintro e w9 ⟨rfl, rfl⟩
              go_wp2_with fail
              go_loopw [121] (fun i wt => ∃ k : Nat, k ≤ m ∧ i = .int .i64 k ∧ Below w8.heap.size w8 wt) (fun i _ => m - (intOf i).toNat)
              case atStart => exact ⟨0, by omega, rfl, Below.refl _ _⟩
              case round =>
                obtain ⟨k, hk, rfl, hB⟩ := hrel
                have HA9 := Lib.hid (HA8.out.keep hB)
                have HB9 := Lib.hid hB
                clear hB
                by_cases hkm : k < m
                · obtain ⟨z, hz⟩ : ∃ z, c.now[k]? = some z := ⟨_, List.getElem?_eq_getElem (by rw [HM.out]; exact hkm)⟩
                  obtain ⟨gb, go_, gc, e1, _, _, _, _, z0⟩ := (IntsV.of_own HA9.out.all).at_ hz
                  injection e1 with e1 en e2
                  clear en
                  subst e1 e2
                  have k0 : (0 : Int) ≤ (k : Int) := by omega
                  have k1 : (k : Int) < (m : Int) := by omega
                  obtain ⟨i0', i1', -, -⟩ := blk2 HA9.out.box
                  have hzb := HTs.out.fit.now k z hz
                  have HAT := Lib.hid (Ck.at_of hz)
                  have hwr : IntKind.i64.wrap z = z := IntWalk.i64_in _ (by omega)
                  clear hz
                  go_wp2_with fail
                  go_quiet (first | (go_at_call 11; exact now_qe HA9.out.cs _ _ HAT.out))
                  go_wp2_with fail
                  exact ⟨⟨k + 1, by omega, by push_cast; rfl, HB9.out.trans ((below_drewN _ _).mono HB9.out.size)⟩, by simp only [intOf]; omega⟩
                · go_wp2_with fail
                  exact ⟨⟨j + 1, c, by omega, by push_cast; rfl, HM, HA9.out.cs⟩, by simp only [intOf]; omega⟩
    · go_wp2_with fail
      go_ret
      exact ⟨rfl, HBw.out⟩
end Go.Proofs.Ytlcjkfikfnfneaa
