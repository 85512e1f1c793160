/- THE WALK of ClocksPlays. -/
import Derived.Test.YtlcjkfikfnfneaaRefTick
namespace Go.Proofs.Ytlcjkfikfnfneaa
open Go.RowKit

/-- The clocks, and the document's clocks in the block M. -/
structure Pl (w1 wr : World) (p g M : Nat) (c : Ck) (a : Option Addr) (cp : Nat) : Prop where
  cs : Cs w1 p g c wr
  box : wr.heap[M]? = some (.cells #[.int .i64 c.passed, .slice a c.now.length cp, .int .i64 c.drift] 33 (0, 0))
  now : IntsV (fun k => k ≠ p ∧ k ≠ g ∧ k ≠ M) wr (.slice a c.now.length cp) c.now
  ne : M ≠ p ∧ M ≠ g ∧ w1.heap.size ≤ M
theorem Pl.keep {w1 wr wt : World} {p g M : Nat} {c : Ck} {a : Option Addr} {cp : Nat} (h : Pl w1 wr p g M c a cp) (hb : Below wr.heap.size wr wt) : Pl w1 wt p g M c a cp :=
  ⟨h.cs.keep hb, (hb.block M (lt_of_heap h.box)).trans h.box, h.now.below hb, h.ne⟩
/-- The document's clocks are written anew. -/
theorem Pl.store {w1 w8 : World} {p g M cp' : Nat} {c c' : Ck} {a a' : Option Addr} {cp : Nat} (hcs : Cs w1 p g c' w8) (hbox : w8.heap[M]? = some (.cells #[.int .i64 c.passed, .slice a c.now.length cp, .int .i64 c.drift] 33 (0, 0)))
    (hnow : IntsV (fun k => k ≠ p ∧ k ≠ g ∧ k ≠ M) w8 (.slice a' c'.now.length cp') c'.now) (hne : M ≠ p ∧ M ≠ g ∧ w1.heap.size ≤ M) :
    Pl w1 (((w8.setCell ⟨M, 0, none⟩ (.int .i64 c'.passed)).setCell ⟨M, 1, none⟩ (.slice a' c'.now.length cp')).setCell ⟨M, 2, none⟩ (.int .i64 c'.drift)) p g M c' a' cp' :=
  ⟨⟨hcs.at_.keep (fun k hk => set3 w8 M _ _ _ k (by rcases hk with rfl | rfl; exact fun e => hne.1 e.symm; exact fun e => hne.2.1 e.symm)), hcs.fit, hcs.new, below3 hcs.out hne.2.2 _ _ _⟩,
    by rw [blk_set (blk_set (blk_set hbox 0 _) 1 _) 2 _]; rfl, hnow.keep (fun k _ hk => set3 w8 M _ _ _ k hk.2.2) (by simp [World.setCell]), hne⟩
theorem rtick_slice {D : Nat → Prop} {w : World} {a : Option Addr} {m cp : Nat} {l : List Int} (h : IntsV D w (.slice a m cp) l) : m = l.length := by
  obtain ⟨a', c', e, _⟩ := h
  injection e

set_option maxRecDepth 100000 in
set_option maxHeartbeats 2000000 in
theorem clocksPlays_any (n ask : Int) (l : List Mv) (v : Value) (w : World) (hv : MovesIn w v l) (hl : l.length ≤ 140737488355328) :
    Calls Try.prog 4 #[.int .i64 n, v, .int .i64 ask] w fun e w' => e = .returned (.bool true) ∧ Below w.heap.size w w' := by
  obtain ⟨i0, hi, hz0, hz1, hz2⟩ := info_parts Try.info3
  have HV := Lib.hid hv
  obtain ⟨va, vc, rfl, hvc, hvm, _⟩ := hv
  unfold maxLen at hvm
  by_cases hn : 1 ≤ n ∧ n ≤ 8
  case neg =>
    go_enter Try.func4, Try.ntmps4
    go_wp2_with fail
    refine (awake_any w).mono ?_
    rintro e w1 ⟨rfl, hb1⟩
    go_wp2_with fail
    refine (new_no n w1 hn).mono ?_
    rintro e w2 ⟨rfl, rfl⟩
    go_wp2_with fail
    refine (rnew_no n w1 hn).mono ?_
    rintro e w2 ⟨rfl, hb2⟩
    clear hn
    go_wp2_with fail
    go_ret
    exact ⟨rfl, (hb1.trans (hb2.mono hb1.size)).alloc (by have := hb1.size; have := hb2.size; omega) _⟩
  obtain ⟨m, rfl⟩ : ∃ m : Nat, n = m := ⟨n.toNat, by omega⟩
  have HNM := Lib.hid hn
  obtain ⟨hn1, hn8⟩ := hn
  go_enter Try.func4, Try.ntmps4
  go_wp2_with fail
  refine (awake_any w).mono ?_
  rintro e w1 ⟨rfl, hb1⟩
  have HB1 := Lib.hid hb1
  go_wp2_with fail
  refine (new_ok m w1 HNM.out).mono ?_
  rintro e w2 ⟨p, g, rfl, C1, hp, hg, hb⟩
  have H2 := Lib.hid (Cs.of_new HNM.out C1 hp hg hb)
  clear C1 hp hg hb hb1
  go_wp2_with fail
  refine (rnew_ok m w2 (by have := HNM.out; omega)).mono ?_
  rintro e w3 ⟨a3, c3, rfl, I3, B3⟩
  have hPl0 : Pl w1 (w3.alloc (.cells #[.int .i64 0, .slice a3 m c3, .int .i64 0] 33)) p g w3.heap.size (Ck.start m) a3 c3 := by
    have h2 := H2.out.at_.lt
    have hs := B3.size
    have hm : (Ck.start m).now.length = m := by simp [Ck.start]
    have hb4 : Below w3.heap.size w3 (w3.alloc (.cells #[.int .i64 0, .slice a3 m c3, .int .i64 0] 33)) := (Below.refl _ _).alloc (Nat.le_refl _) _
    refine ⟨(H2.out.keep B3).keep hb4, ?_, ?_, by have := H2.out.out.size; omega⟩
    · rw [hm]; exact heap_at _ _ _ rfl
    · rw [hm]
      exact (I3.old.mono (fun k hk h => by omega)).below hb4
  have HPl0 := Lib.hid hPl0
  obtain ⟨M, hM⟩ : ∃ M, M = w3.heap.size := ⟨_, rfl⟩
  clear hPl0 I3 B3 H2
  go_wp2_with fail
  rw [← hM] at HPl0 ⊢
  clear hM
  go_loopw [42] (fun i wr => ∃ (j : Nat) (c : Ck) (a : Option Addr) (cp : Nat), j ≤ l.length ∧ i = .int .i64 j ∧ Hid (c.now.length = m) ∧ Pl w1 wr p g M c a cp) (fun i _ => l.length - (intOf i).toNat)
  case atStart => exact ⟨0, _, a3, c3, by omega, rfl, Lib.hid (by simp [Ck.start]), HPl0.out⟩
  case round =>
    obtain ⟨j, c, a, cp, hj, rfl, HM, T⟩ := hrel
    obtain ⟨wo, rfl⟩ : ∃ wo : World, wo = wr := ⟨_, rfl⟩
    have HT := Lib.hid T
    have hBw := HB1.out.trans (T.cs.out.mono HB1.out.size)
    have HBw := Lib.hid hBw
    clear HPl0
    by_cases hlt : j < l.length
    · obtain ⟨q, hq⟩ : ∃ q, l[j]? = some q := ⟨_, List.getElem?_eq_getElem hlt⟩
      obtain ⟨b', o, c1, dv, e1, _, _, hbs, t0, t1, hm⟩ := HV.out.at_ hq
      injection e1 with e1 _ e2
      subst e1 e2
      have HI := Lib.hid (hm.dl.old.below hBw)
      have HMV := Lib.hid hm
      have hlen8 := Nat.le_trans hm.len reach_le
      obtain ⟨da, dc, rfl, hdc, hdm, _⟩ := hm.dl
      unfold maxLen at hdm
      have p0 := (hBw.cell (p := ⟨b', o + j * 2, none⟩) hbs).trans t0
      have p1 := (hBw.cell (p := ⟨b', o + j * 2 + 1, none⟩) hbs).trans t1
      have k0 : (0 : Int) ≤ (j : Int) := by omega
      have k1 : (j : Int) < (l.length : Int) := by omega
      obtain ⟨X, hX⟩ : ∃ X, X = wo.heap.size := ⟨_, rfl⟩
      obtain ⟨W0, hW0⟩ : ∃ W0, W0 = wo.alloc (.cells #[.int .i64 q.d, .slice da q.dl.length dc] 37) := ⟨_, rfl⟩
      have hBo : Below wo.heap.size wo W0 := by rw [hW0]; exact (Below.refl _ _).alloc (Nat.le_refl _) _
      have hX0 : W0.heap[X]? = some (.cells #[.int .i64 q.d, .slice da q.dl.length dc] 37 (0, 0)) := by rw [hW0]; exact heap_at _ _ _ hX
      have HX0 := Lib.hid hX0
      have HT0 := Lib.hid (T.keep hBo)
      have HI0 := Lib.hid (HI.out.below hBo)
      have hM0 := (hBo.block M (lt_of_heap T.box)).trans T.box
      obtain ⟨m0, m1, m2, mf0, mf1, mf2⟩ := blk3 T.box
      have hlp := T.cs.at_.lt
      have hlM := lt_of_heap T.box
      have hpX : p < X ∧ g < X ∧ M < X := by rw [hX]; exact ⟨hlp.1, hlp.2, hlM⟩
      have hXW : X < W0.heap.size := lt_of_heap hX0
      have hDpg : ¬ (True ∧ p < w.heap.size) ∧ ¬ (True ∧ g < w.heap.size) := by have h1 := HB1.out.size; have h2 := T.cs.new; omega
      have hW0' := Lib.hid hW0
      have hX' := Lib.hid hX
      clear t0 t1 hq hm hBw hbs hX hW0 hX0 hM0 hBo T hlp
      go_wp2_with fail
      rw [← hX'.out, ← hW0'.out]
      refine (rtick_any c q.d _ _ q.dl _ _ W0 HT0.out.cs.fit HMV.out.dok HMV.out.lok HT0.out.now HI0.out).mono ?_
      rintro e w3' ⟨a2, mm, cp2, rfl, I4, B4⟩
      obtain rfl := rtick_slice I4
      obtain ⟨c', hc'⟩ : ∃ c', c' = c.tickR q.d q.dl := ⟨_, rfl⟩
      rw [← hc'] at I4 ⊢
      have HC' := Lib.hid hc'
      have hcl : c'.now.length = m := by
        rw [hc']
        by_cases hE : c.tickE q.d q.dl = 0
        · rw [(went_ok hE).2, HM.out]
        · rw [went_no hE, HM.out]
      have HCL := Lib.hid hcl
      clear hc' hcl
      obtain ⟨E, hE⟩ : ∃ E, E = c.tickE q.d q.dl := ⟨_, rfl⟩
      rw [← hE]
      have HE := Lib.hid hE
      clear hE
      have hb3 : Below w3'.heap.size w3' (w3'.alloc (.cells #[.int .i64 c'.passed, .slice a2 c'.now.length cp2, .int .i64 c'.drift] 33)) := (Below.refl _ _).alloc (Nat.le_refl _) _
      have hN3 := heap_at w3' (.cells #[.int .i64 c'.passed, .slice a2 c'.now.length cp2, .int .i64 c'.drift] 33) _ rfl
      obtain ⟨W3, hW3⟩ : ∃ W3, W3 = w3'.alloc (.cells #[.int .i64 c'.passed, .slice a2 c'.now.length cp2, .int .i64 c'.drift] 33) := ⟨_, rfl⟩
      obtain ⟨N, hN⟩ : ∃ N, N = w3'.heap.size := ⟨_, rfl⟩
      have HW3 := Lib.hid hW3
      have HN := Lib.hid hN
      have hs4 := B4.size
      have hNW : W0.heap.size ≤ N := by omega
      rw [← hW3] at hb3 hN3
      rw [← hN] at hN3
      have hlN := lt_of_heap hN3
      have HN3 := Lib.hid hN3
      have HT3 := Lib.hid ((HT0.out.keep B4).keep hb3)
      have HI3 := Lib.hid ((HI0.out.below B4).below hb3)
      have hX3 := (hb3.block X (by omega)).trans ((B4.block X hXW).trans HX0.out)
      have HX3 := Lib.hid hX3
      have HI4 : Hid (IntsV (fun k => k ≠ p ∧ k ≠ g ∧ k ≠ M) W3 (.slice a2 c'.now.length cp2) c'.now) := Lib.hid ((I4.mono (fun k _ h => by rcases h with h | h; exact h; omega)).below hb3)
      obtain ⟨x0, x1, -, -⟩ := blk2 hX3
      have x0d : W3.drew.cell? ⟨X, 0, none⟩ = some (.int .i64 q.d) := x0
      have x1d : W3.drew.cell? ⟨X, 1, none⟩ = some (.slice da q.dl.length dc) := x1
      have x0a : (W3.alloc (.cells #[] 3)).drew.cell? ⟨X, 0, none⟩ = some (.int .i64 q.d) := (blk2 (blk_alloc hX3 _)).1
      have x1a : (W3.alloc (.cells #[] 3)).drew.cell? ⟨X, 1, none⟩ = some (.slice da q.dl.length dc) := (blk2 (blk_alloc hX3 _)).2.1
      clear m0 m1 m2 mf0 mf1 mf2 p0 p1 x0 x1 hX3 hN3 hb3 hW3 hN I4 B4 hs4
      go_wp2_with fail
      rw [← HW3.out, ← HN.out]
      go_region_held_law (fun y => y.cell? ⟨X, 0, none⟩ = some (.int .i64 q.d) ∧ y.cell? ⟨X, 1, none⟩ = some (.slice da q.dl.length dc)) (first | exact ⟨by assumption, by assumption⟩ | go_keep) (first
        | (refine step_append_ints rfl (.tmp 58) (.tmp 60) _ rfl _ 3 i0 Try.underlying27 hi hz0 hz1 hz2 _ 0 [] rfl (empty_ints _) _ _ q.dl rfl (HI3.out.below (((below_drew W3)).alloc (Nat.le_refl _) _)) (by omega) (by simp) ?_; intro v7 w7 hown7 hgrow7 hat7; rw [Nat.zero_add, List.nil_append] at hown7; obtain ⟨a7, c7, rfl⟩ := own_slice hown7; have hcp := copied_ints (w := W3.drew) hown7 hgrow7; have I7 := Lib.hid hcp.1; have B7 := Lib.hid ((below_drew W3).trans hcp.2); have H7 := Lib.hid (HT3.out.cs.keep B7.out); have hX7 := (hcp.2.block X (lt_of_heap HX3.out)).trans HX3.out; obtain ⟨f0, f1, -, -⟩ := blk2 hX7; clear hown7 hgrow7 hat7 hcp hX7)
        | (go_at_call 10; (refine (cs_tick H7.out q.d HMV.out.dok HMV.out.lok I7.out (by have := HT3.out.cs.at_.lt; exact ⟨fun h => by have h2 : W3.heap.size ≤ p := h; omega, fun h => by have h2 : W3.heap.size ≤ g := h; omega⟩)).mono ?_); rintro e w8 ⟨rfl, T8, hm8⟩; rw [← HE.out]; rw [← HC'.out] at T8; have hh : ∀ k, k < W3.heap.size → k ≠ p → k ≠ g → w8.heap[k]? = W3.heap[k]? := fun k h1 h2 h3 => (hm8.block k (Nat.lt_of_lt_of_le h1 B7.out.size) (fun h => h.elim h2 h3)).trans (B7.out.block k h1); obtain ⟨g0, g1, -, -⟩ := blk2 ((hh X (by omega) (by omega) (by omega)).trans HX3.out); have HT8 := Lib.hid T8; have hn8 := (hh N hlN (by omega) (by omega)).trans HN3.out; have hm8' := (hh M (lt_of_heap HT3.out.box) HT3.out.ne.1 HT3.out.ne.2.1).trans HT3.out.box; have hi8 := (HI4.out.below B7.out).mod hm8 (fun k _ hk h => h.elim hk.1 hk.2.1); have HP9 := Lib.hid (Pl.store T8 hm8' hi8 HT3.out.ne); obtain ⟨n0, n1, n2, -, -, -⟩ := blk3 hn8; obtain ⟨r0, r1, r2, s0, s1, s2⟩ := blk3 hm8'; clear T8 hm8 hh hn8 hm8' hi8))
      all_goals
        have hNM : ¬ N = M := by omega
        have hMN : ¬ M = N := by omega
        clear x0d x1d x0a x1a
        go_wp2_with fail
        obtain ⟨w9, hw9⟩ : ∃ w9, w9 = ((w8.setCell ⟨M, 0, none⟩ (.int .i64 c'.passed)).setCell ⟨M, 1, none⟩ (.slice a2 c'.now.length cp2)).setCell ⟨M, 2, none⟩ (.int .i64 c'.drift) := ⟨_, rfl⟩
        rw [← hw9] at HP9 ⊢
        obtain ⟨y0, y1, y2, -, -, -⟩ := blk3 HP9.out.box
        have z0 : w9.drew.cell? ⟨M, 0, none⟩ = some (.int .i64 c'.passed) := y0
        have z1 : w9.drew.cell? ⟨M, 1, none⟩ = some (.slice a2 c'.now.length cp2) := y1
        have z2 : w9.drew.cell? ⟨M, 2, none⟩ = some (.int .i64 c'.drift) := y2
        obtain ⟨ak, hak⟩ : ∃ ak, ak = c'.at_ ask := ⟨_, rfl⟩
        have HAK := Lib.hid hak
        clear hak hw9 y0 y1 y2 n0 n1 n2 r0 r1 r2 s0 s1 s2 g0 g1 f0 f1 hNM hMN
        go_region_held_law (fun y => y.cell? ⟨M, 0, none⟩ = some (.int .i64 c'.passed) ∧ y.cell? ⟨M, 1, none⟩ = some (.slice a2 c'.now.length cp2) ∧ y.cell? ⟨M, 2, none⟩ = some (.int .i64 c'.drift)) (first | exact ⟨by assumption, by assumption, by assumption⟩ | go_keep) (first
          | (go_at_call 15; (refine (true_any p g _ _ HP9.out.cs.drew.at_).mono ?_); rintro e wq ⟨rfl, rfl⟩)
          | (go_at_call 12; (refine (drift_any p g _ _ HP9.out.cs.drew.at_).mono ?_); rintro e wq ⟨rfl, rfl⟩)
          | (go_at_call 16; (refine (len_any p g _ _ HP9.out.cs.drew.at_).mono ?_); rintro e wq ⟨he, rfl⟩; rw [HCL.out] at he; subst he)
          | (go_at_call 11; (refine (now_any p g _ _ _ HP9.out.cs.drew.at_).mono ?_); rintro e wq ⟨he, rfl⟩; rw [← HAK.out] at he; subst he)
          | (go_at_call 17; (refine (rat_any c' _ _ _ _ (HP9.out.now.below (below_drew w9))).mono ?_); rintro e w10 ⟨he, hb10⟩; rw [← HAK.out] at he; subst he; have HP10 := Lib.hid (HP9.out.keep ((below_drew w9).trans hb10)); obtain ⟨h0, h1, h2, -, -, -⟩ := blk3 HP10.out.box; clear hb10))
        all_goals
          clear z0 z1 z2
          go_wp2_with fail
          go_loopw [15] (fun i wt => ∃ k : Nat, k ≤ m ∧ i = .int .i64 k ∧ Below w10.heap.size w10 wt) (fun i _ => m - (intOf i).toNat)
          case atStart => exact ⟨0, by omega, rfl, Below.refl _ _⟩
          case round =>
            obtain ⟨k, hk, rfl, hB⟩ := hrel
            have HPx := Lib.hid (HP10.out.keep hB)
            have HBx := Lib.hid hB
            clear hB
            by_cases hkm : k < m
            · obtain ⟨z, hz⟩ : ∃ z, c'.now[k]? = some z := ⟨_, List.getElem?_eq_getElem (by rw [HCL.out]; exact hkm)⟩
              obtain ⟨y0, y1, y2, -, -, -⟩ := blk3 HPx.out.box
              obtain ⟨gb, go_, gc, e1, _, _, _, _, t0⟩ := HPx.out.now.at_ hz
              injection e1 with e1 en e2
              clear en
              subst e1 e2
              have k0 : (0 : Int) ≤ (k : Int) := by omega
              have k1 : (k : Int) < (m : Int) := by omega
              have k2 : (k : Int) < (c'.now.length : Int) := by rw [HCL.out]; exact k1
              have HAT := Lib.hid (Ck.at_of hz)
              clear hz
              go_wp2_with fail
              go_quiet (first | (go_at_call 11; exact now_qe HPx.out.cs _ _ HAT.out))
              go_wp2_with fail
              exact ⟨⟨k + 1, by omega, by push_cast; rfl, HBx.out.trans ((below_drewN _ _).mono HBx.out.size)⟩, by simp only [intOf]; omega⟩
            · go_wp2_with fail
              exact ⟨⟨j + 1, c', a2, cp2, by omega, by push_cast; rfl, HCL, HPx.out⟩, by simp only [intOf]; omega⟩
    · go_wp2_with fail
      go_ret
      exact ⟨rfl, HBw.out⟩
end Go.Proofs.Ytlcjkfikfnfneaa
