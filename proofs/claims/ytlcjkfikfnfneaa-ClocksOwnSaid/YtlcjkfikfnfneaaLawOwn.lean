/- THE WALK of ClocksOwn. -/
import Derived.Test.YtlcjkfikfnfneaaLawForth
namespace Go.Proofs.Ytlcjkfikfnfneaa
open Go.RowKit

theorem minus_two (w : World) : IntsV (fun k => k = w.heap.size) (w.alloc (.cells #[.int .i64 (-91), .int .i64 (-92)] 3)) (.slice (some ⟨w.heap.size, 0, none⟩) 2 2) [-91, -92] := ints_new w [-91, -92] _ rfl 2 rfl (by decide)
theorem fo_cap {w : World} {base g cap : Nat} {l : List Int} (h : w.ownsRow base 3 1 (.slice (some ⟨g, 0, none⟩) (l.length + [(-91 : Int), -92].length) cap) (l.length + [(-91 : Int), -92].length) ((l ++ [-91, -92]).map I8)) : (l.length : Int) ≤ (cap : Int) := by
  obtain ⟨a, c, e, hc, _⟩ := IntsV.of_own h
  injection e with _ _ e
  subst e
  simp at hc
  omega
theorem fo_cut {w : World} {base g cap : Nat} {l : List Int} (h : w.ownsRow base 3 1 (.slice (some ⟨g, 0, none⟩) (l.length + [(-91 : Int), -92].length) cap) (l.length + [(-91 : Int), -92].length) ((l ++ [-91, -92]).map I8)) : IntsV (fun k => base ≤ k) w (.slice (some ⟨g, 0, none⟩) l.length cap) l := by
  obtain ⟨a, c, e, hc, hm, h0, h5⟩ := IntsV.of_own h
  injection e with e1 _ e2
  subst e1 e2
  simp at hc
  refine ⟨_, _, rfl, by omega, hm, fun h => (by cases h), fun hp => ?_⟩
  obtain ⟨b, o, e, hb, hG, hcell⟩ := h5 (by simp)
  refine ⟨b, o, e, hb, hG, fun j x hx => hcell j x ?_⟩
  rw [List.getElem?_append_left (List.getElem?_eq_some_iff.1 hx).1]
  exact hx

/-- The world while the handed in list is written over: its first k elements are of whatever value. -/
structure Ow (w7 wr : World) (p g p2 g2 X B gf cap n m k : Nat) (c : Ck) (O : Obj) (all : List Int) : Prop where
  cs : Cs w7 p g c wr
  two : CkAt wr p2 g2 (Ck.start n)
  box : wr.heap[X]? = some O
  row : ∃ xs, wr.ownsRow B 3 1 (.slice (some ⟨gf, 0, none⟩) m cap) m xs ∧ ∀ (j : Nat), k ≤ j → xs[j]? = (all.map I8)[j]?
  lt : p < B ∧ g < B ∧ p2 < B ∧ g2 < B ∧ X < B
theorem Ow.keep {w7 wr wt : World} {p g p2 g2 X B gf cap n m k : Nat} {c : Ck} {O : Obj} {all : List Int} (h : Ow w7 wr p g p2 g2 X B gf cap n m k c O all) (hb : Below wr.heap.size wr wt) : Ow w7 wt p g p2 g2 X B gf cap n m k c O all := by
  obtain ⟨xs, h1, h2⟩ := h.row
  exact ⟨h.cs.keep hb, h.two.below hb, (hb.block X (lt_of_heap h.box)).trans h.box, ⟨xs, ownsRow_keep h1 (fun q hq => hb.block q (h1.lt q hq).2), h2⟩, h.lt⟩
theorem Ow.store {w7 wr : World} {p g p2 g2 X B gf cap n m k : Nat} {c : Ck} {O : Obj} {all : List Int} (h : Ow w7 wr p g p2 g2 X B gf cap n m k c O all) (u : Value) : Ow w7 (wr.setCell ⟨gf, k, none⟩ u) p g p2 g2 X B gf cap n m (k + 1) c O all := by
  obtain ⟨xs, h1, h2⟩ := h.row
  obtain ⟨l1, l2, l3, l4, l5⟩ := h.lt
  have hg := (h1.lt gf rfl).1
  have hk : ∀ q, q ≠ gf → (wr.setCell ⟨gf, k, none⟩ u).heap[q]? = wr.heap[q]? := fun q hq => Below.heap_setCell wr ⟨gf, k, none⟩ u q hq
  have hpq : ∀ a b, a < B → b < B → ∀ q, Fpg a b q → (wr.setCell ⟨gf, k, none⟩ u).heap[q]? = wr.heap[q]? := fun a b ha hb q hq => hk q (by rcases hq with rfl | rfl <;> omega)
  have hs := h.cs.out.size
  refine ⟨⟨h.cs.at_.keep (hpq p g l1 l2), h.cs.fit, h.cs.new, h.cs.out.setCell (by show w7.heap.size ≤ gf; have := h.cs.new; omega) _⟩, h.two.keep (hpq p2 g2 l3 l4), (hk X (by omega)).trans h.box, ⟨_, (h1.stored k u).1, fun j hj => ?_⟩, h.lt⟩
  rw [List.getElem?_set_ne (by omega)]
  exact h2 j (by omega)
theorem two_start (n : Nat) : (Ck.start n).at_ 0 = 0 := by
  unfold Ck.at_
  split
  · rfl
  · simp [Ck.start, List.getD_eq_getElem?_getD, List.getElem?_replicate]
    split <;> rfl

set_option maxRecDepth 100000 in
set_option maxHeartbeats 1500000 in
theorem clocksOwn_any (n ask : Int) (q : Mv) (dv : Value) (w : World) (hm : InM w (.int .i64 q.d) dv q) :
    Calls Try.prog 7 #[.int .i64 n, .agg #[.int .i64 q.d, dv], .int .i64 ask] w fun e w' => e = .returned (.bool true) ∧ Below w.heap.size w w' := by
  obtain ⟨i0, hi, hz0, hz1, hz2⟩ := info_parts Try.info3
  have HMV := Lib.hid hm
  obtain ⟨da, dc, rfl, hdc, hdm, _⟩ := hm.dl
  unfold maxLen at hdm
  have hlen8 := Nat.le_trans hm.len (show reachBytes ≤ 140737488351232 from by decide)
  clear hm
  go_enter Try.func7, Try.ntmps7
  go_wp2_with fail
  obtain ⟨W0, hW0⟩ : ∃ W0, W0 = w.alloc (.cells #[.int .i64 q.d, .slice da q.dl.length dc] 37) := ⟨_, rfl⟩
  obtain ⟨X, hX⟩ : ∃ X, X = w.heap.size := ⟨_, rfl⟩
  rw [← hW0, ← hX]
  have HX0 : Hid (W0.heap[X]? = some (.cells #[.int .i64 q.d, .slice da q.dl.length dc] 37 (0, 0))) := Lib.hid (by rw [hW0]; exact heap_at _ _ _ hX)
  have HBW : Hid (Below w.heap.size w W0) := Lib.hid (by rw [hW0]; exact (Below.refl _ _).alloc (Nat.le_refl _) _)
  have hXw := hX
  have HXW := Lib.hid hXw
  clear hW0 hX hXw
  refine (awake_any W0).mono ?_
  rintro e w1 ⟨rfl, hb1⟩
  have HB1 := Lib.hid (HBW.out.trans (hb1.mono HBW.out.size))
  have hX1 := (hb1.block X (lt_of_heap HX0.out)).trans HX0.out
  have HX1 := Lib.hid hX1
  have HI1 := Lib.hid (HMV.out.dl.below HB1.out)
  obtain ⟨x0, x1, -, -⟩ := blk2 hX1
  have x0d : w1.drew.cell? ⟨X, 0, none⟩ = some (.int .i64 q.d) := x0
  have x1d : w1.drew.cell? ⟨X, 1, none⟩ = some (.slice da q.dl.length dc) := x1
  have x0a : (w1.alloc (.cells #[] 3)).drew.cell? ⟨X, 0, none⟩ = some (.int .i64 q.d) := (blk2 (blk_alloc hX1 _)).1
  have x1a : (w1.alloc (.cells #[] 3)).drew.cell? ⟨X, 1, none⟩ = some (.slice da q.dl.length dc) := (blk2 (blk_alloc hX1 _)).2.1
  clear hb1 hX1 x0 x1
  go_wp2_with fail
  go_region_held_law (fun y => y.cell? ⟨X, 0, none⟩ = some (.int .i64 q.d) ∧ y.cell? ⟨X, 1, none⟩ = some (.slice da q.dl.length dc)) (first | exact ⟨by assumption, by assumption⟩ | go_keep) (first
    | (refine step_append_ints rfl (.tmp 21) (.tmp 23) _ rfl _ 3 i0 Try.underlying27 hi hz0 hz1 hz2 _ 0 [] rfl (empty_ints _) _ _ q.dl rfl (HI1.out.below (((below_drew w1)).alloc (Nat.le_refl _) _)) (by omega) (by simp) ?_; intro v7 w7 hown7 hgrow7 hat7; rw [Nat.zero_add, List.nil_append] at hown7; obtain ⟨a7, c7, rfl⟩ := own_slice hown7; have hcp := copied_ints (w := w1.drew) hown7 hgrow7; have B7 := Lib.hid ((below_drew w1).trans hcp.2); have hX7 := (hcp.2.block X (lt_of_heap HX1.out)).trans HX1.out; obtain ⟨f0, f1, -, -⟩ := blk2 hX7; have HX7 := Lib.hid hX7; clear hown7 hgrow7 hat7 hcp hX7)
    | (go_at_call 10; (refine (nil_tick _ _ _).mono ?_); rintro e w8 ⟨rfl, rfl⟩)
    | (go_at_call 15; (refine (nil_true _).mono ?_); rintro e w8 ⟨rfl, rfl⟩)
    | (go_at_call 11; (refine (nil_now _ _).mono ?_); rintro e w8 ⟨rfl, rfl⟩)
    | (go_at_call 16; (refine (nil_len _).mono ?_); rintro e w8 ⟨rfl, rfl⟩)
    | (go_at_call 12; (refine (nil_drift _).mono ?_); rintro e w8 ⟨rfl, rfl⟩))
  all_goals
    have HB7 := Lib.hid (HB1.out.trans (B7.out.mono HB1.out.size))
    clear x0d x1d x0a x1a f0 f1 B7
    by_cases hn : 1 ≤ n ∧ n ≤ 8
    case neg =>
      go_wp2_with fail
      refine (new_no n w7 hn).mono ?_
      rintro e w8 ⟨rfl, rfl⟩
      go_wp2_with fail
      refine (new_no n w7 hn).mono ?_
      rintro e w8 ⟨rfl, rfl⟩
      go_wp2_with fail
      go_ret
      exact ⟨rfl, HB7.out⟩
    have HN := Lib.hid hn
    clear hn
    go_wp2_with fail
    refine (new_ok n w7 HN.out).mono ?_
    rintro e w8 ⟨p, g, rfl, C8, hp, hg, hb8⟩
    have H8 := Lib.hid (Cs.of_new HN.out C8 hp hg hb8)
    clear C8 hp hg hb8
    go_wp2_with fail
    refine (new_ok n w8 HN.out).mono ?_
    rintro e w9 ⟨p2, g2, rfl, C9, hp2, hg2, hb9⟩
    have H9 := Lib.hid (H8.out.keep hb9)
    have HC9 := Lib.hid C9
    have HX9 := Lib.hid (((H8.out.out.trans (hb9.mono H8.out.out.size)).block X (lt_of_heap HX7.out)).trans HX7.out)
    have HB9 := Lib.hid (HB7.out.trans (H9.out.out.mono HB7.out.size))
    have HI9 := Lib.hid (HMV.out.dl.old.below HB9.out)
    have hlt8 := H8.out.at_.lt
    have hlt9 := HC9.out.lt
    have hltX := lt_of_heap HX9.out
    have hs9 := hb9.size
    obtain ⟨x0, x1, -, -⟩ := blk2 HX9.out
    clear C9 hb9
    go_wp2_with (first
      | (at_builtin; (refine wpList_append_ints rfl (.tmp 70) (.tmp 72) _ rfl w9.heap.size 3 i0 Try.underlying27 hi hz0 hz1 hz2 (.slice (some ⟨w9.heap.size, 0, none⟩) 0 0) 0 [] rfl (empty_ints w9) _ _ q.dl rfl (HI9.out.below ((Below.refl _ _).alloc (Nat.le_refl _) _)) (by omega) (by simp) ?_); intro v10 w10 hown10 hgrow10 hat10; rw [Nat.zero_add, List.nil_append] at hown10; obtain ⟨a10, c10, rfl⟩ := own_slice hown10; have HO10 := Lib.hid hown10; have B10 : Below w9.heap.size w9 w10 := ((Below.refl _ _).alloc (Nat.le_refl _) _).grown hgrow10 (by simp) (by intro k hk; simp [Value.ownBlock] at hk; omega); have hs10 := B10.size; clear hown10 hgrow10 hat10)
      | (at_builtin; (refine wpList_append_ints rfl (.tmp 73) (.tmp 74) _ rfl w9.heap.size 3 i0 Try.underlying27 hi hz0 hz1 hz2 (.slice a10 q.dl.length c10) _ _ rfl (HO10.out.alloc _) _ (.slice (some ⟨w10.heap.size, 0, none⟩) 2 2) [-91, -92] rfl (minus_two w10) (by simp; omega) (by simp; omega) ?_); intro v11 w11 hown11 hgrow11 hat11; rw [← List.map_append] at hown11; obtain ⟨gf, cap, rfl, hg0, hg1⟩ := hown11.form (by simp); have B11 : Below w9.heap.size w9 w11 := (B10.alloc hs10 _).grown hgrow11 (by simp; omega) (fun k hk => (HO10.out.lt k hk).1); have HO11 := Lib.hid hown11; have hcap := fo_cap hown11; clear hown11 hgrow11 hat11))
    have hX11 := (B11.block X hltX).trans HX9.out
    obtain ⟨y0, y1, -, -⟩ := blk2 hX11
    have x0d : w11.drew.cell? ⟨X, 0, none⟩ = some (.int .i64 q.d) := y0
    have x1d : w11.drew.cell? ⟨X, 1, none⟩ = some (.slice da q.dl.length dc) := y1
    have HX11 := Lib.hid hX11
    have HB11 := Lib.hid B11
    have hs11 := B11.size
    have H11 := Lib.hid ((H9.out.keep B11).drew)
    have HI11 := Lib.hid ((fo_cut HO11.out).below (below_drew w11))
    clear x0 x1 y0 y1 hX11 B11 B10
    have hc9 : CkAt w9 p g (Ck.start n.toNat) := H9.out.at_
    have hlt9' := H9.out.at_.lt
    have hnew := H8.out.new
    have hltX7 := lt_of_heap HX7.out
    go_wp2_with fail
    go_region_held_law (fun y => y.cell? ⟨X, 0, none⟩ = some (.int .i64 q.d) ∧ y.cell? ⟨X, 1, none⟩ = some (.slice da q.dl.length dc)) (first | exact ⟨by assumption, by assumption⟩ | go_keep) (first
      | (go_at_call 10; (refine (cs_tick H11.out q.d HMV.out.dok HMV.out.lok HI11.out ⟨by omega, by omega⟩).mono ?_); rintro e w12 ⟨rfl, T12, hm12⟩; have hX12 := (hm12.block X (by show X < w11.heap.size; omega) (by rintro (e | e) <;> omega)).trans HX11.out; obtain ⟨f0, f1, -, -⟩ := blk2 hX12; have HX12 := Lib.hid hX12; have HO12 := Lib.hid (ownsRow_keep HO11.out (fun k hk => hm12.block k (by have := (HO11.out.lt k hk).2; exact this) (by have := (HO11.out.lt k hk).1; rintro (e | e) <;> omega))); have HD12 := Lib.hid (((HC9.out.below HB11.out).drew).mod hm12 (by rintro (e | e) <;> omega) (by rintro (e | e) <;> omega)); have HT12 := Lib.hid T12; clear hX12 T12 hm12))
    all_goals
      have HB12 := Lib.hid (HB7.out.trans (HT12.out.out.mono HB7.out.size))
      obtain ⟨c', hc'⟩ : ∃ c', c' = (Ck.start n.toNat).tickR q.d q.dl := ⟨_, rfl⟩
      rw [← hc'] at HT12
      clear hc' hc9
      have HI12 := Lib.hid (HMV.out.dl.below HB12.out)
      clear x0d x1d
      have hOw : Ow w7 w12 p g p2 g2 X w9.heap.size gf cap n.toNat (q.dl.length + 2) 0 c' (.cells #[.int .i64 q.d, .slice da q.dl.length dc] 37) (q.dl ++ [-91, -92]) :=
        ⟨HT12.out, HD12.out, HX12.out, ⟨_, HO12.out, fun j _ => rfl⟩, by omega⟩
      have HOw := Lib.hid hOw
      clear hOw
      go_wp2_with fail
      go_loopw [88] (fun i wr => ∃ k : Nat, k ≤ q.dl.length ∧ i = .int .i64 k ∧ Below w12.heap.size w12 wr) (fun i _ => q.dl.length - (intOf i).toNat)
      case atStart => exact ⟨0, by omega, rfl, Below.refl _ _⟩
      case round =>
        obtain ⟨k, hk, rfl, hB⟩ := hrel
        have HOx := Lib.hid (HOw.out.keep hB)
        have HBx := Lib.hid hB
        have HIx := Lib.hid (HI12.out.below hB)
        clear hB
        by_cases hkm : k < q.dl.length
        · obtain ⟨y, hy⟩ : ∃ y, q.dl[k]? = some y := ⟨_, List.getElem?_eq_getElem hkm⟩
          obtain ⟨hb, ho, hc, e1, _, _, _, _, y0⟩ := HIx.out.at_ hy
          injection e1 with e1 _ e2
          subst e1 e2
          obtain ⟨xs, r1, r2⟩ := HOx.out.row
          have z0 : wr.cell? ⟨gf, k, none⟩ = some (.int .i64 y) := by
            rw [r1.cellAt k (by omega), r2 k (Nat.zero_le _), List.getElem?_map, List.getElem?_append_left hkm, hy]; rfl
          obtain ⟨i0', i1', -, -⟩ := blk2 HOx.out.box
          have k0 : (0 : Int) ≤ (k : Int) := by omega
          have k1 : (k : Int) < (q.dl.length : Int) := by omega
          have k2 : (k : Int) < (q.dl.length : Int) + 2 := by omega
          clear hy r1 r2
          go_wp2_with fail
          go_quiet (fail)
          go_wp2_with fail
          exact ⟨⟨k + 1, by omega, by push_cast; rfl, HBx.out.trans ((below_drewN _ _).mono HBx.out.size)⟩, by simp only [intOf]; omega⟩
        · have hk2 : decide (k < q.dl.length) = false := by simp; omega
          go_wp2_with fail
          refine (now_any p g c' ask wr HOx.out.cs.at_).mono ?_
          rintro e w13 ⟨rfl, rfl⟩
          go_wp2_with fail
          go_loopw [107] (fun i wr => ∃ k : Nat, k ≤ q.dl.length + 2 ∧ i = .int .i64 k ∧ Ow w7 wr p g p2 g2 X w9.heap.size gf cap n.toNat (q.dl.length + 2) k c' (.cells #[.int .i64 q.d, .slice da q.dl.length dc] 37) (q.dl ++ [-91, -92])) (fun i _ => q.dl.length + 2 - (intOf i).toNat)
          case atStart => exact ⟨0, by omega, rfl, HOx.out⟩
          case round =>
            obtain ⟨k, hk, rfl, O⟩ := hrel
            have HO := Lib.hid O
            by_cases hkm : k < q.dl.length + 2
            · obtain ⟨xs, r1, r2⟩ := O.row
              have hz : ∃ z : Int, (q.dl ++ [-91, -92])[k]? = some z ∧ (q.dl.length ≤ k → z = -91 - (k : Int) + (q.dl.length : Int)) := by
                refine ⟨_, List.getElem?_eq_getElem (by simp; omega), fun h => ?_⟩
                rw [List.getElem_append_right h]
                rcases (show k - q.dl.length = 0 ∨ k - q.dl.length = 1 from by omega) with e | e <;> simp only [e] <;> simp <;> omega
              obtain ⟨z, hz1, hz2⟩ := hz
              have z0 : wr.cell? ⟨gf, k, none⟩ = some (.int .i64 z) := by
                rw [r1.cellAt k (by omega), r2 k (Nat.le_refl _), List.getElem?_map, hz1]; rfl
              have z1 := r1.frozenAt k
              obtain ⟨i0', i1', -, -⟩ := blk2 O.box
              have k0 : (0 : Int) ≤ (k : Int) := by omega
              have k2 : (k : Int) < (q.dl.length : Int) + 2 := by omega
              by_cases hkl : k < q.dl.length
              · have g0 : decide ((q.dl.length : Int) ≤ (k : Int)) = false := decide_eq_false (by omega)
                have g1 : decide (q.dl.length ≤ k) = false := decide_eq_false (by omega)
                clear O r1 r2 hz1 hz2
                go_wp2_with fail
                go_quiet (fail)
                go_wp2_with fail
                exact ⟨⟨k + 1, by omega, by push_cast; rfl, (HO.out.keep (below_drewN _ _)).store _⟩, by simp only [intOf]; omega⟩
              · have g0 : decide ((q.dl.length : Int) ≤ (k : Int)) = true := decide_eq_true (by omega)
                have g1 : decide (q.dl.length ≤ k) = true := decide_eq_true (by omega)
                have hzz := hz2 (by omega)
                subst hzz
                have w1' : IntKind.i64.wrap (-91 - (k : Int)) = -91 - (k : Int) := IntWalk.i64_in _ (by omega)
                have w2' : IntKind.i64.wrap (-91 - (k : Int) + (q.dl.length : Int)) = -91 - (k : Int) + (q.dl.length : Int) := IntWalk.i64_in _ (by omega)
                clear O r1 r2 hz1 hz2
                go_wp2_with fail
                go_quiet (fail)
                go_wp2_with fail
                exact ⟨⟨k + 1, by omega, by push_cast; rfl, (HO.out.keep (below_drewN _ _)).store _⟩, by simp only [intOf]; omega⟩
            · clear O
              go_wp2_with fail
              refine (now_any p g c' ask wr HO.out.cs.at_).mono ?_
              rintro e w13 ⟨rfl, rfl⟩
              go_wp2_with fail
              refine (true_any p2 g2 _ wr HO.out.two).mono ?_
              rintro e w13 ⟨he, rfl⟩
              replace he : e = .returned (.int .i64 0) := he
              subst he
              go_wp2_with fail
              refine (now_any p2 g2 _ 0 wr HO.out.two).mono ?_
              rintro e w13 ⟨he, rfl⟩
              rw [two_start] at he
              subst he
              go_wp2_with fail
              refine (drift_any p2 g2 _ wr HO.out.two).mono ?_
              rintro e w13 ⟨he, rfl⟩
              replace he : e = .returned (.int .i64 0) := he
              subst he
              go_wp2_with fail
              go_ret
              exact ⟨rfl, HB7.out.trans (HO.out.cs.out.mono HB7.out.size)⟩
end Go.Proofs.Ytlcjkfikfnfneaa
