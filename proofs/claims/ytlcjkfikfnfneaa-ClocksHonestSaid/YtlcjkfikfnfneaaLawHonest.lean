/- THE WALK of ClocksHonest. -/
import Derived.Test.YtlcjkfikfnfneaaHon
namespace Go.Proofs.Ytlcjkfikfnfneaa
open Go.RowKit

theorem own_block {w : World} {base g : Nat} {e : TypeId} {xs : List Value} (hb : base ≤ g) (h : w.heap[g]? = some (.cells xs.toArray e (0, 0))) (hm : xs.length ≤ maxLen) : w.ownsRow base e 1 (.slice (some ⟨g, 0, none⟩) xs.length xs.length) xs.length xs :=
  ⟨by simp, Or.inr ⟨g, _, xs.toArray, rfl, hb, h, Nat.le_refl _, hm, by simp, by simp⟩⟩
theorem Hn.start {w1 w2 : World} {p g m : Nat} (h : Cs w1 p g (Ck.start m) w2) (hm : m ≤ 8) :
    Hn w1 (((w2.alloc (.cells #[.int .i64 0] 3)).alloc (.cells (Array.replicate m (.int .i64 0)) 3)).alloc (.cells #[.slice (some ⟨w2.heap.size + 1, 0, none⟩) m m] 27)) p g (Ck.start m)
      (.slice (some ⟨w2.heap.size, 0, none⟩) 1 1) [0] (.slice (some ⟨w2.heap.size + 1 + 1, 0, none⟩) 1 1) [.slice (some ⟨w2.heap.size + 1, 0, none⟩) m m] [List.replicate m 0] := by
  have hs := h.out.size
  have hl := h.at_.lt
  have b1 : Below w2.heap.size w2 (((w2.alloc (.cells #[.int .i64 0] 3)).alloc (.cells (Array.replicate m (.int .i64 0)) 3)).alloc (.cells #[.slice (some ⟨w2.heap.size + 1, 0, none⟩) m m] 27)) := (((Below.refl _ _).alloc (Nat.le_refl _) _).alloc (by simp) _).alloc (by simp; omega) _
  have k1 := blk_alloc (blk_alloc (heap_at w2 (.cells #[.int .i64 0] 3) _ rfl) (.cells (Array.replicate m (.int .i64 0)) 3)) (.cells #[.slice (some ⟨w2.heap.size + 1, 0, none⟩) m m] 27)
  have k2 := blk_alloc (heap_at (w2.alloc (.cells #[.int .i64 0] 3)) (.cells (Array.replicate m (.int .i64 0)) 3) (w2.heap.size + 1) (by simp)) (.cells #[.slice (some ⟨w2.heap.size + 1, 0, none⟩) m m] 27)
  have k3 := heap_at ((w2.alloc (.cells #[.int .i64 0] 3)).alloc (.cells (Array.replicate m (.int .i64 0)) 3)) (.cells #[.slice (some ⟨w2.heap.size + 1, 0, none⟩) m m] 27) (w2.heap.size + 1 + 1) (by simp)
  refine ⟨h.keep b1, own_block (xs := [I8 0]) hs k1 (by decide), own_block (xs := [.slice (some ⟨w2.heap.size + 1, 0, none⟩) m m]) (by omega) k3 (by simp [maxLen]), fun b hb => ?_, fun b hb => ?_, rfl, fun k v ts h1 h2 => ?_⟩
  · obtain rfl : w2.heap.size = b := by simpa [Value.ownBlock] using hb
    exact ⟨by omega, by omega, by simp [Value.ownBlock]; omega⟩
  · obtain rfl : w2.heap.size + 1 + 1 = b := by simpa [Value.ownBlock] using hb
    exact ⟨by omega, by omega⟩
  · obtain rfl : k = 0 := by have := (List.getElem?_eq_some_iff.1 h1).1; simp at this; omega
    simp at h1 h2
    subst h1 h2
    have := IntsV.of_block (l := List.replicate m 0) (c := m) k2 (fun j x hx => by
      simp [List.getElem?_replicate] at hx
      simp [Array.getElem?_replicate, hx.1]
      omega) (by simp) (by unfold maxLen; omega)
    simp only [List.length_replicate] at this
    exact this.mono (fun q _ hq => ⟨by omega, by omega, by simp [Value.ownBlock]; omega, by simp [Value.ownBlock]; omega⟩)
theorem Hn.fresh {w1 w8 wr : World} {p g n : Nat} {c : Ck} {tv sv v : Value} {tl l : List Int} {cs : List Value} {tss : List (List Int)} (h : Hn w1 w8 p g c tv tl sv cs tss) (ho : wr.ownsRow w8.heap.size 3 1 v n (l.map I8)) : IntsV (Rk p g tv sv) wr v l :=
  (IntsV.of_own ho).mono (fun q _ hq => by
    have h1 := h.ck.at_.lt
    have h2 := h.tr.lt
    have h3 := h.ti.lt
    refine ⟨by omega, by omega, fun e2 => ?_, fun e2 => ?_⟩
    · have := (h2 q e2).2; omega
    · have := (h3 q e2).2; omega)
theorem Ck.tick_hon {c c' : Ck} {d rho : Int} {dl : List Int} {b : Bool} (h : 0 ≤ rho ∧ rho ≤ 999) (hb : b = decide (c.drift ≤ rho)) (he : c.tickE d dl = 0) (hc : c' = c.tickR d dl) : honU d dl rho b dl.length = decide (c'.drift ≤ rho) := by
  rw [honU_drift h hb, hc]
  unfold Ck.tickR
  rw [if_pos he]
theorem own_at {w : World} {base n : Nat} {e : TypeId} {v : Value} {xs : List Value} (h : w.ownsRow base e 1 v n xs) {k : Nat} {x : Value} (hx : xs[k]? = some x) :
    ∃ g c, v = .slice (some ⟨g, 0, none⟩) n c ∧ base ≤ g ∧ g < w.heap.size ∧ n ≤ c ∧ c ≤ maxLen ∧ w.cell? ⟨g, k, none⟩ = some x := by
  have hk := (List.getElem?_eq_some_iff.1 hx).1
  obtain ⟨h1, ⟨rfl, rfl⟩ | ⟨g, cap, cur, rfl, hg, hh, hnc, hcm, hcs, ht⟩⟩ := h
  · omega
  · refine ⟨g, cap, rfl, hg, lt_of_heap hh, hnc, hcm, ?_⟩
    rw [blk_cell hh, ← Array.getElem?_toList, ← List.getElem?_take_of_lt (l := cur.toList) (show k < n * 1 by omega), ht, hx]
theorem own_cell {w : World} {base n n' c g : Nat} {e : TypeId} {xs : List Value} (h : w.ownsRow base e 1 (.slice (some ⟨g, 0, none⟩) n c) n' xs) {k : Nat} {x : Value} (hx : xs[k]? = some x) :
    w.cell? ⟨g, k, none⟩ = some x ∧ n ≤ c ∧ c ≤ maxLen := by
  obtain ⟨g', c', e1, _, _, h2, h3, h4⟩ := own_at h hx
  injection e1 with e1 e2 e3
  injection e1 with e1
  injection e1 with e1
  subst e1 e2 e3
  exact ⟨h4, h2, h3⟩
theorem Snap.more {rho d : Int} {c c' : Ck} {tl dl : List Int} {tss : List (List Int)} (hr : 0 ≤ rho ∧ rho ≤ 999) (hf : c'.Fit) (hl : tl.length = tss.length) (he : c.tickE d dl = 0) (hc : c' = c.tickR d dl)
    (h : ∀ (k : Nat) (t : Int) (ts : List Int), tl[k]? = some t → tss[k]? = some ts → Snap rho c t ts) (k : Nat) (t : Int) (ts : List Int) (h1 : (tl ++ [c'.passed])[k]? = some t) (h2 : (tss ++ [c'.now])[k]? = some ts) : Snap rho c' t ts := by
  rcases Nat.lt_or_ge k tl.length with hk | hk
  · rw [List.getElem?_append_left hk] at h1
    rw [List.getElem?_append_left (by omega)] at h2
    rw [hc]
    exact (h k t ts h1 h2).tick hr he
  · rw [List.getElem?_append_right hk] at h1
    rw [List.getElem?_append_right (by omega), ← hl] at h2
    have hz : k - tl.length = 0 := by
      have := (List.getElem?_eq_some_iff.1 h1).1
      simp at this
      omega
    rw [hz] at h1 h2
    simp at h1 h2
    subst h1 h2
    exact Snap.present hr hf
/-- Times that were noted stay apart when the row of truth grows. -/
theorem Hn.apart {w1 wr wt : World} {p g : Nat} {c : Ck} {tv tv' sv v : Value} {tl ts : List Int} {cs : List Value} {tss : List (List Int)} (h : Hn w1 wr p g c tv tl sv cs tss) (hv : IntsV (Rk p g tv sv) wr v ts) (hgrow : wr.grownBy wt tv.ownBlock)
    (hat : tv'.ownBlock = tv.ownBlock ∨ ∃ k, wr.heap.size ≤ k ∧ tv'.ownBlock = some k) : IntsV (Rk p g tv' sv) wt v ts := by
  have hs := hgrow.size
  refine (hv.old.keep (fun q _ hq => hgrow.block q hq.2 (fun e => hq.1.2.2.1 e.symm)) hs).mono (fun q _ hq => ⟨hq.1.1, hq.1.2.1, fun e2 => ?_, hq.1.2.2.2⟩)
  rcases hat with e | ⟨k', hk', e⟩
  · exact hq.1.2.2.1 (by rw [← e, e2])
  · rw [e] at e2
    injection e2 with e2
    have := hq.2
    omega
theorem Hn.box {w1 wr : World} {p g : Nat} {c : Ck} {tv sv : Value} {tl : List Int} {cs : List Value} {tss : List (List Int)} (h : Hn w1 wr p g c tv tl sv cs tss) (o : Obj) : Hn w1 (wr.alloc o) p g c tv tl sv cs tss :=
  h.keep ((Below.refl _ _).alloc (Nat.le_refl _) o)
theorem at_or {g H : Nat} {r : Option Nat} {S : Nat} (n c : Nat) (h : r = some g ∨ g = H) (hS : S ≤ H) : (Value.slice (some ⟨g, 0, none⟩) n c).ownBlock = r ∨ ∃ k, S ≤ k ∧ (Value.slice (some ⟨g, 0, none⟩) n c).ownBlock = some k := by
  rcases h with h | h
  · exact .inl h.symm
  · exact .inr ⟨g, by omega, rfl⟩
set_option maxRecDepth 100000 in
set_option maxHeartbeats 2000000 in
theorem clocksHonest_any (n rho : Int) (l : List Mv) (v : Value) (w : World) (hv : MovesIn w v l) :
    Calls Try.prog 6 #[.int .i64 n, v, .int .i64 rho] w fun e w' => e = .returned (.bool true) ∧ Below w.heap.size w w' := by
  obtain ⟨i0, hi, hz0, hz1, hz2⟩ := info_parts Try.info3
  obtain ⟨iS, hiS, hzS0, hzS1, hzS2⟩ := info_parts Try.infoS
  have HV := Lib.hid hv
  obtain ⟨va, vc, rfl, hvc, hvm, _⟩ := hv
  unfold maxLen at hvm
  by_cases hn : 1 ≤ n ∧ n ≤ 8
  case neg =>
    go_enter Try.func6, Try.ntmps6
    go_wp2_with fail
    refine (awake_any w).mono ?_
    rintro e w1 ⟨rfl, hb1⟩
    go_wp2_with fail
    refine (new_no n w1 hn).mono ?_
    rintro e w2 ⟨rfl, rfl⟩
    clear hn
    go_wp2_with fail
    go_ret
    exact ⟨rfl, hb1⟩
  obtain ⟨m, rfl⟩ : ∃ m : Nat, n = m := ⟨n.toNat, by omega⟩
  have HNM := Lib.hid hn
  obtain ⟨hn1, hn8⟩ := hn
  by_cases hok : 0 ≤ rho ∧ rho ≤ 999 ∧ l.length ≤ 60
  case neg =>
    rcases (show rho < 0 ∨ (¬ rho < 0 ∧ 999 < rho) ∨ (¬ rho < 0 ∧ ¬ 999 < rho ∧ (60 : Int) < (l.length : Int)) from by omega) with h1 | ⟨h1, h2⟩ | ⟨h1, h2, h3⟩
    all_goals
      clear hok
      go_enter Try.func6, Try.ntmps6
      go_wp2_with fail
      refine (awake_any w).mono ?_
      rintro e w1 ⟨rfl, hb1⟩
      go_wp2_with fail
      refine (new_ok m w1 HNM.out).mono ?_
      rintro e w2 ⟨p, g, rfl, C1, hp, hg, hb⟩
      clear C1
      go_wp2_with fail
      go_ret
      exact ⟨rfl, hb1.trans (hb.mono hb1.size)⟩
  obtain ⟨hr0, hr9, hl60⟩ := hok
  have hn8' : m ≤ 8 := by omega
  have HRH : Hid (0 ≤ rho ∧ rho ≤ 999) := Lib.hid ⟨hr0, hr9⟩
  have q1 : decide (rho < 0) = false := decide_eq_false (by omega)
  have q2 : decide ((999 : Int) < rho) = false := decide_eq_false (by omega)
  have q3 : decide ((60 : Int) < (l.length : Int)) = false := decide_eq_false (by omega)
  have hmk := fun w => run_make_rowN (P := Try.prog) 27 3 i0 (.int .i64 0) Try.underlying27 hi hz0 .i64 .i64 m m (Nat.le_refl _) (by rw [hz2]; omega) (by omega) w
  simp only [hz1, Nat.mul_one, Value.cells, madeCells_one] at hmk
  go_enter Try.func6, Try.ntmps6
  go_wp2_with fail
  refine (awake_any w).mono ?_
  rintro e w1 ⟨rfl, hb1⟩
  have HB1 := Lib.hid hb1
  go_wp2_with fail
  refine (new_ok m w1 HNM.out).mono ?_
  rintro e w2 ⟨p, g, rfl, C1, hp, hg, hb⟩
  have H2 := Lib.hid (Cs.of_new HNM.out C1 hp hg hb)
  clear C1 hp hg hb hb1
  have HS := Lib.hid (Hn.start (m := m) H2.out hn8')
  clear H2
  go_wp2_with fail
  clear hmk
  go_loopw [9, 10, 11, 54] (fun hb tv sv i wr => ∃ (j : Nat) (c : Ck) (b : Bool) (tl : List Int) (cs : List Value) (tss : List (List Int)), j ≤ l.length ∧ i = .int .i64 j ∧ hb = .bool b ∧ Hid (b = decide (c.drift ≤ rho)) ∧ Hid (c.now.length = m) ∧ tl.length = cs.length ∧ tl.length ≤ j + 1 ∧
    Hid (∀ (k : Nat) (t : Int) (ts : List Int), tl[k]? = some t → tss[k]? = some ts → Snap rho c t ts) ∧ Hn w1 wr p g c tv tl sv cs tss) (fun _ _ _ i _ => l.length - (intOf i).toNat)
  case atStart =>
    refine ⟨0, Ck.start m, true, [0], _, [List.replicate m 0], by omega, rfl, rfl, Lib.hid (by simp [Ck.start, hr0]), Lib.hid (by simp [Ck.start]), rfl, by simp, Lib.hid (fun k t ts h1 h2 => ?_), HS.out⟩
    obtain rfl : k = 0 := by have := (List.getElem?_eq_some_iff.1 h1).1; simp at this; omega
    simp at h1 h2
    subst h1 h2
    exact Snap.present (c := Ck.start m) HRH.out (Ck.start_fit ⟨by omega, hn8'⟩)
  case round =>
    obtain ⟨j, c, b, tl, cs, tss, hj, rfl, rfl, HH, HM, hlen, hlj, HSN, T⟩ := hrel
    obtain ⟨wo, rfl⟩ : ∃ wo : World, wo = wr := ⟨_, rfl⟩
    have HT := Lib.hid T
    have hBw := HB1.out.trans (T.ck.out.mono HB1.out.size)
    have HBw := Lib.hid hBw
    clear T HS
    by_cases hlt : j < l.length
    · obtain ⟨q, hq⟩ : ∃ q, l[j]? = some q := ⟨_, List.getElem?_eq_getElem hlt⟩
      obtain ⟨b', o, c1, dv, e1, _, _, hbs, t0, t1, hm⟩ := HV.out.at_ hq
      injection e1 with e1 _ e2
      subst e1 e2
      have HI := Lib.hid (hm.dl.old.below hBw)
      have HMV := Lib.hid hm
      have hlen8 := Nat.le_trans hm.len reach_le
      obtain ⟨da, dc, rfl, hdc, hdm, _⟩ := hm.dl
      unfold maxLen at hdm
      have p0 := (hBw.cell (p := ⟨b', o + j * 2, none⟩) hbs).trans t0
      have p1 := (hBw.cell (p := ⟨b', o + j * 2 + 1, none⟩) hbs).trans t1
      have k0 : (0 : Int) ≤ (j : Int) := by omega
      have k1 : (j : Int) < (l.length : Int) := by omega
      obtain ⟨X, hX⟩ : ∃ X, X = wo.heap.size := ⟨_, rfl⟩
      obtain ⟨W0, hW0⟩ : ∃ W0, W0 = wo.alloc (.cells #[.int .i64 q.d, .slice da q.dl.length dc] 37) := ⟨_, rfl⟩
      have hBo : Below wo.heap.size wo W0 := by rw [hW0]; exact (Below.refl _ _).alloc (Nat.le_refl _) _
      have hX0 : W0.heap[X]? = some (.cells #[.int .i64 q.d, .slice da q.dl.length dc] 37 (0, 0)) := by rw [hW0]; exact heap_at _ _ _ hX
      have HX0 := Lib.hid hX0
      have HT0 := Lib.hid (HT.out.keep hBo)
      have HI0 := Lib.hid (HI.out.below hBo)
      have hlp := HT.out.ck.at_.lt
      have hpX : p < X ∧ g < X := by rw [hX]; exact hlp
      have hXW : X < W0.heap.size := lt_of_heap hX0
      have hDpg : ¬ (True ∧ p < w.heap.size) ∧ ¬ (True ∧ g < w.heap.size) := by have h1 := HB1.out.size; have h2 := HT.out.ck.new; omega
      have HW0 := Lib.hid hW0
      have HX' := Lib.hid hX
      obtain ⟨x0, x1, -, -⟩ := blk2 hX0
      have x0d : W0.drew.cell? ⟨X, 0, none⟩ = some (.int .i64 q.d) := x0
      have x1d : W0.drew.cell? ⟨X, 1, none⟩ = some (.slice da q.dl.length dc) := x1
      have x0a : (W0.alloc (.cells #[] 3)).drew.cell? ⟨X, 0, none⟩ = some (.int .i64 q.d) := (blk2 (blk_alloc hX0 _)).1
      have x1a : (W0.alloc (.cells #[] 3)).drew.cell? ⟨X, 1, none⟩ = some (.slice da q.dl.length dc) := (blk2 (blk_alloc hX0 _)).2.1
      obtain ⟨E, hE⟩ : ∃ E, E = c.tickE q.d q.dl := ⟨_, rfl⟩
      have HE := Lib.hid hE
      clear t0 t1 hq hm hBw hbs hX hW0 hX0 hBo hlp x0 x1 hE
      go_wp2_with fail
      rw [← HX'.out, ← HW0.out]
      go_region_held_law (fun y => y.cell? ⟨X, 0, none⟩ = some (.int .i64 q.d) ∧ y.cell? ⟨X, 1, none⟩ = some (.slice da q.dl.length dc)) (first | exact ⟨by assumption, by assumption⟩ | go_keep) (first
        | (refine step_append_ints rfl (.tmp 61) (.tmp 63) _ rfl _ 3 i0 Try.underlying27 hi hz0 hz1 hz2 _ 0 [] rfl (empty_ints _) _ _ q.dl rfl (HI0.out.below (((below_drew W0)).alloc (Nat.le_refl _) _)) (by omega) (by simp) ?_; intro v7 w7 hown7 hgrow7 hat7; rw [Nat.zero_add, List.nil_append] at hown7; obtain ⟨a7, c7, rfl⟩ := own_slice hown7; have hcp := copied_ints (w := W0.drew) hown7 hgrow7; have I7 := Lib.hid hcp.1; have B7 := Lib.hid ((below_drew W0).trans hcp.2); have H7 := Lib.hid (HT0.out.keep B7.out); have hX7 := (hcp.2.block X (lt_of_heap HX0.out)).trans HX0.out; obtain ⟨f0, f1, -, -⟩ := blk2 hX7; have HX7 := Lib.hid hX7; clear hown7 hgrow7 hat7 hcp hX7)
        | (go_at_call 10; (refine (cs_tick H7.out.ck q.d HMV.out.dok HMV.out.lok I7.out (by have := HT0.out.ck.at_.lt; exact ⟨fun h => by have h2 : W0.heap.size ≤ p := h; omega, fun h => by have h2 : W0.heap.size ≤ g := h; omega⟩)).mono ?_); rintro e w8 ⟨rfl, T8, hm8⟩; rw [← HE.out]; have HT8 := Lib.hid (H7.out.tick hm8 T8); have hX8 := (hm8.block X (lt_of_heap HX7.out) (by rintro (e | e) <;> omega)).trans HX7.out; obtain ⟨g0, g1, -, -⟩ := blk2 hX8; have HX8 := Lib.hid hX8; have HI8 := Lib.hid ((HI0.out.below B7.out).mod hm8 (fun k _ hk hF => by rcases hF with rfl | rfl; exact hDpg.1 hk; exact hDpg.2 hk)); clear T8 hm8 hX8))
      all_goals
        clear x0d x1d x0a x1a f0 f1 p0 p1
        by_cases hE0 : E = 0
        · subst hE0
          rw [show ((0 : Nat) : Int) = 0 from rfl, show ((0 : Int) != 0) = false from rfl]
          have hE := HE.out.symm
          have hW := went_ok hE
          have h0 := Ck.tick0 hE
          obtain ⟨c', hc'⟩ : ∃ c', c' = c.tickR q.d q.dl := ⟨_, rfl⟩
          have hT8 := HT8.out
          rw [← hc'] at hW hT8
          have HT9 := Lib.hid hT8
          have HCL := Lib.hid (hW.2.trans HM.out)
          have HW := Lib.hid hW.1
          have HC' := Lib.hid hc'
          have HH0 := Lib.hid h0
          have hdlm : q.dl.length = m := h0.len.trans HM.out
          have HDM := Lib.hid hdlm
          clear hT8 hc' hW h0 hE hdlm
          go_wp2_with fail
          go_loopw [9, 14, 15] (fun hb x i wt => ∃ (k : Nat) (bb : Bool), k ≤ m ∧ i = .int .i64 k ∧ hb = .bool bb ∧ Hid (bb = honU q.d q.dl rho b k) ∧ wt.ownsRow w8.heap.size 3 1 x k ((c'.now.take k).map I8) ∧ Below w8.heap.size w8 wt) (fun _ _ i _ => m - (intOf i).toNat)
          case atStart => exact ⟨0, b, by omega, rfl, rfl, Lib.hid rfl, World.ownsRow_nil _ _ _ _, Below.refl _ _⟩
          case round =>
            obtain ⟨k, bb, hk, rfl, rfl, HBB, hown, hB⟩ := hrel
            obtain ⟨ax, cx, rfl⟩ := own_slice hown
            have HO := Lib.hid hown
            have HBx := Lib.hid hB
            have hs := hB.size
            have HTx := Lib.hid (HT9.out.keep hB)
            have HIx := Lib.hid (HI8.out.below hB)
            have HXx := Lib.hid ((hB.block X (lt_of_heap HX8.out)).trans HX8.out)
            clear hown hB
            by_cases hkm : k < m
            · obtain ⟨z, hz⟩ : ∃ z, c'.now[k]? = some z := ⟨_, List.getElem?_eq_getElem (by rw [HCL.out]; exact hkm)⟩
              obtain ⟨y, hy⟩ : ∃ y, q.dl[k]? = some y := ⟨_, List.getElem?_eq_getElem (by rw [HDM.out]; exact hkm)⟩
              obtain ⟨gb, go_, gc, e1, _, _, _, _, t0⟩ := HIx.out.at_ hy
              injection e1 with e1 en e2
              clear en
              subst e1 e2
              have hyI := HMV.out.lok k y hy
              obtain ⟨x0, x1, -, -⟩ := blk2 HXx.out
              have htk : c'.now.take (k + 1) = c'.now.take k ++ [z] := by rw [List.take_add_one, hz]; rfl
              have HTK := Lib.hid htk
              have HZ := Lib.hid (Ck.at_of hz)
              have hnx : honU q.d q.dl rho b (k + 1) = (bb && T3.honB q.d y rho) := by rw [HBB.out]; simp only [honU]; rw [getD_of hy]
              have HNX := Lib.hid hnx
              have k0 : (0 : Int) ≤ (k : Int) := by omega
              have k1 : (k : Int) < (m : Int) := by omega
              have k2 : (k : Int) < (q.dl.length : Int) := by rw [HDM.out]; exact k1
              clear hz hy htk hnx
              cases bb with
              | true =>
                have d0 : wr.drew.cell? ⟨X, 0, none⟩ = some (.int .i64 q.d) := x0
                have d1 : wr.drew.cell? ⟨X, 1, none⟩ = some (.slice (some ⟨gb, go_, none⟩) q.dl.length dc) := x1
                have d2 : wr.drew.cell? ⟨gb, go_ + k, none⟩ = some (.int .i64 y) := t0
                obtain ⟨hh, hhE⟩ : ∃ hh, hh = T3.honB q.d y rho := ⟨_, rfl⟩
                have HHE := Lib.hid hhE
                clear hhE
                go_wp2_with fail
                go_region_held_law (fun u => u.cell? ⟨X, 0, none⟩ = some (.int .i64 q.d) ∧ u.cell? ⟨X, 1, none⟩ = some (.slice (some ⟨gb, go_, none⟩) q.dl.length dc) ∧ u.cell? ⟨gb, go_ + k, none⟩ = some (.int .i64 y)) (first | exact ⟨by assumption, by assumption, by assumption⟩ | go_keep) (first
                  | (go_at_call 18; (refine (honest_any q.d y rho _ HMV.out.dok hyI).mono ?_); rintro e w5 ⟨he, hb5⟩; rw [← HHE.out] at he; subst he; have hb6 := (below_drew wr).trans hb5; have hX5 := (hb6.block X (lt_of_heap HXx.out)).trans HXx.out; obtain ⟨j0, j1, -, -⟩ := blk2 hX5; have j2 := ((World.cell?_of_block (hb6.block gb (World.block_lt_of_cell? wr _ t0))).trans t0); have HB6 := Lib.hid hb6; clear hb5 hb6 hX5))
                all_goals
                  have HTy := Lib.hid (HTx.out.keep HB6.out)
                  have HOy := Lib.hid (ownsRow_keep HO.out (fun q hq => HB6.out.block q (HO.out.lt q hq).2))
                  have hsy := Nat.le_trans hs HB6.out.size
                  have HBy := Lib.hid (HBx.out.trans (HB6.out.mono hs))
                  go_wp2_with fail
                  refine (now_any p g c' k _ HTy.out.ck.at_).mono ?_
                  rintro e w6 ⟨he, rfl⟩
                  rw [HZ.out] at he
                  subst he
                  go_wp2_with (at_builtin; refine wpList_append_lies _ rfl (.tmp 89) (.tmp 93) _ rfl w8.heap.size 3 i0 _ 1 8 Try.underlying27 hi hz0 hz1 hz2 rfl (by omega) (.slice ax k cx) k _ rfl (HOy.out.alloc _) ⟨w5.heap.size, 0, none⟩ 1 1 [.int .i64 z] rfl rfl (World.news_of_block (cs := #[.int .i64 z]) (t := 3) (fr := (0, 0)) (heap_at _ _ _ rfl)) (by simp [Value.oneCell']) (by omega) (by unfold maxLen; omega) (by omega) (by simp; omega) (w5.heap.size + 1) (by simp) ?_; intro g3 cap3 w7' hown3 hgrow3 hat3 hlt3)
                  refine ⟨⟨k + 1, hh, by omega, by push_cast; rfl, rfl, Lib.hid (by rw [HNX.out, HHE.out]; rfl), ?_, (HBy.out.alloc hsy _).grown hgrow3 (by simp; omega) (fun q hq => (HOy.out.lt q hq).1)⟩, by simp only [intOf]; omega⟩
                  rw [HTK.out, List.map_append]
                  exact hown3
              | false =>
                go_wp2_with fail
                go_quiet (fail)
                have HB6 := Lib.hid (below_drewN wr nq)
                have HTy := Lib.hid (HTx.out.keep HB6.out)
                have HOy := Lib.hid (ownsRow_keep HO.out (fun q hq => HB6.out.block q (HO.out.lt q hq).2))
                have hsy := Nat.le_trans hs HB6.out.size
                have HBy := Lib.hid (HBx.out.trans (HB6.out.mono hs))
                go_wp2_with fail
                refine (now_any p g c' k _ HTy.out.ck.at_).mono ?_
                rintro e w6 ⟨he, rfl⟩
                rw [HZ.out] at he
                subst he
                go_wp2_with (at_builtin; refine wpList_append_lies _ rfl (.tmp 89) (.tmp 93) _ rfl w8.heap.size 3 i0 _ 1 8 Try.underlying27 hi hz0 hz1 hz2 rfl (by omega) (.slice ax k cx) k _ rfl (HOy.out.alloc _) ⟨wr.heap.size, 0, none⟩ 1 1 [.int .i64 z] rfl rfl (World.news_of_block (cs := #[.int .i64 z]) (t := 3) (fr := (0, 0)) (heap_at _ _ _ rfl)) (by simp [Value.oneCell']) (by omega) (by unfold maxLen; omega) (by omega) (by simp; omega) (wr.heap.size + 1) (by simp) ?_; intro g3 cap3 w7' hown3 hgrow3 hat3 hlt3)
                refine ⟨⟨k + 1, false, by omega, by push_cast; rfl, rfl, Lib.hid (by rw [HNX.out]; rfl), ?_, (HBy.out.alloc hsy _).grown hgrow3 (by simp; omega) (fun q hq => (HOy.out.lt q hq).1)⟩, by simp only [intOf]; omega⟩
                rw [HTK.out, List.map_append]
                exact hown3
            · obtain rfl : k = m := by omega
              have hbb : bb = decide (c'.drift ≤ rho) := by
                rw [HBB.out]; have := Ck.tick_hon HRH.out HH.out HE.out.symm HC'.out; rw [HDM.out] at this; exact this
              have htk : c'.now.take k = c'.now := List.take_of_length_le (by rw [HCL.out]; exact Nat.le_refl _)
              have HO2 := HO.out
              rw [htk] at HO2
              have HN := Lib.hid (HT9.out.fresh HO2)
              have HBB2 := Lib.hid hbb
              clear hbb htk HO2
              have hX9 := HXx.out
              obtain ⟨x0, x1, -, -⟩ := blk2 hX9
              have d0 : wr.drew.cell? ⟨X, 0, none⟩ = some (.int .i64 q.d) := x0
              clear hX9
              have hbs := Nat.le_trans HT8.out.ck.out.size hs
              have HCS := Lib.hid HTx.out.len
              have HSN2 := Lib.hid (Snap.more HRH.out HTx.out.ck.fit (hlen.trans HCS.out) HE.out.symm HC'.out HSN.out)
              have HL := Lib.hid hlen
              have hl3 : cs.length ≤ j + 1 := by omega
              clear hlen
              go_wp2_with fail
              refine (true_any p g c' _ HTx.out.ck.at_).mono ?_
              rintro e w9 ⟨rfl, rfl⟩
              go_wp2_with (at_builtin; first
                | (refine wpList_append_lies _ rfl (.tmp 95) (.tmp 98) _ rfl w1.heap.size 3 i0 _ 1 8 Try.underlying27 hi hz0 hz1 hz2 rfl (by omega) u10 tl.length (tl.map I8) rfl (HTx.out.box _).tr ⟨wr.heap.size, 0, none⟩ 1 1 [.int .i64 c'.passed] rfl rfl (World.news_of_block (cs := #[.int .i64 c'.passed]) (t := 3) (fr := (0, 0)) (heap_at _ _ _ rfl)) (by simp [Value.oneCell']) (by omega) (by unfold maxLen; omega) (by omega) (by simp; omega) (wr.heap.size + 1) (by simp) ?_; intro g3 cap3 w10 hown3 hgrow3 hat3 hlt3; have hat4 := at_or (tl.length + 1) cap3 hat3 (S := (wr.alloc (.cells #[.int .i64 c'.passed] 3)).heap.size) (by simp); have HT10 := Lib.hid ((HTx.out.box (.cells #[.int .i64 c'.passed] 3)).truth (x := c'.passed) hgrow3 hat4 rfl (by rw [List.map_append]; exact hown3)); have HN10 := Lib.hid ((HTx.out.box (.cells #[.int .i64 c'.passed] 3)).apart (HN.out.below ((Below.refl _ _).alloc (Nat.le_refl _) _)) hgrow3 hat4); have hb10 := Lib.hid (Nat.le_trans hbs (Nat.le_trans (Nat.le_succ _) (by have := hgrow3.size; simpa using this))); clear hown3 hgrow3 hat3 hlt3 hat4)
                | (refine wpList_append_lies _ rfl (.tmp 100) (.tmp 102) _ rfl w1.heap.size 27 iS _ 1 24 Try.underlying42 hiS hzS0 hzS1 hzS2 rfl (by omega) u11 cs.length cs rfl (HT10.out.box _).ti ⟨w10.heap.size, 0, none⟩ 1 1 [.slice ax k cx] rfl rfl (World.news_of_block (cs := #[.slice ax k cx]) (t := 27) (fr := (0, 0)) (heap_at _ _ _ rfl)) (by simp [Value.oneCell']) (by omega) (by unfold maxLen; omega) (by omega) (by have := hb10.out; simp; omega) (w10.heap.size + 1) (by simp) ?_; intro g4 cap4 w11 hown4 hgrow4 hat5 hlt4; have hat6 := at_or (cs.length + 1) cap4 hat5 (S := (w10.alloc (.cells #[.slice ax k cx] 27)).heap.size) (by simp); have HT11 := Lib.hid ((HT10.out.box (.cells #[.slice ax k cx] 27)).times (HN10.out.below ((Below.refl _ _).alloc (Nat.le_refl _) _)) hgrow4 hat6 rfl hown4); clear hown4 hgrow4 hat5 hlt4 hat6))
              refine (drift_any p g c' _ HT11.out.ck.at_).mono ?_
              rintro e w12 ⟨rfl, rfl⟩
              have hqq : (!bb == decide (c'.drift ≤ rho)) = false := by rw [HBB2.out]; cases decide (c'.drift ≤ rho) <;> rfl
              go_wp2_with fail
              clear hqq
              have HNW := Lib.hid (HT11.out.el cs.length (.slice ax k cx) c'.now (by simp) (by rw [HCS.out]; simp))
              go_loopw [112] (fun i wt => ∃ kk : Nat, kk ≤ tl.length + 1 ∧ i = .int .i64 kk ∧ Below w11.heap.size w11 wt) (fun i _ => tl.length + 1 - (intOf i).toNat)
              case atStart => exact ⟨0, by omega, rfl, Below.refl _ _⟩
              case round =>
                obtain ⟨kk, hkk, rfl, hB1⟩ := hrel
                have HB1 := Lib.hid hB1
                clear hB1
                by_cases hkl : kk < tl.length + 1
                · have i1 : (kk : Int) < (tl.length : Int) + 1 := by omega
                  go_wp2_with fail
                  go_loopw [17] (fun i wt => ∃ k2 : Nat, k2 ≤ k ∧ i = .int .i64 k2 ∧ Below w11.heap.size w11 wt) (fun i _ => k - (intOf i).toNat)
                  case atStart => exact ⟨0, by omega, rfl, HB1.out⟩
                  case round =>
                    obtain ⟨k2, hk2, rfl, hB2⟩ := hrel
                    have HB2 := Lib.hid hB2
                    clear hB2
                    by_cases hk3 : k2 < k
                    · cases bb with
                      | true =>
                        obtain ⟨y, hy⟩ : ∃ y, c'.now[k2]? = some y := ⟨_, List.getElem?_eq_getElem (by rw [HCL.out]; exact hk3)⟩
                        obtain ⟨t, ht⟩ : ∃ t, (tl ++ [c'.passed])[kk]? = some t := ⟨_, List.getElem?_eq_getElem (by simp; exact hkl)⟩
                        obtain ⟨v2, hv2⟩ : ∃ v2, (cs ++ [Value.slice ax k cx])[kk]? = some v2 := ⟨_, List.getElem?_eq_getElem (by simp; rw [← HL.out]; exact hkl)⟩
                        obtain ⟨ts, hts⟩ : ∃ ts, (tss ++ [c'.now])[kk]? = some ts := ⟨_, List.getElem?_eq_getElem (by simp; rw [← HCS.out, ← HL.out]; exact hkl)⟩
                        have hS := HSN2.out kk t ts ht hts
                        obtain ⟨z, hz⟩ : ∃ z, ts[k2]? = some z := ⟨_, List.getElem?_eq_getElem (by rw [hS.len, HCL.out]; exact hk3)⟩
                        obtain ⟨z0, z1, z2⟩ := hS.now k2 z y hz hy
                        have HON := Lib.hid (z2 (of_decide_eq_true HBB2.out.symm))
                        have HT12 := Lib.hid (HT11.out.keep HB2.out)
                        have hfit := HT12.out.ck.fit
                        have hy2 := hfit.now k2 y hy
                        have ht2 := hS.tb
                        have hp2 := hfit.passed
                        have hI1 : Hid (I64 (c'.passed - t)) := Lib.hid ⟨by omega, by omega⟩
                        have hI2 : Hid (I64 (y - z)) := Lib.hid ⟨by omega, by omega⟩
                        have hw1 : IntKind.i64.wrap (c'.passed - t) = c'.passed - t := IntWalk.i64_in _ (by omega)
                        have hw2 : IntKind.i64.wrap (y - z) = y - z := IntWalk.i64_in _ (by omega)
                        have hnw := HNW.out.below HB2.out
                        obtain ⟨nb, no_, nc, e1, _, _, _, _, c2⟩ := hnw.at_ hy
                        injection e1 with e1 en e2
                        clear en
                        subst e1 e2
                        obtain ⟨zb, zo, zc, rfl, hz5, hz6, _, _, c4⟩ := (HT12.out.el kk v2 ts hv2 hts).at_ hz
                        obtain ⟨c1, hg5, hg6⟩ := own_cell HT12.out.tr (k := kk) (x := .int .i64 t) (by rw [List.getElem?_map, ht]; rfl)
                        obtain ⟨c3, hg7, hg8⟩ := own_cell HT12.out.ti hv2
                        have d1 : wr.drew.cell? ⟨g3, kk, none⟩ = some (.int .i64 t) := c1
                        have d2 : wr.drew.cell? ⟨nb, no_ + k2, none⟩ = some (.int .i64 y) := c2
                        have d3 : wr.drew.cell? ⟨g4, kk, none⟩ = some (.slice (some ⟨zb, zo, none⟩) ts.length zc) := c3
                        have d4 : wr.drew.cell? ⟨zb, zo + k2, none⟩ = some (.int .i64 z) := c4
                        have i0 : (0 : Int) ≤ (kk : Int) := by omega
                        have i2 : (kk : Int) < (cs.length : Int) + 1 := by have := HL.out; omega
                        have i3 : (0 : Int) ≤ (k2 : Int) := by omega
                        have i4 : (k2 : Int) < (k : Int) := by omega
                        have i5 : (k2 : Int) < (ts.length : Int) := by have := hS.len; have := HCL.out; omega
                        have i6 : (kk : Int) < ((tl.length + 1 : Nat) : Int) := by omega
                        have i7 : (kk : Int) < ((cs.length + 1 : Nat) : Int) := by have := HL.out; omega
                        clear hy ht hv2 hts hS hz z2 hfit hnw
                        have HC := Lib.hid (And.intro c1 (And.intro c2 (And.intro c3 c4)))
                        clear c1 c2 c3 c4
                        go_wp2_with fail
                        go_region_held_law (fun u => u.cell? ⟨g3, kk, none⟩ = some (.int .i64 t) ∧ u.cell? ⟨nb, no_ + k2, none⟩ = some (.int .i64 y) ∧ u.cell? ⟨g4, kk, none⟩ = some (.slice (some ⟨zb, zo, none⟩) ts.length zc) ∧ u.cell? ⟨zb, zo + k2, none⟩ = some (.int .i64 z)) (first | exact ⟨by assumption, by assumption, by assumption, by assumption⟩ | go_keep) (first
                          | (go_at_call 15; (refine (true_any p g c' _ HT12.out.ck.at_.drew).mono ?_); rintro e w5 ⟨rfl, rfl⟩)
                          | (go_at_call 18; (refine (honest_any (c'.passed - t) (y - z) rho _ hI1.out hI2.out).mono ?_); rintro e w5 ⟨he, hb5⟩; rw [HON.out] at he; subst he; have hb6 := (below_drew wr).trans hb5; have hb7 := Lib.hid hb6; have j1 := (hb6.cell (p := ⟨g3, kk, none⟩) (World.block_lt_of_cell? wr _ HC.out.1)).trans HC.out.1; have j2 := (hb6.cell (p := ⟨nb, no_ + k2, none⟩) (World.block_lt_of_cell? wr _ HC.out.2.1)).trans HC.out.2.1; have j3 := (hb6.cell (p := ⟨g4, kk, none⟩) (World.block_lt_of_cell? wr _ HC.out.2.2.1)).trans HC.out.2.2.1; have j4 := (hb6.cell (p := ⟨zb, zo + k2, none⟩) (World.block_lt_of_cell? wr _ HC.out.2.2.2)).trans HC.out.2.2.2; clear hb5 hb6))
                        all_goals
                          go_wp2_with fail
                          exact ⟨⟨k2 + 1, by omega, by push_cast; rfl, HB2.out.trans (hb7.out.mono HB2.out.size)⟩, by simp only [intOf]; omega⟩
                      | false =>
                        go_wp2_with fail
                        exact ⟨⟨kk + 1, by omega, by push_cast; rfl, HB2.out⟩, by simp only [intOf]; omega⟩
                    · go_wp2_with fail
                      exact ⟨⟨kk + 1, by omega, by push_cast; rfl, HB2.out⟩, by simp only [intOf]; omega⟩
                · go_wp2_with fail
                  exact ⟨⟨j + 1, c', bb, tl ++ [c'.passed], cs ++ [.slice ax k cx], tss ++ [c'.now], by omega, by push_cast; rfl, rfl, HBB2, HCL, by simp [HL.out], by simp; omega, HSN2, HT11.out.keep HB1.out⟩, by simp only [intOf]; omega⟩
        · have hE1 : ((E : Int) != 0) = true := by rw [bne_iff_ne]; omega
          have hT8 := HT8.out
          rw [went_no (by rw [← HE.out]; exact hE0)] at hT8
          have HT9 := Lib.hid hT8
          clear hT8 hE0
          go_wp2_with fail
          exact ⟨⟨j + 1, c, b, tl, cs, tss, by omega, by push_cast; rfl, rfl, HH, HM, hlen, by omega, HSN, HT9.out⟩, by simp only [intOf]; omega⟩
    · go_wp2_with fail
      go_ret
      exact ⟨rfl, HBw.out⟩
end Go.Proofs.Ytlcjkfikfnfneaa
