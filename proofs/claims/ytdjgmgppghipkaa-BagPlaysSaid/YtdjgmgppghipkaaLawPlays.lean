/- THE WALK of BagPlays. -/
import Derived.Test.YtdjgmgppghipkaaTwo
import Derived.Deep.CutBlock
import Derived.Deep.DeepCutAuto
namespace Go.Proofs.Ytdjgmgppghipkaa
open Go.RowKit

set_option maxRecDepth 100000 in
set_option maxHeartbeats 8000000 in
theorem bagPlays_any (l : List Opn) (v : Value) (w : World) (hv : OpsIn w v l) (hl : l.length ≤ reachBytes) :
    Calls Try.prog 7 #[v] w fun e w' => e = .returned (.bool true) ∧ Below w.heap.size w w' := by
  have HV := Lib.hid hv
  have hl2 := Nat.le_trans hl reach_le
  obtain ⟨a, c, rfl, _⟩ := hv
  go_enter Try.func7, Try.ntmps7
  go_wp2_with fail
  refine (awake_any _).mono ?_
  rintro e w1 ⟨rfl, hb1⟩
  go_wp2_with fail
  refine (new_s w1).mono ?_
  rintro e w2 ⟨rfl, s2⟩
  have hp2 := s2.bag.head.2
  go_wp2_with fail
  go_loopw [25] (fun i wr => ∃ (j : Nat) (b : Bg), j ≤ l.length ∧ i = .int .i64 j ∧ b.sent ≤ j ∧ b.lost ≤ j ∧ Two w1 w1.heap.size w2.heap.size b b [] [] [] wr) (fun i _ => l.length - (intOf i).toNat)
  case atStart =>
    refine ⟨0, ⟨[], 0, 0⟩, by omega, rfl, Nat.le_refl _, Nat.le_refl _, ?_⟩
    exact Two.start s2
  case round =>
    obtain ⟨j, b, hj, rfl, hsn, hln, T⟩ := hrel
    have hz := T.size
    have hB : Below w.heap.size w wr := hb1.trans (T.out.mono hb1.size)
    obtain ⟨ma, mc, T1, m0, m1, m2, f0, f1, f2⟩ := T.cells
    have z1 : w2.heap.size < wr.heap.size := hz.2.1
    by_cases hlt : j < l.length
    · obtain ⟨q, hq⟩ : ∃ q, l[j]? = some q := ⟨_, List.getElem?_eq_getElem hlt⟩
      obtain ⟨b', o, c1, dv, e1, hc, hm, hbs, a0, a1, a2, a3, a4, ad, hqr⟩ := HV.out.at_ hq
      injection e1 with e1 _ e2
      subst e1 e2
      have p0 := (hB.cell (p := ⟨b', o + j * 5, none⟩) hbs).trans a0
      have p1 := (hB.cell (p := ⟨b', o + j * 5 + 1, none⟩) hbs).trans a1
      have p2 := (hB.cell (p := ⟨b', o + j * 5 + 2, none⟩) hbs).trans a2
      have p3 := (hB.cell (p := ⟨b', o + j * 5 + 3, none⟩) hbs).trans a3
      have p4 := (hB.cell (p := ⟨b', o + j * 5 + 4, none⟩) hbs).trans a4
      have AD := Lib.hid (ad.keep (w' := w1) (fun j hj _ => hb1.block j hj) hb1.size)
      obtain ⟨x1, x2, rfl, _⟩ := ad
      have hqr2 := Nat.le_trans hqr reach_le
      have k0 : (0 : Int) ≤ (j : Int) := by omega
      have k1 : (j : Int) < (l.length : Int) := by omega
      have TT := Lib.hid (T1.box (.cells #[.int .i64 q.kind, .int .i64 q.k, .int .i64 q.p.src, .int .i64 q.p.dst, .slice x1 q.p.data.length x2] 32))
      clear a0 a1 a2 a3 a4 T T1
      go_upto_block 2 with fail
      go_cut [7] (fun u7 wc => u7 = .bool true ∧ ∃ b' : Bg, b'.sent ≤ j + 1 ∧ b'.lost ≤ j + 1 ∧ Two w1 w1.heap.size w2.heap.size b' b' [] [] [] wc)
      case first =>
        by_cases h1 : q.kind = 1
        · have e1 : (q.kind == 1) = true := by rw [h1]; rfl
          have e2 : (q.kind == 2) = false := by rw [h1]; rfl
          clear h1
          go_wp2_with fail
          refine (look_t TT.out q.k).mono ?_
          rintro e w3 ⟨xa, xn, xc, rfl, T3⟩
          obtain ⟨o0, o1, o2, o3, o4⟩ := T3.has5 (n := wr.heap.size) List.mem_cons_self
          have z3 := (T3.lt (x := (wr.heap.size, (.cells #[.int .i64 q.kind, .int .i64 q.k, .int .i64 q.p.src, .int .i64 q.p.dst, .slice x1 q.p.data.length x2] 32 (0, 0)))) (by simp)).1
          have TB := Lib.hid (T3.box (.cells #[.int .i64 (b.pk q.k).src, .int .i64 (b.pk q.k).dst, .slice xa xn xc] 30))
          clear T3
          go_wp2_with fail
          refine (take_t TB.out q.k).mono ?_
          rintro e w4 ⟨ya, yn, yc, rfl, T4⟩
          obtain ⟨s0, s1, s2, s3, s4⟩ := T4.has5 (n := wr.heap.size) (List.mem_cons_of_mem _ List.mem_cons_self)
          obtain ⟨ma4, mc4, T4', m0, m1, m2, f0, f1, f2⟩ := T4.cells
          obtain ⟨q0, q1, q2, q3, q4, q5⟩ := T4'.has3 (n := w3.heap.size) List.mem_cons_self
          have z4 := (T4'.lt (x := (wr.heap.size, (.cells #[.int .i64 q.kind, .int .i64 q.k, .int .i64 q.p.src, .int .i64 q.p.dst, .slice x1 q.p.data.length x2] 32 (0, 0)))) (by simp)).1
          have z5 : w3.heap.size < w4.heap.size := (T4'.lt (x := (w3.heap.size, _)) List.mem_cons_self).1
          have z6 := T4'.size.2.1
          have z7 : w3.heap.size ≠ w2.heap.size := by omega
          have z8 : w3.heap.size ≠ wr.heap.size := by omega
          have TS := Lib.hid (T4'.set3 (n := w3.heap.size) (x' := .int .i64 (b.pk q.k).src) (y' := .int .i64 (b.pk q.k).dst) (z' := .slice ya yn yc) List.mem_cons_self [(wr.heap.size, (.cells #[.int .i64 q.kind, .int .i64 q.k, .int .i64 q.p.src, .int .i64 q.p.dst, .slice x1 q.p.data.length x2] 32 (0, 0)))] (by simp; omega))
          clear T4 T4' o0 o1 o2 o3 o4
          go_wp2_with fail
          refine (rlook_t TS.out q.k (by simp)).mono ?_
          rintro e w5 ⟨ua, un, uc, rfl, T5⟩
          obtain ⟨ma5, mc5, T5', n0, n1, n2, g0, g1, g2⟩ := T5.cells
          obtain ⟨o0, o1, o2, o3, o4⟩ := T5'.has5 (n := wr.heap.size) (List.mem_cons_of_mem _ List.mem_cons_self)
          have z9 := (T5'.lt (x := (wr.heap.size, (.cells #[.int .i64 q.kind, .int .i64 q.k, .int .i64 q.p.src, .int .i64 q.p.dst, .slice x1 q.p.data.length x2] 32 (0, 0)))) (by simp)).1
          have z10 := T5'.size.2.1
          have TC := Lib.hid (T5'.box (.cells #[.int .i64 (b.pk q.k).src, .int .i64 (b.pk q.k).dst, .slice ua un uc] 30))
          clear T5 T5' s0 s1 s2 s3 s4 q0 q1 q2 q3 q4 q5
          go_wp2_with fail
          refine (rtake_t TC.out q.k (by simp)).mono ?_
          rintro e w6 ⟨a6, n6, x6, y6, xa6, xn6, xc6, rfl, T6, i1, i2, i3⟩
          obtain ⟨ma6, mc6, T6', j0, j1, j2, h0, h1, h2⟩ := T6.cells
          obtain ⟨r0, r1, r2, -, -, -⟩ := T6'.has3 (n := w3.heap.size) (List.mem_cons_of_mem _ List.mem_cons_self)
          obtain ⟨t0, t1, t2, -, -, -⟩ := T6'.has3 (n := w5.heap.size) List.mem_cons_self
          have z11 : w5.heap.size ≠ w2.heap.size := by omega
          have TF := Lib.hid (T6'.store (m' := b.drop q.k) (lv := .slice a6 (b.drop q.k).l.length n6) (by simp) i1 i2 i3)
          clear T6 T6' o0 o1 o2 o3 o4 n0 n1 n2 g0 g1 g2
          go_wp2_with fail
          refine (same_t TF.out (b.pk q.k) (by simp) (by simp)).mono ?_
          rintro e w7 ⟨rfl, T7⟩
          go_wp2_with fail
          go_meet
          exact ⟨rfl, b.drop q.k, by have := b.drop_counts q.k; omega, by have := b.drop_counts q.k; omega, T7.weaken⟩
        by_cases h2 : q.kind = 2
        · have e1 : (q.kind == 1) = false := by rw [h2]; rfl
          have e2 : (q.kind == 2) = true := by rw [h2]; rfl
          clear h1 h2
          go_wp2_with fail
          refine (look_t TT.out q.k).mono ?_
          rintro e w3 ⟨xa, xn, xc, rfl, T3⟩
          obtain ⟨ma3, mc3, T3', m0, m1, m2, f0, f1, f2⟩ := T3.cells
          obtain ⟨o0, o1, o2, o3, o4⟩ := T3'.has5 (n := wr.heap.size) List.mem_cons_self
          have z3 := (T3'.lt (x := (wr.heap.size, (.cells #[.int .i64 q.kind, .int .i64 q.k, .int .i64 q.p.src, .int .i64 q.p.dst, .slice x1 q.p.data.length x2] 32 (0, 0)))) (by simp)).1
          have z10 := T3'.size.2.1
          have TB := Lib.hid (T3'.box (.cells #[.int .i64 (b.pk q.k).src, .int .i64 (b.pk q.k).dst, .slice xa xn xc] 30))
          clear T3 T3'
          go_wp2_with fail
          refine (rlook_t TB.out q.k (by simp)).mono ?_
          rintro e w4 ⟨ya, yn, yc, rfl, T4⟩
          obtain ⟨q0, q1, q2, -, -, -⟩ := T4.has3 (n := w3.heap.size) List.mem_cons_self
          obtain ⟨s0, s1, s2, s3, s4⟩ := T4.has5 (n := wr.heap.size) (List.mem_cons_of_mem _ List.mem_cons_self)
          have z4 := (T4.lt (x := (wr.heap.size, (.cells #[.int .i64 q.kind, .int .i64 q.k, .int .i64 q.p.src, .int .i64 q.p.dst, .slice x1 q.p.data.length x2] 32 (0, 0)))) (by simp)).1
          have z5 : w3.heap.size < w4.heap.size := (T4.lt (x := (w3.heap.size, _)) List.mem_cons_self).1
          have TC := Lib.hid (T4.box (.cells #[.int .i64 (b.pk q.k).src, .int .i64 (b.pk q.k).dst, .slice ya yn yc] 30))
          clear T4
          go_wp2_with fail
          refine (same_t TC.out (b.pk q.k) (by simp) (by simp)).mono ?_
          rintro e w7 ⟨rfl, T7⟩
          go_wp2_with fail
          go_meet
          exact ⟨rfl, b, by omega, by omega, T7.weaken⟩
        by_cases h3 : q.kind = 3
        · have e1 : (q.kind == 1) = false := by rw [h3]; rfl
          have e2 : (q.kind == 2) = false := by rw [h3]; rfl
          have e3 : (q.kind == 3) = true := by rw [h3]; rfl
          clear h1 h2 h3
          go_wp2_with fail
          refine (rtake_t TT.out q.k (by simp)).mono ?_
          rintro e w3 ⟨a3, n3, x3, y3, xa3, xn3, xc3, rfl, T3, i1, i2, i3⟩
          obtain ⟨ma3, mc3, T3', n0, n1, n2, g0, g1, g2⟩ := T3.cells
          obtain ⟨o0, o1, o2, o3, o4⟩ := T3'.has5 (n := wr.heap.size) List.mem_cons_self
          have z3 := (T3'.lt (x := (wr.heap.size, (.cells #[.int .i64 q.kind, .int .i64 q.k, .int .i64 q.p.src, .int .i64 q.p.dst, .slice x1 q.p.data.length x2] 32 (0, 0)))) (by simp)).1
          have z10 := T3'.size.2.1
          have z11 : wr.heap.size ≠ w2.heap.size := by omega
          have TF := Lib.hid (((T3'.store (m' := b.drop q.k) (lv := .slice a3 (b.drop q.k).l.length n3) (by simp) i1 i2 i3).box (.cells #[.slice a3 (b.drop q.k).l.length n3, .int .i64 (b.drop q.k).sent, .int .i64 (b.drop q.k).lost] 48)).box (.cells #[.int .i64 x3, .int .i64 y3, .slice xa3 xn3 xc3] 30))
          clear T3 T3' m0 m1 m2 f0 f1 f2
          go_wp2_with fail
          refine (drop_t TF.out q.k).mono ?_
          rintro e w7 ⟨rfl, T7⟩
          go_wp2_with fail
          go_meet
          exact ⟨rfl, b.drop q.k, by have := b.drop_counts q.k; omega, by have := b.drop_counts q.k; omega, T7.weaken⟩
        by_cases h4 : q.kind = 4
        · have e1 : (q.kind == 1) = false := by rw [h4]; rfl
          have e2 : (q.kind == 2) = false := by rw [h4]; rfl
          have e3 : (q.kind == 3) = false := by rw [h4]; rfl
          have e4 : (q.kind == 4) = true := by rw [h4]; rfl
          clear h1 h2 h3 h4
          go_wp2_with fail
          refine (rdouble_t TT.out q.k (by simp)).mono ?_
          rintro e w3 ⟨a3, n3, rfl, T3, i1, i2, i3⟩
          obtain ⟨ma3, mc3, T3', n0, n1, n2, g0, g1, g2⟩ := T3.cells
          obtain ⟨o0, o1, o2, o3, o4⟩ := T3'.has5 (n := wr.heap.size) List.mem_cons_self
          have z3 := (T3'.lt (x := (wr.heap.size, (.cells #[.int .i64 q.kind, .int .i64 q.k, .int .i64 q.p.src, .int .i64 q.p.dst, .slice x1 q.p.data.length x2] 32 (0, 0)))) (by simp)).1
          have z10 := T3'.size.2.1
          have z11 : wr.heap.size ≠ w2.heap.size := by omega
          have TF := Lib.hid ((T3'.store (m' := b.double q.k) (lv := .slice a3 (b.double q.k).l.length n3) (by simp) i1 i2 i3).box (.cells #[.slice a3 (b.double q.k).l.length n3, .int .i64 (b.double q.k).sent, .int .i64 (b.double q.k).lost] 48))
          clear T3 T3' m0 m1 m2 f0 f1 f2
          go_wp2_with fail
          refine (double_t TF.out q.k).mono ?_
          rintro e w7 ⟨rfl, T7⟩
          go_wp2_with fail
          go_meet
          exact ⟨rfl, b.double q.k, by have := b.double_counts q.k; omega, by have := b.double_counts q.k; omega, T7.weaken⟩
        have e1 : (q.kind == 1) = false := by simpa using h1
        have e2 : (q.kind == 2) = false := by simpa using h2
        have e3 : (q.kind == 3) = false := by simpa using h3
        have e4 : (q.kind == 4) = false := by simpa using h4
        by_cases h5 : q.kind = 5
        · have e5 : (q.kind == 5) = true := by rw [h5]; rfl
          clear h1 h2 h3 h4 h5
          go_wp2_with fail
          go_region_with (first | (go_at_call 16; go_loud (refine (list_t TT.out.drew).mono ?_); rintro e w3 ⟨la, lc, rfl, T3⟩; obtain ⟨ma', mc', T3', n0, n1, n2, g0, g1, g2⟩ := T3.cells; have TT3 := Lib.hid T3'; clear T3 T3') | (go_at_call 19; go_loud (refine (sameAll_t TT3.out b.l (by simp) (by simp)).mono ?_); rintro e w4 ⟨rfl, T4⟩))
          all_goals
            go_wp2_with fail
            go_meet
            exact ⟨rfl, b, by omega, by omega, T4.weaken⟩
        · have e5 : (q.kind == 5) = false := by simpa using h5
          clear h1 h2 h3 h4 h5
          go_upto_region 10 with fail
          go_cut [17, 18] (fun u17 u18 wx => ∃ (g : Nat) (a4 : Option Addr) (n4 : Nat) (ls : List (Value × List Pkt)) (ps : List (Value × List UInt8)), u17 = .pointer (some ⟨g, 0, none⟩) ∧ u18 = .int .i64 (b.sendE q.p) ∧ Two w1 w1.heap.size w2.heap.size b b ((.slice a4 (b.send q.p).l.length n4, (b.send q.p).l) :: ls) ps [(g, .cells #[.slice a4 (b.send q.p).l.length n4, .int .i64 (b.send q.p).sent, .int .i64 (b.send q.p).lost] 48 (0, 0)), (wr.heap.size, (.cells #[.int .i64 q.kind, .int .i64 q.k, .int .i64 q.p.src, .int .i64 q.p.dst, .slice x1 q.p.data.length x2] 32 (0, 0)))] wx ∧ (b.send q.p).l.length ≤ 48 ∧ (b.send q.p).sent < 4611686018427387904 ∧ (b.send q.p).lost < 4611686018427387904)
          case first =>
            have hsz : (wr.alloc (.cells #[.int .i64 q.kind, .int .i64 q.k, .int .i64 q.p.src, .int .i64 q.p.dst, .slice x1 q.p.data.length x2] 32)).heap.size = wr.heap.size + 1 := by simp
            have TZ := TT.out.box (.cells #[.slice none 0 0, .int .i64 0, .int .i64 0] 48)
            rw [hsz] at TZ
            have TTZ := Lib.hid TZ
            clear TZ hsz
            go_region_with (first
              | (go_at_call 15; (refine (own_t TT.out.drew _ q.p _ (AD.out.below TT.out.drew.out) hqr2).mono ?_); rintro e w3 ⟨xa, xn, xc, rfl, hb3, T3⟩; obtain ⟨ma', mc', T3', n0, n1, n2, g0, g1, g2⟩ := T3.cells; have TT3 := Lib.hid T3'; have z3 := T3'.size.2.1; have y3 := (T3'.lt (x := (wr.heap.size, (.cells #[.int .i64 q.kind, .int .i64 q.k, .int .i64 q.p.src, .int .i64 q.p.dst, .slice x1 q.p.data.length x2] 32 (0, 0)))) (by simp)).1; have TZ3 := Lib.hid (T3'.box (.cells #[.slice none 0 0, .int .i64 0, .int .i64 0] 48)); clear T3 T3' hb3)
              | (go_at_call 15; (refine (own_t TTZ.out.drew _ q.p _ (AD.out.below TTZ.out.drew.out) hqr2).mono ?_); rintro e w3 ⟨xa, xn, xc, rfl, hb3, T3⟩; obtain ⟨ma', mc', T3', n0, n1, n2, g0, g1, g2⟩ := T3.cells; have TT3 := Lib.hid T3'; have z3 := T3'.size.2.1; have y3 := (T3'.lt (x := (wr.heap.size, (.cells #[.int .i64 q.kind, .int .i64 q.k, .int .i64 q.p.src, .int .i64 q.p.dst, .slice x1 q.p.data.length x2] 32 (0, 0)))) (by simp)).1; clear T3 T3' hb3)
              | (go_at_call 21; (refine (rsend_t TT3.out q.p (by simp) (by simp) (by omega) (by omega)).mono ?_); rintro e w4 ⟨a4, n4, rfl, T4, i1, i2, i3⟩; have T4s := T4; try obtain ⟨q0, q1, q2, q3, q4, q5⟩ := T4s.has3 (n := wr.heap.size + 1) List.mem_cons_self)
              | (go_at_call 21; (refine (rsend_t TZ3.out q.p (by simp) (by simp) (by omega) (by omega)).mono ?_); rintro e w4 ⟨a4, n4, rfl, T4, i1, i2, i3⟩; obtain ⟨q0, q1, q2, q3, q4, q5⟩ := T4.has3 (n := w3.heap.size) List.mem_cons_self))
            all_goals
              go_wp2_with fail
              go_meet
              first
                | exact ⟨_, a4, n4, _, _, rfl, rfl, T4.box _, i1, i2, i3⟩
                | exact ⟨_, a4, n4, _, _, rfl, rfl, T4.set3 (n := w3.heap.size) List.mem_cons_self [(wr.heap.size, (.cells #[.int .i64 q.kind, .int .i64 q.k, .int .i64 q.p.src, .int .i64 q.p.dst, .slice x1 q.p.data.length x2] 32 (0, 0)))] (fun x hx => by obtain rfl := List.mem_singleton.1 hx; exact ⟨by simp, Nat.ne_of_lt y3⟩), i1, i2, i3⟩
                | exact ⟨_, a4, n4, _, _, rfl, rfl, T4.set3 (n := wr.heap.size + 1) List.mem_cons_self [(wr.heap.size, (.cells #[.int .i64 q.kind, .int .i64 q.k, .int .i64 q.p.src, .int .i64 q.p.dst, .slice x1 q.p.data.length x2] 32 (0, 0)))] (fun x hx => by obtain rfl := List.mem_singleton.1 hx; exact ⟨by simp, Nat.ne_of_lt (Nat.lt_succ_self _)⟩), i1, i2, i3⟩
          case rest =>
            obtain ⟨g, a4, n4, ls, ps, rfl, rfl, T4, i1, i2, i3⟩ := hcut
            clear m0 m1 m2 f0 f1 f2
            obtain ⟨ma4, mc4, T4', j0, j1, j2, h0, h1, h2⟩ := T4.cells
            obtain ⟨q0, q1, q2, -, -, -⟩ := T4'.has3 (n := g) List.mem_cons_self
            obtain ⟨o0, o1, o2, o3, o4⟩ := T4'.has5 (n := wr.heap.size) (List.mem_cons_of_mem _ List.mem_cons_self)
            have z3 := (T4'.lt (x := (wr.heap.size, (.cells #[.int .i64 q.kind, .int .i64 q.k, .int .i64 q.p.src, .int .i64 q.p.dst, .slice x1 q.p.data.length x2] 32 (0, 0)))) (by simp)).1
            have z12 := (T4'.lt (x := (g, _)) List.mem_cons_self).1
            have z13 := (T4'.lt (x := (g, _)) List.mem_cons_self).2
            have z10 := T4'.size.2.1
            have z11 : wr.heap.size ≠ w2.heap.size := by omega
            have TF := Lib.hid (T4'.store (m' := b.send q.p) (lv := .slice a4 (b.send q.p).l.length n4) (by simp) i1 i2 i3)
            clear T4 T4'
            go_wp2_with fail
            refine (own_t TF.out _ q.p _ (AD.out.below TF.out.out) hqr2).mono ?_
            rintro e w5 ⟨xa, xn, xc, rfl, hb5, T5⟩
            clear hb5
            go_wp2_with fail
            refine (send_u T5 q.p (by simp) (by omega) (by omega)).mono ?_
            rintro e w7 ⟨rfl, T7⟩
            go_wp2_with fail
            go_meet
            exact ⟨rfl, b.send q.p, by have := b.send_counts q.p; omega, by have := b.send_counts q.p; omega, T7.weaken⟩
      case rest =>
        obtain ⟨rfl, b', hsn', hln', T'⟩ := hcut
        clear m0 m1 m2 f0 f1 f2
        obtain ⟨ma, mc, T1, m0, m1, m2, f0, f1, f2⟩ := T'.cells
        have TT := Lib.hid T1
        clear T' T1
        go_wp2_with fail
        go_quiet (first | (go_at_call 14; exact len_q TT.out _) | (go_at_call 13; exact sent_q TT.out _) | (go_at_call 25; exact lost_q TT.out _))
        go_wp2_with fail
        exact ⟨⟨j + 1, b', by omega, by push_cast; rfl, by omega, by omega, (TT.out.drewN _).weaken⟩, by simp only [intOf]; omega⟩
    · have TT := Lib.hid T1
      clear T T1
      go_wp2_with fail
      go_region_with (first | (go_at_call 16; go_loud (refine (list_t TT.out.drew).mono ?_); rintro e w3 ⟨la, lc, rfl, T3⟩; obtain ⟨ma', mc', T3', n0, n1, n2, g0, g1, g2⟩ := T3.cells; have TT3 := Lib.hid T3'; clear T3 T3') | (go_at_call 19; go_loud (refine (sameAll_t TT3.out b.l (by simp) (by simp)).mono ?_); rintro e w4 ⟨rfl, T4⟩))
      all_goals
        go_wp2_with fail
        go_ret
        exact ⟨rfl, hb1.trans (T4.out.mono hb1.size)⟩
end Go.Proofs.Ytdjgmgppghipkaa
