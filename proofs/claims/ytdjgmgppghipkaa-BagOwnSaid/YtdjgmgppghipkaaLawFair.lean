/- THE WALK of BagFair. -/
import Derived.Test.YtdjgmgppghipkaaSameAll
import Derived.Deep.RegionHeld3
namespace Go.Proofs.Ytdjgmgppghipkaa
open Go.RowKit

def Bg.sends (b : Bg) (l : List Pkt) : Bg := l.foldl Bg.send b
theorem Bg.sends_snoc (b : Bg) (l : List Pkt) (q : Pkt) : b.sends (l ++ [q]) = (b.sends l).send q := by simp [Bg.sends]
theorem Bg.send_counts (b : Bg) (q : Pkt) : (b.send q).sent ≤ b.sent + 1 ∧ (b.send q).lost ≤ b.lost + 1 := by
  unfold Bg.send
  split
  · exact ⟨Nat.le_succ _, Nat.le_refl _⟩
  · split
    · exact ⟨Nat.le_succ _, Nat.le_refl _⟩
    · exact ⟨Nat.le_refl _, Nat.le_succ _⟩

/-- One of the packets that came in. -/
theorem PktsIn.at_ {w : World} {v : Value} {l : List Pkt} (h : PktsIn w v l) {j : Nat} {q : Pkt} (hq : l[j]? = some q) : ∃ b o c dv, v = .slice (some ⟨b, o, none⟩) l.length c ∧ l.length ≤ c ∧ c ≤ maxLen ∧ b < w.heap.size ∧
    w.cell? ⟨b, o + j * 3, none⟩ = some (.int .i64 q.src) ∧ w.cell? ⟨b, o + j * 3 + 1, none⟩ = some (.int .i64 q.dst) ∧ w.cell? ⟨b, o + j * 3 + 2, none⟩ = some dv ∧ BytesV (fun _ => True) w dv q.data ∧ q.data.length ≤ reachBytes := by
  obtain ⟨a, c, rfl, h2, h3, h4, h5⟩ := h
  obtain ⟨b, o, rfl, hb, hc⟩ := h5 (by have := (List.getElem?_eq_some_iff.1 hq).1; omega)
  obtain ⟨dv, c0, c1, c2, hd, hl⟩ := hc j q hq
  exact ⟨b, o, c, dv, rfl, h2, h3, hb, c0, c1, c2, hd, hl⟩

/-- All but the last packet of a list. -/
theorem PktsV.cut {G : Nat → Prop} {w : World} {a : Option Addr} {n c : Nat} {l m : List Pkt} (h : PktsV G w (.slice a n c) (l ++ m)) : PktsV G w (.slice a l.length c) l := by
  obtain ⟨a', c', e, h2, h3, h4, h5⟩ := h
  injection e with e1 e2 e3
  subst e1 e3
  rw [List.length_append] at h2 h5
  refine ⟨a, c, rfl, by omega, h3, h4, fun hl => ?_⟩
  obtain ⟨b, o, e, hb, hG, hc⟩ := h5 (by omega)
  refine ⟨b, o, e, hb, hG, fun j q hq => hc j q ?_⟩
  rw [List.getElem?_append_left (List.getElem?_eq_some_iff.1 hq).1]
  exact hq

/-- What BagFair's last statement reads. -/
structure Fin3 (g9 g13 bw ow i : Nat) (q : Pkt) (d9 d13 dw va vb : Value) (l : List Pkt) (X : World) : Prop where
  lt9 : g9 < X.heap.size
  lt13 : g13 < X.heap.size
  ltw : bw < X.heap.size
  a0 : X.cell? ⟨g9, 0, none⟩ = some (.int .i64 q.src)
  a1 : X.cell? ⟨g9, 1, none⟩ = some (.int .i64 q.dst)
  a2 : X.cell? ⟨g9, 2, none⟩ = some d9
  b0 : X.cell? ⟨g13, 0, none⟩ = some (.int .i64 q.src)
  b1 : X.cell? ⟨g13, 1, none⟩ = some (.int .i64 q.dst)
  b2 : X.cell? ⟨g13, 2, none⟩ = some d13
  c0 : X.cell? ⟨bw, ow + i * 3, none⟩ = some (.int .i64 q.src)
  c1 : X.cell? ⟨bw, ow + i * 3 + 1, none⟩ = some (.int .i64 q.dst)
  c2 : X.cell? ⟨bw, ow + i * 3 + 2, none⟩ = some dw
  e9 : BytesV (fun _ => True) X d9 q.data
  e13 : BytesV (fun _ => True) X d13 q.data
  ew : BytesV (fun _ => True) X dw q.data
  fa : PktsV (fun _ => True) X va l
  fb : PktsV (fun _ => True) X vb l
theorem Fin3.below {g9 g13 bw ow i : Nat} {q : Pkt} {d9 d13 dw va vb : Value} {l : List Pkt} {X Y : World} (h : Fin3 g9 g13 bw ow i q d9 d13 dw va vb l X) (hb : Below X.heap.size X Y) : Fin3 g9 g13 bw ow i q d9 d13 dw va vb l Y :=
  ⟨Nat.lt_of_lt_of_le h.lt9 hb.size, Nat.lt_of_lt_of_le h.lt13 hb.size, Nat.lt_of_lt_of_le h.ltw hb.size,
   (hb.cell (p := ⟨g9, 0, none⟩) h.lt9).trans h.a0, (hb.cell (p := ⟨g9, 1, none⟩) h.lt9).trans h.a1, (hb.cell (p := ⟨g9, 2, none⟩) h.lt9).trans h.a2,
   (hb.cell (p := ⟨g13, 0, none⟩) h.lt13).trans h.b0, (hb.cell (p := ⟨g13, 1, none⟩) h.lt13).trans h.b1, (hb.cell (p := ⟨g13, 2, none⟩) h.lt13).trans h.b2,
   (hb.cell (p := ⟨bw, ow + i * 3, none⟩) h.ltw).trans h.c0, (hb.cell (p := ⟨bw, ow + i * 3 + 1, none⟩) h.ltw).trans h.c1, (hb.cell (p := ⟨bw, ow + i * 3 + 2, none⟩) h.ltw).trans h.c2,
   h.e9.below hb, h.e13.below hb, h.ew.below hb, h.fa.below hb, h.fb.below hb⟩
theorem Fin3.drew {g9 g13 bw ow i : Nat} {q : Pkt} {d9 d13 dw va vb : Value} {l : List Pkt} {X : World} (h : Fin3 g9 g13 bw ow i q d9 d13 dw va vb l X) : Fin3 g9 g13 bw ow i q d9 d13 dw va vb l X.drew :=
  h.below ⟨rfl, rfl, rfl, Nat.le_refl _, fun _ _ => rfl⟩

section
variable {g9 g13 bw ow i : Nat} {q : Pkt} {d9 d13 dw va vb : Value} {l : List Pkt} {w1 X Y : World}
theorem fin_all (h : Fin3 g9 g13 bw ow i q d9 d13 dw va vb l X) (hb : Below w1.heap.size w1 X) : X.cell? ⟨g9, 0, none⟩ = some (.int .i64 q.src) ∧ X.cell? ⟨g9, 1, none⟩ = some (.int .i64 q.dst) ∧ X.cell? ⟨g9, 2, none⟩ = some d9 ∧ X.cell? ⟨g13, 0, none⟩ = some (.int .i64 q.src) ∧ X.cell? ⟨g13, 1, none⟩ = some (.int .i64 q.dst) ∧ X.cell? ⟨g13, 2, none⟩ = some d13 ∧ X.cell? ⟨bw, ow + i * 3, none⟩ = some (.int .i64 q.src) ∧ X.cell? ⟨bw, ow + i * 3 + 1, none⟩ = some (.int .i64 q.dst) ∧ X.cell? ⟨bw, ow + i * 3 + 2, none⟩ = some dw ∧ Fin3 g9 g13 bw ow i q d9 d13 dw va vb l X ∧ Below w1.heap.size w1 X :=
  ⟨h.a0, h.a1, h.a2, h.b0, h.b1, h.b2, h.c0, h.c1, h.c2, h, hb⟩
theorem fin_step (h : X.cell? ⟨g9, 0, none⟩ = some (.int .i64 q.src) ∧ X.cell? ⟨g9, 1, none⟩ = some (.int .i64 q.dst) ∧ X.cell? ⟨g9, 2, none⟩ = some d9 ∧ X.cell? ⟨g13, 0, none⟩ = some (.int .i64 q.src) ∧ X.cell? ⟨g13, 1, none⟩ = some (.int .i64 q.dst) ∧ X.cell? ⟨g13, 2, none⟩ = some d13 ∧ X.cell? ⟨bw, ow + i * 3, none⟩ = some (.int .i64 q.src) ∧ X.cell? ⟨bw, ow + i * 3 + 1, none⟩ = some (.int .i64 q.dst) ∧ X.cell? ⟨bw, ow + i * 3 + 2, none⟩ = some dw ∧ Fin3 g9 g13 bw ow i q d9 d13 dw va vb l X ∧ Below w1.heap.size w1 X) (hb : Below X.heap.size X Y) : Y.cell? ⟨g9, 0, none⟩ = some (.int .i64 q.src) ∧ Y.cell? ⟨g9, 1, none⟩ = some (.int .i64 q.dst) ∧ Y.cell? ⟨g9, 2, none⟩ = some d9 ∧ Y.cell? ⟨g13, 0, none⟩ = some (.int .i64 q.src) ∧ Y.cell? ⟨g13, 1, none⟩ = some (.int .i64 q.dst) ∧ Y.cell? ⟨g13, 2, none⟩ = some d13 ∧ Y.cell? ⟨bw, ow + i * 3, none⟩ = some (.int .i64 q.src) ∧ Y.cell? ⟨bw, ow + i * 3 + 1, none⟩ = some (.int .i64 q.dst) ∧ Y.cell? ⟨bw, ow + i * 3 + 2, none⟩ = some dw ∧ Fin3 g9 g13 bw ow i q d9 d13 dw va vb l Y ∧ Below w1.heap.size w1 Y :=
  fin_all (h.2.2.2.2.2.2.2.2.2.1.below hb) (below_step h.2.2.2.2.2.2.2.2.2.2 hb)
theorem fin_get (h : X.cell? ⟨g9, 0, none⟩ = some (.int .i64 q.src) ∧ X.cell? ⟨g9, 1, none⟩ = some (.int .i64 q.dst) ∧ X.cell? ⟨g9, 2, none⟩ = some d9 ∧ X.cell? ⟨g13, 0, none⟩ = some (.int .i64 q.src) ∧ X.cell? ⟨g13, 1, none⟩ = some (.int .i64 q.dst) ∧ X.cell? ⟨g13, 2, none⟩ = some d13 ∧ X.cell? ⟨bw, ow + i * 3, none⟩ = some (.int .i64 q.src) ∧ X.cell? ⟨bw, ow + i * 3 + 1, none⟩ = some (.int .i64 q.dst) ∧ X.cell? ⟨bw, ow + i * 3 + 2, none⟩ = some dw ∧ Fin3 g9 g13 bw ow i q d9 d13 dw va vb l X ∧ Below w1.heap.size w1 X) : Fin3 g9 g13 bw ow i q d9 d13 dw va vb l X := h.2.2.2.2.2.2.2.2.2.1
theorem fin_below (h : X.cell? ⟨g9, 0, none⟩ = some (.int .i64 q.src) ∧ X.cell? ⟨g9, 1, none⟩ = some (.int .i64 q.dst) ∧ X.cell? ⟨g9, 2, none⟩ = some d9 ∧ X.cell? ⟨g13, 0, none⟩ = some (.int .i64 q.src) ∧ X.cell? ⟨g13, 1, none⟩ = some (.int .i64 q.dst) ∧ X.cell? ⟨g13, 2, none⟩ = some d13 ∧ X.cell? ⟨bw, ow + i * 3, none⟩ = some (.int .i64 q.src) ∧ X.cell? ⟨bw, ow + i * 3 + 1, none⟩ = some (.int .i64 q.dst) ∧ X.cell? ⟨bw, ow + i * 3 + 2, none⟩ = some dw ∧ Fin3 g9 g13 bw ow i q d9 d13 dw va vb l X ∧ Below w1.heap.size w1 X) : Below w1.heap.size w1 X := h.2.2.2.2.2.2.2.2.2.2
end

set_option maxHeartbeats 4000000 in
theorem bagFair_any (l : List Pkt) (v : Value) (k : Int) (w : World) (hv : PktsIn w v l) (hl : l.length ≤ reachBytes) :
    Calls Try.prog 4 #[v, .int .i64 k] w fun e w' => e = .returned (.bool true) ∧ Below w.heap.size w w' := by
  have HV := Lib.hid hv
  have hl2 := Nat.le_trans hl reach_le
  obtain ⟨a, c, rfl, _⟩ := hv
  go_enter Try.func4, Try.ntmps4
  go_wp2_with fail
  refine (awake_any _).mono ?_
  rintro e w1 ⟨rfl, hb1⟩
  go_wp2_with fail
  refine (new_s w1).mono ?_
  rintro e w2 ⟨rfl, s2⟩
  have hp2 := s2.bag.head.2
  go_wp2_with fail
  go_loopw [20] (fun i wr => ∃ (j : Nat) (b : Bg), j ≤ l.length ∧ i = .int .i64 j ∧ b.sent ≤ j ∧ b.lost ≤ j ∧ BS w1 w1.heap.size b wr) (fun i _ => l.length - (intOf i).toNat)
  case atStart => exact ⟨0, ⟨[], 0, 0⟩, by omega, rfl, Nat.le_refl _, Nat.le_refl _, s2⟩
  case round =>
    obtain ⟨j, b, hj, rfl, hsn, hln, hs⟩ := hrel
    have hp := hs.bag.head.2
    have hB : Below w.heap.size w wr := hb1.trans (hs.below.mono hb1.size)
    by_cases hlt : j < l.length
    · obtain ⟨q, hq⟩ : ∃ q, l[j]? = some q := ⟨_, List.getElem?_eq_getElem hlt⟩
      obtain ⟨b', o, c1, dv, e1, hc, hm, hbs, a0, a1, a2, ad, hqr⟩ := HV.out.at_ hq
      injection e1 with e1 _ e2
      subst e1 e2
      have p0 := (hB.cell (p := ⟨b', o + j * 3, none⟩) hbs).trans a0
      have p1 := (hB.cell (p := ⟨b', o + j * 3 + 1, none⟩) hbs).trans a1
      have p2 := (hB.cell (p := ⟨b', o + j * 3 + 2, none⟩) hbs).trans a2
      have AD := Lib.hid ((ad.keep (fun j hj _ => hB.block j hj) hB.size).below ((Below.refl _ _).alloc (Nat.le_refl _) (.cells #[.int .i64 q.src, .int .i64 q.dst, dv] 30)))
      obtain ⟨x1, x2, rfl, _⟩ := ad
      have k0 : (0 : Int) ≤ (j : Int) := by omega
      have k1 : (j : Int) < (l.length : Int) := by omega
      clear a0 a1 a2
      go_wp2_with fail
      refine (own_any _ q _ _ AD.out (Nat.le_trans hqr reach_le)).mono ?_
      rintro e w3 ⟨v3, rfl, hd3, hb3⟩
      have s3 := (hs.keep ((Below.refl _ _).alloc (Nat.le_refl _) (.cells #[.int .i64 q.src, .int .i64 q.dst, .slice x1 q.data.length x2] 30))).keep hb3
      go_wp2_with fail
      refine (send_s s3 _ q v3 hd3 (fun i _ hi e => by simp at hi; omega) (by omega) (by omega)).mono ?_
      rintro e w4 ⟨rfl, s4⟩
      go_wp2_with fail
      have hcc := b.send_counts q
      refine ⟨⟨j + 1, b.send q, by omega, by push_cast; rfl, by omega, by omega, s4⟩, by simp only [intOf]; omega⟩
    · have hT := hs.bag.tight
      have hsm := hs.bag.small
      go_wp2_with fail
      refine (list_any _ _ _ _ hT).mono ?_
      rintro e w3 ⟨lv, rfl, hn1, hb3⟩
      have V1 := PktsV.of_new hn1
      have HV1 := Lib.hid V1
      obtain ⟨a1, c1, rfl, _⟩ := V1
      have hT3 := hT.below hb3
      have B3 := below_step hs.below hb3
      go_wp2_with fail
      refine (look_any _ _ _ k _ hT3).mono ?_
      rintro e w4 ⟨hg, hb4⟩
      have B4 := below_step B3 hb4
      have hp4 : w1.heap.size < w4.heap.size := by have := hb3.size; have := hb4.size; omega
      cases hat : b.at_ k with
      | none =>
        rw [hat] at hg
        replace hg : e = .returned (.tuple #[.agg #[.int .i64 0, .int .i64 0, .slice none 0 0], .bool false]) := hg
        subst hg
        have hd1 : b.double k = b := by unfold Bg.double; rw [hat]
        have hd2 : b.doubleE k = 72 := by unfold Bg.doubleE; rw [hat]
        have hkk := Bg.at_none hat
        go_wp2_with fail
        refine (double_any _ _ b k _ ((hT3.below hb4).below ((Below.refl _ _).alloc (Nat.le_refl _) (.cells #[.int .i64 0, .int .i64 0, .slice none 0 0] 30)))).mono ?_
        rintro e w5 ⟨he, hT5, hm5⟩
        rw [hd2] at he
        rw [hd1] at hT5
        subst he
        have B5 := (B4.alloc B4.size (.cells #[.int .i64 0, .int .i64 0, .slice none 0 0] 30)).trans (hm5.toBelow (B := w1.heap.size) (by simp; omega) (fun _ h => h.1))
        have V5 := ((HV1.out.below hb4).below ((Below.refl _ _).alloc (Nat.le_refl _) (.cells #[.int .i64 0, .int .i64 0, .slice none 0 0] 30))).mod hm5 (fun j _ h1 h2 => by have := h2.2; omega)
        go_wp2_with fail
        refine (list_any _ _ _ _ hT5).mono ?_
        rintro e w6 ⟨lv2, rfl, hn2, hb6⟩
        have V6 := Lib.hid (V5.below hb6)
        have V2 := PktsV.of_new hn2
        have HV2 := Lib.hid V2
        obtain ⟨a2, c2, rfl, _⟩ := V2
        have B6 := below_step B5 hb6
        by_cases h0 : 0 ≤ k
        · have h1 : ¬ k < (b.l.length : Int) := by omega
          go_wp2_with fail
          refine (sameAll_any _ _ b.l _ _ _ V6.out HV2.out).mono ?_
          rintro e w7 ⟨rfl, hb7⟩
          go_wp2_with fail
          go_ret
          exact ⟨rfl, hb1.trans ((below_step B6 hb7).mono hb1.size)⟩
        · go_wp2_with fail
          refine (sameAll_any _ _ b.l _ _ _ V6.out HV2.out).mono ?_
          rintro e w7 ⟨rfl, hb7⟩
          go_wp2_with fail
          go_ret
          exact ⟨rfl, hb1.trans ((below_step B6 hb7).mono hb1.size)⟩
      | some q =>
        rw [hat] at hg
        obtain ⟨_, rfl, d, rfl, hd, hdw⟩ := hg
        obtain ⟨i, rfl, hi⟩ := Bg.at_some hat
        have hilt := (List.getElem?_eq_some_iff.1 hi).1
        have h0 : (0 : Int) ≤ (i : Int) := by omega
        have h1 : (i : Int) < (b.l.length : Int) := by omega
        have hql := hs.bag.data q (List.mem_of_getElem? hi)
        have hT4 := (hT3.below hb4).below ((Below.refl _ _).alloc (Nat.le_refl _) (.cells #[.int .i64 q.src, .int .i64 q.dst, .slice (some ⟨d, 0, none⟩) q.data.length q.data.length] 30))
        by_cases hf : 48 ≤ b.l.length
        · have hd1 : b.double i = b := by unfold Bg.double; rw [hat]; simp [hf]
          have hd2 : b.doubleE i = 51 := by unfold Bg.doubleE; rw [hat]; simp [hf]
          have hf2 : ¬ (b.l.length : Int) < 48 := by omega
          go_wp2_with fail
          refine (double_any _ _ b i _ hT4).mono ?_
          rintro e w5 ⟨he, hT5, hm5⟩
          rw [hd2] at he
          rw [hd1] at hT5
          subst he
          have B5 := (B4.alloc B4.size (.cells #[.int .i64 q.src, .int .i64 q.dst, .slice (some ⟨d, 0, none⟩) q.data.length q.data.length] 30)).trans (hm5.toBelow (B := w1.heap.size) (by simp; omega) (fun _ h => h.1))
          have V5 := ((HV1.out.below hb4).below ((Below.refl _ _).alloc (Nat.le_refl _) (.cells #[.int .i64 q.src, .int .i64 q.dst, .slice (some ⟨d, 0, none⟩) q.data.length q.data.length] 30))).mod hm5 (fun j _ h1 h2 => by have := h2.2; omega)
          go_wp2_with fail
          refine (list_any _ _ _ _ hT5).mono ?_
          rintro e w6 ⟨lv2, rfl, hn2, hb6⟩
          have V6 := Lib.hid (V5.below hb6)
          have V2 := PktsV.of_new hn2
          have HV2 := Lib.hid V2
          obtain ⟨a2, c2, rfl, _⟩ := V2
          have B6 := below_step B5 hb6
          go_wp2_with fail
          refine (sameAll_any _ _ b.l _ _ _ V6.out HV2.out).mono ?_
          rintro e w7 ⟨rfl, hb7⟩
          go_wp2_with fail
          go_ret
          exact ⟨rfl, hb1.trans ((below_step B6 hb7).mono hb1.size)⟩
        · have hd1 : b.double i = ⟨b.l ++ [q], b.sent, b.lost⟩ := by unfold Bg.double; rw [hat]; simp [hf]
          have hd2 : b.doubleE i = 0 := by unfold Bg.doubleE; rw [hat]; simp [hf]
          have hf2 : (b.l.length : Int) < 48 := by omega
          go_wp2_with fail
          refine (double_any _ _ b i _ hT4).mono ?_
          rintro e w5 ⟨he, hT5, hm5⟩
          rw [hd2] at he
          rw [hd1] at hT5
          subst he
          have B5 := (B4.alloc B4.size (.cells #[.int .i64 q.src, .int .i64 q.dst, .slice (some ⟨d, 0, none⟩) q.data.length q.data.length] 30)).trans (hm5.toBelow (B := w1.heap.size) (by simp; omega) (fun _ h => h.1))
          have V5 := ((HV1.out.below hb4).below ((Below.refl _ _).alloc (Nat.le_refl _) (.cells #[.int .i64 q.src, .int .i64 q.dst, .slice (some ⟨d, 0, none⟩) q.data.length q.data.length] 30))).mod hm5 (fun j _ h1 h2 => by have := h2.2; omega)
          have hs3 := hb3.size
          have hs4 := hb4.size
          have hs5 := hm5.size
          -- the box of the looked packet, and its bytes
          have x5 := (hm5.block w4.heap.size (by simp) (fun h => by have := h.2; omega)).trans (heap_at w4 _ _ rfl)
          have y5 := (hm5.block d (by have := lt_of_heap hd; simp; omega) (fun h => by have := h.2; omega)).trans (blk_alloc hd _)
          go_wp2_with fail
          refine (list_any _ _ _ _ hT5).mono ?_
          rintro e w6 ⟨lv2, rfl, hn2, hb6⟩
          have V6 := V5.below hb6
          have V2 := PktsV.of_new hn2
          have hl2' : (b.l ++ [q]).length = b.l.length + 1 := by simp
          have hT6 := hT5.below hb6
          have B6 := below_step B5 hb6
          have x6 := (hb6.block w4.heap.size (lt_of_heap x5)).trans x5
          have y6 := (hb6.block d (lt_of_heap y5)).trans y5
          have hat2 : Bg.at_ ⟨b.l ++ [q], b.sent, b.lost⟩ (b.l.length : Int) = some q := by
            unfold Bg.at_
            rw [if_neg (by omega)]
            simp
          obtain ⟨a2, c2, rfl, hcap2, hmx2, _⟩ := id V2
          rw [hl2'] at V2 hcap2
          obtain ⟨bw, ow, c1', dw, ew, hc1, hm1, hbw, _, w0, w1', w2', wd⟩ := V6.at_ hi
          injection ew with ew1 _ ew2
          subst ew1 ew2
          go_upto_region 17 with fail
          go_cut [13, 14] (fun v13 v14 wx => ∃ (g13 : Nat) (d13 : Value), v13 = .pointer (some ⟨g13, 0, none⟩) ∧ v14 = .bool true ∧
            Fin3 w4.heap.size g13 bw ow i q (.slice (some ⟨d, 0, none⟩) q.data.length q.data.length) d13 dw (.slice (some ⟨bw, ow, none⟩) b.l.length c1) (.slice a2 b.l.length c2) b.l wx ∧ Below w1.heap.size w1 wx)
          case first =>
            set_option maxRecDepth 100000 in
            go_wp2_with fail
            refine (look_any _ _ _ (b.l.length : Int) _ hT6).mono ?_
            rintro e w7 ⟨hg7, hb7⟩
            rw [hat2] at hg7
            obtain ⟨_, rfl, d7, rfl, hd7, hdw7⟩ := hg7
            have x7 := (hb7.block w4.heap.size (lt_of_heap x6)).trans x6
            have y7 := (hb7.block d (lt_of_heap y6)).trans y6
            have B7 := below_step B6 hb7
            have hbytes : ∀ (X : World) (g : Nat), X.heap[g]? = some (.cells (q.data.map B8).toArray 5 (0, 0)) → BytesV (fun _ => True) X (.slice (some ⟨g, 0, none⟩) q.data.length q.data.length) q.data := fun X g hg =>
              (BytesV.of_block (l := q.data) (c := q.data.length) hg (fun j x hx => by simp [hx]) (Nat.le_refl _) (by unfold maxLen; omega)).mono (fun _ _ _ => trivial)
            have hC7 := fun p (hp : p.block < w6.heap.size) => hb7.cell (p := p) hp
            have F7 : Fin3 w4.heap.size w7.heap.size bw ow i q (.slice (some ⟨d, 0, none⟩) q.data.length q.data.length) (.slice (some ⟨d7, 0, none⟩) q.data.length q.data.length) dw (.slice (some ⟨bw, ow, none⟩) b.l.length c1) (.slice a2 b.l.length c2) b.l (w7.alloc (.cells #[.int .i64 q.src, .int .i64 q.dst, .slice (some ⟨d7, 0, none⟩) q.data.length q.data.length] 30)) := by
              have hA : Below w7.heap.size w7 (w7.alloc (.cells #[.int .i64 q.src, .int .i64 q.dst, .slice (some ⟨d7, 0, none⟩) q.data.length q.data.length] 30)) := (Below.refl _ _).alloc (Nat.le_refl _) _
              obtain ⟨m0, m1, m2, -, -, -⟩ := blk3 (blk_alloc x7 (.cells #[.int .i64 q.src, .int .i64 q.dst, .slice (some ⟨d7, 0, none⟩) q.data.length q.data.length] 30))
              obtain ⟨n0, n1, n2, -, -, -⟩ := blk3 (heap_at w7 (.cells #[.int .i64 q.src, .int .i64 q.dst, .slice (some ⟨d7, 0, none⟩) q.data.length q.data.length] 30) _ rfl)
              have hbw7 := Nat.lt_of_lt_of_le hbw hb7.size
              exact ⟨by have := lt_of_heap x7; simp; omega, by simp, by simp; omega, m0, m1, m2, n0, n1, n2,
                (hA.cell (p := ⟨bw, ow + i * 3, none⟩) hbw7).trans ((hb7.cell (p := ⟨bw, ow + i * 3, none⟩) hbw).trans w0),
                (hA.cell (p := ⟨bw, ow + i * 3 + 1, none⟩) hbw7).trans ((hb7.cell (p := ⟨bw, ow + i * 3 + 1, none⟩) hbw).trans w1'),
                (hA.cell (p := ⟨bw, ow + i * 3 + 2, none⟩) hbw7).trans ((hb7.cell (p := ⟨bw, ow + i * 3 + 2, none⟩) hbw).trans w2'),
                hbytes _ _ (blk_alloc y7 _), hbytes _ _ (blk_alloc hd7 _), ((wd.below hb7).below hA).mono (fun _ _ _ => trivial),
                ((V6.below hb7).below hA).mono (fun _ _ _ => trivial), (((V2.cut).below hb7).below hA).mono (fun _ _ _ => trivial)⟩
            have B8 := B7.alloc B7.size (.cells #[.int .i64 q.src, .int .i64 q.dst, .slice (some ⟨d7, 0, none⟩) q.data.length q.data.length] 30)
            set_option maxRecDepth 100000 in
            go_wp2_with fail
            go_meet
            exact ⟨_, _, rfl, rfl, F7, B8⟩
          case rest =>
            obtain ⟨g13, d13, rfl, rfl, F7, B8⟩ := hcut
            have k1 : ¬ ((c2 : Int) < (b.l.length : Int)) := by omega
            have k2 : IntKind.i64.wrap ((b.l.length : Int) + 1) = (b.l.length : Int) + 1 := IntWalk.i64_in _ (by omega)
            obtain ⟨z1, z2, ez, _⟩ := id F7.ew
            obtain ⟨z3, z4, ez', _⟩ := id F7.e13
            subst ez ez'
            have HE := Lib.hid hb1
            have HF := Lib.hid F7.drew
            have HB' := Lib.hid B8.drew
            clear F7 B8 V5 V6 V2 x5 y5 x6 y6 hd hT hT3 hT4 hT5 hT6 w0 w1' w2' wd hat hat2 hs hB B3 B4 B5 B6 hb1 hsm hd1 hd2 hql hi
            go_upto_region 18 with fail
            set_option maxRecDepth 100000 in
            go_region_held3 (fun v => v.cell? ⟨w4.heap.size, 0, none⟩ = some (.int .i64 q.src) ∧ v.cell? ⟨w4.heap.size, 1, none⟩ = some (.int .i64 q.dst) ∧ v.cell? ⟨w4.heap.size, 2, none⟩ = some (.slice (some ⟨d, 0, none⟩) q.data.length q.data.length) ∧ v.cell? ⟨g13, 0, none⟩ = some (.int .i64 q.src) ∧ v.cell? ⟨g13, 1, none⟩ = some (.int .i64 q.dst) ∧ v.cell? ⟨g13, 2, none⟩ = some (.slice z3 q.data.length z4) ∧ v.cell? ⟨bw, ow + i * 3, none⟩ = some (.int .i64 q.src) ∧ v.cell? ⟨bw, ow + i * 3 + 1, none⟩ = some (.int .i64 q.dst) ∧ v.cell? ⟨bw, ow + i * 3 + 2, none⟩ = some (.slice z1 q.data.length z2) ∧ Fin3 w4.heap.size g13 bw ow i q (.slice (some ⟨d, 0, none⟩) q.data.length q.data.length) (.slice z3 q.data.length z4) (.slice z1 q.data.length z2) (.slice (some ⟨bw, ow, none⟩) b.l.length c1) (.slice a2 b.l.length c2) b.l v ∧ Below w1.heap.size w1 v)
              (first | assumption | exact fin_all HF.out HB'.out | exact fin_step (by assumption) (by assumption))
              (first
                | (go_at_call_of 20 (Value.slice z3 q.data.length z4); refine (same_true (fun _ => True) (fun _ => True) q _ _ _ (fin_get (by assumption)).e13 (fin_get (by assumption)).e9).mono ?_; rintro e w8 ⟨rfl, hb8⟩)
                | (go_at_call_of 20 (Value.slice z1 q.data.length z2); refine (same_true (fun _ => True) (fun _ => True) q _ _ _ (fin_get (by assumption)).ew (fin_get (by assumption)).e9).mono ?_; rintro e w9 ⟨rfl, hb9⟩)
                | (go_at_call 19; refine (sameAll_any (fun _ => True) (fun _ => True) b.l _ _ _ (fin_get (by assumption)).fb (fin_get (by assumption)).fa).mono ?_; rintro e w10 ⟨rfl, hb10⟩))
            all_goals go_wp2
            all_goals go_ret
            all_goals exact ⟨rfl, HE.out.trans ((fin_below (by assumption)).mono HE.out.size)⟩
end Go.Proofs.Ytdjgmgppghipkaa
