/- THE WALK of OctetsWrites. -/
import Derived.Test.YtflacchpgcggnaaRefe
import Derived.Test.YtflacchpgcggnaaLay
import Derived.Deep.RegionHeldLaw
namespace Go.Proofs.Ytflacchpgcggnaa
open Go.RowKit

section
variable {w0 w w2 w3 : World} {p : Nat} {l l' : List UInt8} {wv v' : Value} {ps : List (Value × List UInt8)} {ks : List (Nat × Obj)}
/-- The writer, and a row of its own beside it. -/
def Wt (w0 : World) (p : Nat) (l : List UInt8) (wv : Value) (w : World) : Prop :=
  ∃ ks, Ok w0 (some (p, l)) none none [] ks w ∧ w.ownsRow w0.heap.size 5 1 wv l.length (l.map B8) ∧ ∀ g, wv.ownBlock = some g → ∃ o, (g, o) ∈ ks
theorem row_next {n : Nat} {xs : List Value} {pw pw' : Option (Nat × List UInt8)} {ps' : List (Value × List UInt8)} (T1 : Ok w0 pw none none ps ks w) (hown : w.ownsRow w0.heap.size 5 1 wv n xs) (hks : ∀ g, wv.ownBlock = some g → ∃ o, (g, o) ∈ ks) (T2 : Ok w0 pw' none none ps' ks w2) :
    w2.ownsRow w0.heap.size 5 1 wv n xs :=
  ownsRow_keep hown (fun g hg => by obtain ⟨o, ho⟩ := hks g hg; rw [T2.has ho, T1.has ho])
theorem Wt.grown {n : Nat} {xs : List Value} (T2 : Ok w0 (some (p, l)) none none ps ks w2) (hown : w2.ownsRow w0.heap.size 5 1 wv n xs) (hks : ∀ g, wv.ownBlock = some g → ∃ o, (g, o) ∈ ks)
    (hgrow : w2.grownBy w3 wv.ownBlock) (hat : v'.ownBlock = wv.ownBlock ∨ v'.ownBlock = some w2.heap.size) (hown3 : w3.ownsRow w0.heap.size 5 1 v' l.length (l.map B8)) : Wt w0 p l v' w3 := by
  obtain ⟨Gw, Gr, K, h⟩ := T2
  have hs := hgrow.size
  have hb := h.below.size
  have hnG : ∀ k, Gw k → some k ≠ wv.ownBlock := fun k hk e => by
    obtain ⟨o, ho⟩ := hks k e.symm
    exact (h.kept _ ho).2.1 hk
  have hbl : Below w0.heap.size w0 w3 := h.below.grown hgrow hb (fun k hk => (hown.lt k hk).1)
  have hwr : WrAt Gw w3 p l := (h.wr _ rfl).keep (fun k hk hG => hgrow.block k hk (hnG k hG)) hs
  have hv : ∀ g, v'.ownBlock = some g → ¬ Gw g := fun g hg hG => by
    rcases hat with e | e
    · exact hnG g hG (by rw [← e, hg])
    · rw [e] at hg
      injection hg with hg
      have := (h.gw g hG).2
      omega
  cases hvb : v'.ownBlock with
  | none => exact ⟨[], ⟨Gw, fun _ => False, fun _ => False, fun x hx => by injection hx with hx; subst hx; exact hwr, fun _ h => (by cases h), fun _ h => (by cases h), fun _ h => (by cases h), fun k hk => by have := h.gw k hk; omega, fun _ h => h.elim, fun _ h => h.elim, fun _ h => (by cases h), hbl⟩, hown3, fun g hg => by rw [hvb] at hg; cases hg⟩
  | some g =>
    have hlt := (hown3.lt g hvb).2
    obtain ⟨o, ho⟩ : ∃ o, w3.heap[g]? = some o := ⟨_, Array.getElem?_eq_getElem hlt⟩
    refine ⟨[(g, o)], ⟨Gw, fun _ => False, fun _ => False, fun x hx => by injection hx with hx; subst hx; exact hwr, fun _ h => (by cases h), fun _ h => (by cases h), fun _ h => (by cases h), fun k hk => by have := h.gw k hk; omega, fun _ h => h.elim, fun _ h => h.elim, fun x hx => ?_, hbl⟩, hown3, fun q hq => by rw [hvb] at hq; injection hq with hq; subst hq; exact ⟨o, by simp⟩⟩
    obtain rfl : x = (g, o) := by simpa using hx
    exact ⟨ho, hv g hvb, fun h => h, fun _ h => (by cases h)⟩
theorem Wt.again (T1 : Ok w0 (some (p, l)) none none [] ks w) (hown : w.ownsRow w0.heap.size 5 1 wv l.length (l.map B8)) (hks : ∀ g, wv.ownBlock = some g → ∃ o, (g, o) ∈ ks) (T2 : Ok w0 (some (p, l)) none none ps ks w2) : Wt w0 p l wv w2 :=
  ⟨ks, T2.weaken, row_next T1 hown hks T2, hks⟩
end

theorem ThingsIn.below {w w' : World} {v : Value} {l : List Th} (h : ThingsIn w v l) (hb : Below w.heap.size w w') : ThingsIn w' v l := by
  obtain ⟨a, c, h1, h2, h3, h4, h5⟩ := h
  refine ⟨a, c, h1, h2, h3, h4, fun hl => ?_⟩
  obtain ⟨b, o, e, hlt, hc⟩ := h5 hl
  refine ⟨b, o, e, Nat.lt_of_lt_of_le hlt hb.size, fun j q hq => ?_⟩
  obtain ⟨c0, c1, c2⟩ := hc j q hq
  exact ⟨(hb.cell (p := ⟨b, _, none⟩) hlt).trans c0, (hb.cell (p := ⟨b, _, none⟩) hlt).trans c1, (hb.cell (p := ⟨b, _, none⟩) hlt).trans c2⟩
theorem ThingsIn.one {w : World} {a : Option Addr} {n c j : Nat} {l : List Th} {x : Th} (h : ThingsIn w (.slice a n c) l) (hx : l[j]? = some x) : ThingsIn w (.slice (Option.map (fun y : Addr => y.add (j * 3)) a) 1 (c - j)) [x] := by
  obtain ⟨b, o, c', e, h2, h3, h4, h5⟩ := h.at_ hx
  injection e with e1 e2 e3
  subst e1 e3
  have hj := (List.getElem?_eq_some_iff.1 hx).1
  refine ⟨_, c - j, rfl, by simp; omega, by omega, fun h => (by simp at h), fun _ => ⟨b, o + j * 3, by simp [Addr.add], h4, fun k q hq => ?_⟩⟩
  obtain rfl : k = 0 := by have := (List.getElem?_eq_some_iff.1 hq).1; simp at this; omega
  simp at hq
  subst hq
  simpa using h5

set_option maxRecDepth 100000 in
set_option maxHeartbeats 4000000 in
theorem octetsWrites_any (tl : List Th) (tv : Value) (w : World) (htv : ThingsIn w tv tl)
    (hn : ∀ q ∈ tl, -9223372036854775808 ≤ q.n ∧ q.n ≤ 9223372036854775807) (hl : 9 * tl.length + total tl ≤ 140737488351232) :
    Calls Try.prog 4 #[tv] w fun e w' => e = .returned (.bool true) ∧ Below w.heap.size w w' := by
  obtain ⟨i0, hi, hz0, hz1, hz2⟩ := info_parts Try.info8
  have HTV := Lib.hid htv
  have HN := Lib.hid hn
  clear hn
  obtain ⟨ta, tc, rfl, htc, htm, _⟩ := htv
  unfold maxLen at htm
  go_enter Try.func4, Try.ntmps4
  go_wp2_with fail
  refine (awake_any w).mono ?_
  rintro e w1 ⟨rfl, hb1⟩
  have T0 : Wt w1 w1.heap.size [] (.slice none 0 0) (w1.alloc (.cells #[.slice none 0 0] 24)) := ⟨[], (Ok.start w1).writer, World.ownsRow_nil _ _ _ _, fun g hg => by simp [Value.ownBlock] at hg⟩
  have HT0 := Lib.hid T0
  clear T0
  go_wp2_with fail
  go_loopw [4, 12] (fun v i wr => ∃ j : Nat, j ≤ tl.length ∧ i = .int .i64 j ∧ Wt w1 w1.heap.size (encAll (tl.take j)) v wr) (fun _ i _ => tl.length - (intOf i).toNat)
  case atStart => exact ⟨0, by omega, rfl, by simpa [encAll] using HT0.out⟩
  case round =>
    obtain ⟨j, hj, rfl, ks, T, hown, hks⟩ := hrel
    have hB : Below w.heap.size w wr := hb1.trans (T.out.mono hb1.size)
    have hlen : (encAll (tl.take j)).length ≤ 9 * j + total (tl.take j) := by
      have h1 := total_take tl j
      have := encAll_length (tl.take j) (fun q hq => HN.out q (List.mem_of_mem_take hq)) (by omega)
      rw [List.length_take, Nat.min_eq_left hj] at this
      exact this
    obtain ⟨L0, hL0⟩ : ∃ L0, L0 = encAll (tl.take j) := ⟨_, rfl⟩
    rw [← hL0] at T hown hlen
    have HL0 := Lib.hid hL0
    clear hL0
    obtain ⟨av, cv, rfl⟩ := own_slice hown
    have HO := Lib.hid hown
    have HT := Lib.hid T
    have HK := Lib.hid hks
    clear T hown hks
    by_cases hlt : j < tl.length
    · obtain ⟨x, hx⟩ : ∃ x, tl[j]? = some x := ⟨_, List.getElem?_eq_getElem hlt⟩
      have hti := (HTV.out.one hx).below hb1
      obtain ⟨b', o, c1, e1, hc', hm', hbs, t0, t1, t2⟩ := HTV.out.at_ hx
      injection e1 with e1 _ e2
      subst e1 e2
      simp only [Option.map_some, Addr.add_mid] at hti
      have HTI := Lib.hid hti
      clear hti
      have k0 : (0 : Int) ≤ (j : Int) := by omega
      have k1 : (j : Int) < (tl.length : Int) := by omega
      have k2 : (j : Int) + 1 ≤ (tc : Int) := by omega
      have htk : tl.take (j + 1) = tl.take j ++ [x] := by rw [List.take_add_one, hx]; rfl
      have htot := total_at hx
      have hq := HN.out x (List.mem_of_getElem? hx)
      have hsz : x.s.size + 9 ≤ 140737488355328 := by omega
      obtain ⟨L, hL⟩ : ∃ L, L = encAll (tl.take (j + 1)) := ⟨_, rfl⟩
      have hL2 : L0 ++ encThing x = L := by rw [hL, htk, encAll_snoc, HL0.out]
      have hlenX := encThing_length x hq.2 (by omega)
      have hlenL : L.length ≤ 140737488355328 := by rw [← hL2, List.length_append]; omega
      have hll : L0.length + (9 + x.s.size) ≤ 140737488355328 := by omega
      have hX1 : encAll [x] = encThing x := by simp [encAll]
      have HL := Lib.hid hL
      have HX1 := Lib.hid hX1
      have HL2' := Lib.hid hL2
      have HX := Lib.hid hx
      clear hX1 htk hL hx
      go_wp2_with fail
      refine (lay_k HT.out [x] _ HTI.out (fun q hq' => by rw [List.mem_singleton.1 hq']; exact hq) (by simp [total]; omega)).mono ?_
      rintro e w2 ⟨rfl, T2⟩
      rw [HX1.out, HL2'.out] at T2
      have hB2 : Below w.heap.size w w2 := hb1.trans (T2.out.mono hb1.size)
      have HO2 := Lib.hid (row_next HT.out HO.out HK.out T2)
      have HT2 := Lib.hid T2
      have p0 := (hB2.cell (p := ⟨b', o + j * 3, none⟩) hbs).trans t0
      have p1 := (hB2.cell (p := ⟨b', o + j * 3 + 1, none⟩) hbs).trans t1
      have p2 := (hB2.cell (p := ⟨b', o + j * 3 + 2, none⟩) hbs).trans t2
      obtain ⟨hq1, hq2⟩ := hq
      clear T2 t0 t1 t2 htot
      cases hxt : x.isText with
      | true =>
        rw [hxt] at p0
        have he : encThing x = encText x.s.data.toList := by unfold encThing; rw [if_pos hxt]
        rw [he] at hL2 hlenX
        have hap := Nat.le_trans (Nat.add_le_add_left hlenX L0.length) hll
        have HL2 := Lib.hid hL2
        clear hxt he hL2
        go_wp2_with fail
        refine (refText_any x.s _ hsz).mono ?_
        rintro e w3 ⟨v3, rfl, hown3, hB3⟩
        obtain ⟨a3, c3, rfl⟩ := own_slice hown3
        have T3 := HT2.out.keep hB3
        have hrow3 := BytesV.of_own hown3
        have HW3 := Lib.hid (ownsRow_keep HO2.out (fun g hg => hB3.block g (HO2.out.lt g hg).2))
        have hs3 := T3.out.size
        have HT3 := Lib.hid T3
        have HR3 := Lib.hid hrow3
        clear hown3 T3 hrow3
        go_wp2_with (at_builtin; refine wpList_append_bytes rfl (.tmp 27) (.tmp 33) _ rfl w1.heap.size 5 i0 Try.underlying22 hi hz0 hz1 hz2 (.slice av L0.length cv) _ _ rfl HW3.out _ (.slice a3 (encText x.s.data.toList).length c3) (encText x.s.data.toList) rfl HR3.out hap hs3 ?_; intro v4 w4 hown4 hgrow4 hat4; rw [← List.map_append, HL2.out, ← List.length_append, HL2.out] at hown4; have TW := Wt.grown HT3.out HW3.out HK.out hgrow4 hat4 hown4; obtain ⟨a4, c4, rfl⟩ := own_slice hown4; obtain ⟨ks4, T4, ho4, hk4⟩ := TW; have hcvA := (BytesV.of_own ho4).string 22 9 5 Try.underlying22 Try.underlying5 Try.underlying9 (w' := w4.drew) (fun _ _ _ => rfl); have HO4 := Lib.hid ho4; have HT4 := Lib.hid T4; have HK4 := Lib.hid hk4; clear hown4 hgrow4 hat4 ho4 T4 hk4)
        by_cases h60 : j < 60
        · have h60' : (j : Int) < 60 := by omega
          clear h60
          go_wp2_with fail
          first | (go_region_held_law (fun y => (convert 22 9 (.slice a4 L.length c4)).run Try.prog y = .ok (.string (strOf L)) y) (first | assumption | exact hcvA) (first
            | (go_at_call 13; (refine (wbytes_k HT4.out.drew (by omega)).mono ?_); rintro e w5 ⟨a5, c5, rfl, T5⟩; have hcvC := T5.str (v := .slice a5 L.length c5) (l := L) (by simp); have hcvB := (BytesV.of_own (row_next HT4.out HO4.out HK4.out T5)).string 22 9 5 Try.underlying22 Try.underlying5 Try.underlying9 (w' := w5) (fun _ _ _ => rfl); have HT5 := Lib.hid T5; clear T5))) | fail
          all_goals
            have HTW := Lib.hid (Wt.again HT4.out HO4.out HK4.out HT5.out)
            go_wp2_with fail
            exact ⟨⟨j + 1, by omega, by push_cast; rfl, by rw [← HL.out]; exact HTW.out⟩, by simp only [intOf]; omega⟩
        · have h60' : ¬ (j : Int) < 60 := by omega
          clear h60
          go_wp2_with fail
          first | (go_region_with (fail)) | fail
          all_goals
            have HTW := Lib.hid (Wt.again HT4.out HO4.out HK4.out HT4.out.drew)
            go_wp2_with fail
            exact ⟨⟨j + 1, by omega, by push_cast; rfl, by rw [← HL.out]; exact HTW.out⟩, by simp only [intOf]; omega⟩
      | false =>
        rw [hxt] at p0
        have he : encThing x = enc x.n.toNat := by unfold encThing; rw [if_neg (by simp [hxt])]
        rw [he] at hL2 hlenX
        have hap := Nat.le_trans (Nat.add_le_add_left hlenX L0.length) hll
        have HL2 := Lib.hid hL2
        clear hxt he hL2
        go_wp2_with fail
        refine (refNum_any x.n _ (by omega)).mono ?_
        rintro e w3 ⟨v3, rfl, hown3, hB3⟩
        obtain ⟨a3, c3, rfl⟩ := own_slice hown3
        have T3 := HT2.out.keep hB3
        have hrow3 := BytesV.of_own hown3
        have HW3 := Lib.hid (ownsRow_keep HO2.out (fun g hg => hB3.block g (HO2.out.lt g hg).2))
        have hs3 := T3.out.size
        have HT3 := Lib.hid T3
        have HR3 := Lib.hid hrow3
        clear hown3 T3 hrow3
        go_wp2_with (at_builtin; refine wpList_append_bytes rfl (.tmp 35) (.tmp 41) _ rfl w1.heap.size 5 i0 Try.underlying22 hi hz0 hz1 hz2 (.slice av L0.length cv) _ _ rfl HW3.out _ (.slice a3 (enc x.n.toNat).length c3) (enc x.n.toNat) rfl HR3.out hap hs3 ?_; intro v4 w4 hown4 hgrow4 hat4; rw [← List.map_append, HL2.out, ← List.length_append, HL2.out] at hown4; have TW := Wt.grown HT3.out HW3.out HK.out hgrow4 hat4 hown4; obtain ⟨a4, c4, rfl⟩ := own_slice hown4; obtain ⟨ks4, T4, ho4, hk4⟩ := TW; have hcvA := (BytesV.of_own ho4).string 22 9 5 Try.underlying22 Try.underlying5 Try.underlying9 (w' := w4.drew) (fun _ _ _ => rfl); have HO4 := Lib.hid ho4; have HT4 := Lib.hid T4; have HK4 := Lib.hid hk4; clear hown4 hgrow4 hat4 ho4 T4 hk4)
        by_cases h60 : j < 60
        · have h60' : (j : Int) < 60 := by omega
          clear h60
          go_wp2_with fail
          first | (go_region_held_law (fun y => (convert 22 9 (.slice a4 L.length c4)).run Try.prog y = .ok (.string (strOf L)) y) (first | assumption | exact hcvA) (first
            | (go_at_call 13; (refine (wbytes_k HT4.out.drew (by omega)).mono ?_); rintro e w5 ⟨a5, c5, rfl, T5⟩; have hcvC := T5.str (v := .slice a5 L.length c5) (l := L) (by simp); have hcvB := (BytesV.of_own (row_next HT4.out HO4.out HK4.out T5)).string 22 9 5 Try.underlying22 Try.underlying5 Try.underlying9 (w' := w5) (fun _ _ _ => rfl); have HT5 := Lib.hid T5; clear T5))) | fail
          all_goals
            have HTW := Lib.hid (Wt.again HT4.out HO4.out HK4.out HT5.out)
            go_wp2_with fail
            exact ⟨⟨j + 1, by omega, by push_cast; rfl, by rw [← HL.out]; exact HTW.out⟩, by simp only [intOf]; omega⟩
        · have h60' : ¬ (j : Int) < 60 := by omega
          clear h60
          go_wp2_with fail
          first | (go_region_with (fail)) | fail
          all_goals
            have HTW := Lib.hid (Wt.again HT4.out HO4.out HK4.out HT4.out.drew)
            go_wp2_with fail
            exact ⟨⟨j + 1, by omega, by push_cast; rfl, by rw [← HL.out]; exact HTW.out⟩, by simp only [intOf]; omega⟩
    · have hlenL : L0.length ≤ 140737488355328 := by have := total_take tl j; omega
      have HO' := HO.out
      have hcvA := (BytesV.of_own HO').string 22 9 5 Try.underlying22 Try.underlying5 Try.underlying9 (w' := wr.drew) (fun _ _ _ => rfl)
      have HT4 := HT
      have HO4 := HO
      have hlt2 : (tl.length : Int) ≤ (j : Int) := by omega
      clear HO' hlen hlt
      go_wp2_with fail
      first | (go_region_held_law (fun y => (convert 22 9 (.slice av L0.length cv)).run Try.prog y = .ok (.string (strOf L0)) y) (first | assumption | exact hcvA) (first
        | (go_at_call 13; (refine (wbytes_k HT4.out.drew (by omega)).mono ?_); rintro e w5 ⟨a5, c5, rfl, T5⟩; have hcvC := T5.str (v := .slice a5 L0.length c5) (l := L0) (by simp); have hcvB := (BytesV.of_own (row_next HT4.out HO4.out HK.out T5)).string 22 9 5 Try.underlying22 Try.underlying5 Try.underlying9 (w' := w5) (fun _ _ _ => rfl); have HT5 := Lib.hid T5; clear T5))) | fail
      all_goals
        go_wp2_with fail
        go_ret
        exact ⟨rfl, hb1.trans (HT5.out.out.mono hb1.size)⟩
end Go.Proofs.Ytflacchpgcggnaa
