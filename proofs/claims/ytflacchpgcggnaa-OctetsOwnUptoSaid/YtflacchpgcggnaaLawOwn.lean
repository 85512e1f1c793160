/- THE WALK of OctetsOwn. -/
import Derived.Test.YtflacchpgcggnaaJunk
import Derived.Test.YtflacchpgcggnaaRefc
import Derived.Test.YtflacchpgcggnaaLawWrites
import Derived.Test.YtflacchpgcggnaaLawTurned
namespace Go.Proofs.Ytflacchpgcggnaa
open Go.RowKit

theorem ninety (w : World) : BytesV (fun k => k = w.heap.size) (w.alloc (.cells #[.int .u8 91, .int .u8 92] 5)) (.slice (some ⟨w.heap.size, 0, none⟩) 2 2) [91, 92] :=
  BytesV.of_block (l := [91, 92]) (c := 2) (heap_at _ _ _ rfl) (fun j x hx => by
    match j, hx with
    | 0, hx => obtain rfl : (91 : UInt8) = x := by simpa using hx
               rfl
    | 1, hx => obtain rfl : (92 : UInt8) = x := by simpa using hx
               rfl) (by decide) (by decide)
theorem strOf_more (l : List UInt8) (m : List UInt8) : strOf (l ++ m) = strOf l ++ strOf m := by
  apply ByteArray.ext
  simp [strOf, ByteArray.data_append]
theorem readNum_0 (D : Nat → Prop) (l : List UInt8) (lv : Value) (w : World) (hd : BytesV D w lv l) :
    Calls Try.prog 23 #[.agg #[lv, .int .i64 0]] w (RRead D w (.int .i64 (Rd.mk l 0).num) (Rd.mk l 0).numR) := readNum_any D ⟨l, 0⟩ lv w hd
def fourObj : Obj := .cells #[.int .u8 7, .int .u8 0, .int .u8 0, .int .u8 0] 5
theorem four7 (w : World) : Calls Try.prog 27 #[.int .u32 7] w fun e w' => e = .returned (.slice (some ⟨w.heap.size, 0, none⟩) 4 4) ∧ w' = w.alloc fourObj := four_any 7 w (by decide)
theorem enc5 (L : List UInt8) : L ++ enc (5 : Int).toNat = L ++ [5] := by
  show L ++ enc 5 = _
  rw [enc_small (by omega)]; rfl
theorem four_bytes {w : World} {g : Nat} (h : w.heap[g]? = some fourObj) : BytesV (fun k => k = g) w (.slice (some ⟨g, 0, none⟩) 4 4) [7, 0, 0, 0] :=
  BytesV.of_block (l := [7, 0, 0, 0]) (c := 4) h (fun j x hx => by
    match j, hx with
    | 0, hx => obtain rfl : (7 : UInt8) = x := by simpa using hx
               rfl
    | 1, hx => obtain rfl : (0 : UInt8) = x := by simpa using hx
               rfl
    | 2, hx => obtain rfl : (0 : UInt8) = x := by simpa using hx
               rfl
    | 3, hx => obtain rfl : (0 : UInt8) = x := by simpa using hx
               rfl) (by decide) (by decide)
theorem own_cap {w : World} {base g cap : Nat} {l : List UInt8} (h : w.ownsRow base 5 1 (.slice (some ⟨g, 0, none⟩) (l.length + [(91 : UInt8), 92].length) cap) (l.length + [(91 : UInt8), 92].length) ((l ++ [91, 92]).map B8)) : (l.length : Int) ≤ (cap : Int) := by
  obtain ⟨a, c, e, hc, _⟩ := BytesV.of_own h
  injection e with _ _ e
  subst e
  simp at hc
  omega
theorem own_full {w : World} {base g cap : Nat} {l : List UInt8} (h : w.ownsRow base 5 1 (.slice (some ⟨g, 0, none⟩) (l.length + [(91 : UInt8), 92].length) cap) (l.length + [(91 : UInt8), 92].length) ((l ++ [91, 92]).map B8)) : BytesV (fun k => base ≤ k) w (.slice (some ⟨g, 0, none⟩) (l.length + 2) cap) (l ++ [91, 92]) := BytesV.of_own h
theorem own_cut {w : World} {base g cap : Nat} {l : List UInt8} (h : w.ownsRow base 5 1 (.slice (some ⟨g, 0, none⟩) (l.length + [(91 : UInt8), 92].length) cap) (l.length + [(91 : UInt8), 92].length) ((l ++ [91, 92]).map B8)) : BytesV (fun k => base ≤ k) w (.slice (some ⟨g, 0, none⟩) l.length cap) l := by
  have h1 : BytesV (fun k => base ≤ k) w (.slice (some ⟨g, 0, none⟩) (l ++ [(91 : UInt8), 92]).length cap) (l ++ [91, 92]) := by simpa using own_full h
  have h2 := cut_to (k := 0) (n := l.length) h1 (by simp)
  simpa [Addr.add] using h2
set_option maxRecDepth 100000 in
set_option maxHeartbeats 4000000 in
theorem octetsOwn_any (D : Nat → Prop) (l : List UInt8) (v : Value) (tl : List Th) (tv : Value) (w : World) (hv : BytesV D w v l) (hl : l.length ≤ 140737488351232) (htv : ThingsIn w tv tl)
    (hn : ∀ q ∈ tl, -9223372036854775808 ≤ q.n ∧ q.n ≤ 9223372036854775807) (hl2 : 9 * tl.length + total tl ≤ 140737488351232) :
    Calls Try.prog 10 #[v, tv] w fun e w' => e = .returned (.bool true) ∧ Below w.heap.size w w' := by
  obtain ⟨i0, hi, hz0, hz1, hz2⟩ := info_parts Try.info8
  have HV := Lib.hid hv
  have HTV := Lib.hid htv
  have HN := Lib.hid hn
  clear hn
  obtain ⟨a, c, rfl, hc, hcm, _⟩ := hv
  unfold maxLen at hcm
  obtain ⟨ta, tc, rfl, htc, htm, _⟩ := htv
  unfold maxLen at htm
  go_enter Try.func10, Try.ntmps10
  go_wp2_with fail
  refine (awake_any w).mono ?_
  rintro e w1 ⟨rfl, hb1⟩
  have HV1 := Lib.hid (HV.out.below hb1)
  go_wp2_with (first
    | (at_builtin; (refine wpList_append_bytes rfl (.tmp 23) (.tmp 24) _ rfl w1.heap.size 5 i0 Try.underlying22 hi hz0 hz1 hz2 (.slice (some ⟨w1.heap.size, 0, none⟩) 0 0) 0 [] rfl (empty_row w1) _ _ l rfl (HV1.out.below ((Below.refl _ _).alloc (Nat.le_refl _) _)) (by omega) (by simp) ?_); intro v3 w3 hown3 hgrow hat; rw [Nat.zero_add, List.nil_append] at hown3; obtain ⟨a3, c3, rfl⟩ := own_slice hown3; have HO3 := Lib.hid hown3; have B3 : Below w1.heap.size w1 w3 := ((Below.refl _ _).alloc (Nat.le_refl _) _).grown hgrow (by simp) (by intro k hk; simp [Value.ownBlock] at hk; omega); have hs3 := B3.size; clear hown3 hgrow hat)
    | (at_builtin; (refine wpList_append_bytes rfl (.tmp 25) (.tmp 26) _ rfl w1.heap.size 5 i0 Try.underlying22 hi hz0 hz1 hz2 (.slice a3 l.length c3) _ _ rfl (HO3.out.alloc _) _ (.slice (some ⟨w3.heap.size, 0, none⟩) 2 2) [91, 92] rfl (ninety w3) (by simp; omega) (by simp; omega) ?_); intro v5 w5 hown5 hgrow5 hat5; rw [← List.map_append] at hown5; obtain ⟨g, cap, rfl, hg0, hg1⟩ := hown5.form (by simp); have B5 : Below w1.heap.size w1 w5 := (B3.alloc hs3 _).grown hgrow5 (by simp; omega) (fun k hk => (HO3.out.lt k hk).1); have H5 := Lib.hid hown5; have hcap : (l.length : Int) ≤ (cap : Int) := own_cap hown5; clear hown5 hgrow5 hat5))
  refine (newReader_any _ l _ w5 (own_cut H5.out) (by omega)).mono ?_
  rintro e w6 ⟨q, rfl, hr6, hb6⟩
  have HR6 := Lib.hid hr6
  have HC6 := Lib.hid ((own_cut H5.out).below hb6)
  have HF6 := Lib.hid ((own_full H5.out).below hb6)
  have B6 : Below w1.heap.size w1 w6 := B5.trans (hb6.mono B5.size)
  have H6 := Lib.hid (ownsRow_keep H5.out (fun k hk => hb6.block k (H5.out.lt k hk).2))
  have hs6 := hb6.size
  clear hr6 hb6
  go_wp2_with fail
  refine (sum_any _ l _ w6 HC6.out).mono ?_
  rintro e w7 ⟨rfl, rfl⟩
  go_wp2_with fail
  refine (ofFour_any _ l _ w6 HC6.out).mono ?_
  rintro e w7 ⟨rfl, nn, rfl⟩
  have hcv1 := HF6.out.string 22 9 5 Try.underlying22 Try.underlying5 Try.underlying9 (w' := w6.drewN nn) (fun _ _ _ => rfl)
  have hcv2 := (HV1.out.below B6).string 22 9 5 Try.underlying22 Try.underlying5 Try.underlying9 (w' := w6.drewN nn) (fun _ _ _ => rfl)
  have hsz : (strOf l).size ≤ 140737488351232 := by simpa [strOf, ByteArray.size] using hl
  have heq : ((strOf (l ++ [91, 92])).toList == (strOf l ++ { data := #[91, 92] }).toList) = true := by
    rw [strOf_more]; exact beq_self_eq_true _
  go_wp2_with fail
  clear heq hcv1 hcv2 hsz
  go_loopw [51] (fun i wr => ∃ (k : Nat) (xs : List Value), k ≤ l.length + 2 ∧ i = .int .i64 k ∧ RdAt (fun k => w5.heap.size ≤ k) wr q ⟨l, 0⟩ ∧ wr.ownsRow w1.heap.size 5 1 (.slice (some ⟨g, 0, none⟩) (l.length + 2) cap) (l.length + 2) xs ∧ Below w1.heap.size w1 wr) (fun i _ => l.length + 2 - (intOf i).toNat)
  case atStart => exact ⟨0, _, by omega, rfl, HR6.out.below ⟨rfl, rfl, rfl, Nat.le_refl _, fun _ _ => rfl⟩, ownsRow_keep H6.out (fun _ _ => rfl), ⟨B6.os, B6.tape, B6.output, B6.size, B6.block⟩⟩
  case round =>
    obtain ⟨k, xs, hk, rfl, hr, hown, hB⟩ := hrel
    have HO := Lib.hid hown
    have HR := Lib.hid hr
    have hxl : xs.length = (l.length + 2) * 1 := hown.1
    clear hown hr
    by_cases hlt : k < l.length + 2
    · obtain ⟨u, hu⟩ : ∃ u, xs[k]? = some u := ⟨_, List.getElem?_eq_getElem (by omega)⟩
      have c0 := (HO.out.cellAt k (by omega)).trans hu
      have f0 := HO.out.frozenAt k
      have k0 : (0 : Int) ≤ (k : Int) := by omega
      have k1 : (k : Int) < (l.length : Int) + 2 := by omega
      clear hu
      go_wp2_with fail
      have hw : (wr.setCell ⟨g, k, none⟩ (.int .u8 120)).heap.size = wr.heap.size := by simp [World.setCell]
      refine ⟨⟨k + 1, _, by omega, by push_cast; rfl, HR.out.keep (fun j _ hj => Below.heap_setCell wr ⟨g, k, none⟩ _ j (by show j ≠ g; omega)) (Nat.le_of_eq hw.symm), (HO.out.stored k _).1, hB.setCell hg0 _⟩, by simp only [intOf]; omega⟩
    · have hlt2 : (l.length : Int) + 2 ≤ (k : Int) := by omega
      clear hlt
      go_wp2_with fail
      refine (rnum_any _ q _ wr HR.out).mono ?_
      rintro e w7 ⟨rfl, hr7, hm7⟩
      have B7 : Below w1.heap.size w1 w7 := hB.trans (hm7.toBelow hB.size (fun k hk => by have := B5.size; omega))
      obtain ⟨N, hN⟩ : ∃ N, N = (Rd.mk l 0).num := ⟨_, rfl⟩
      rw [← hN]
      have HN2 := Lib.hid hN
      clear hN hr7 hm7
      go_wp2_with fail
      refine (readNum_0 _ l _ w7 (HV1.out.below B7)).mono ?_
      rintro e w8 ⟨a8, n8, c8, he8, -, hb8⟩
      rw [← HN2.out] at he8
      subst he8
      have B8' : Below w1.heap.size w1 w8 := B7.trans (hb8.mono B7.size)
      clear hb8
      have hbW : Below w.heap.size w (w8.alloc (.cells #[.slice a8 n8 c8, .int .i64 ((Rd.mk l 0).numR.err)] 42)) := (hb1.trans (B8'.mono hb1.size)).alloc (by have := hb1.size; have := B8'.size; omega) _
      obtain ⟨O8, hO8⟩ : ∃ O8, O8 = (Obj.cells #[.slice a8 n8 c8, .int .i64 ((Rd.mk l 0).numR.err)] 42) := ⟨_, rfl⟩
      rw [← hO8] at hbW
      have hz8 : (w8.alloc O8).heap.size = w8.heap.size + 1 := by simp
      have T8 := (Ok.start (w8.alloc O8)).writer
      rw [hz8] at T8
      have HT8 := Lib.hid T8
      have HO8 := Lib.hid hO8
      have HBW := Lib.hid hbW
      clear T8 hO8 hz8 hbW
      go_wp2_with fail
      rw [← HO8.out]
      obtain ⟨W8, hW8⟩ : ∃ W8, W8 = w8.alloc O8 := ⟨_, rfl⟩
      rw [← hW8]
      rw [← hW8] at HT8 HBW
      obtain ⟨L, hL⟩ : ∃ L, L = encAll tl := ⟨_, rfl⟩
      have hlenL : L.length ≤ 140737488351232 := by
        have := encAll_length tl HN.out (by omega)
        rw [hL]; omega
      have HL := Lib.hid hL
      clear hL
      refine (lay_k HT8.out tl _ (HTV.out.below HBW.out) HN.out (by simp; omega)).mono ?_
      rintro e w9 ⟨rfl, T9⟩
      rw [List.nil_append, ← HL.out] at T9
      have HT9 := Lib.hid T9
      obtain ⟨Gw, Gr, K, h9⟩ := T9
      have HWR := Lib.hid (h9.wr _ rfl)
      have HW8 := Lib.hid hW8
      clear h9 hW8
      go_wp2_with fail
      refine (bytes_any Gw _ L w9 HWR.out (by omega)).mono ?_
      rintro e w10 ⟨v10, rfl, ⟨n10, hn10⟩, hb10⟩
      obtain rfl : L.length = n10 := by simpa using hn10.1
      obtain ⟨ax, cx, rfl⟩ := own_slice hn10
      have HX10 := Lib.hid hn10
      have HB10 := Lib.hid hb10
      clear hn10 hb10
      go_wp2_with fail
      refine (bytes_any Gw _ L w10 (HWR.out.below HB10.out) (by omega)).mono ?_
      rintro e w11 ⟨v11, rfl, ⟨n11, hn11⟩, hb11⟩
      obtain rfl : L.length = n11 := by simpa using hn11.1
      obtain ⟨ay, cy, rfl⟩ := own_slice hn11
      have HJ := Lib.hid (Jk.start HT9.out HX10.out HB10.out hn11 hb11)
      have hcvY := (BytesV.of_own HJ.out.y).string 22 9 5 Try.underlying22 Try.underlying5 Try.underlying9 (w' := w11) (fun _ _ _ => rfl)
      clear hn11 hb11 HX10 HB10 HWR HT9 HT8
      go_wp2_with fail
      clear hcvY
      go_loopw [79] (fun i wr => ∃ k : Nat, k ≤ L.length ∧ i = .int .i64 k ∧ Jk W8 (w8.heap.size + 1) L (.slice ax L.length cx) L.length (.slice ay L.length cy) L wr) (fun i _ => L.length - (intOf i).toNat)
      case atStart => exact ⟨0, by omega, rfl, HJ.out⟩
      case round =>
        obtain ⟨k, hk, rfl, J⟩ := hrel
        by_cases hlt : k < L.length
        · obtain ⟨xs, hown⟩ := J.x
          have hxl : xs.length = L.length * 1 := hown.1
          obtain ⟨gx, cx', ex, hgx, _⟩ := hown.form (by omega)
          injection ex with ex _ ex2
          subst ex ex2
          obtain ⟨u, hu⟩ : ∃ u, xs[k]? = some u := ⟨_, List.getElem?_eq_getElem (by omega)⟩
          have c0 := (hown.cellAt k (by omega)).trans hu
          have f0 := hown.frozenAt k
          have k0 : (0 : Int) ≤ (k : Int) := by omega
          have k1 : (k : Int) < (L.length : Int) := by omega
          have HJ2 := Lib.hid J
          clear hu hown J hxl
          go_wp2_with fail
          exact ⟨⟨k + 1, by omega, by push_cast; rfl, HJ2.out.store k _⟩, by simp only [intOf]; omega⟩
        · have hlt2 : (L.length : Int) ≤ (k : Int) := by omega
          have hdl : decide (k < L.length) = false := by simp; omega
          have HJ2 := Lib.hid J
          clear hlt J
          go_wp2_with fail
          go_loopw [12, 16] (fun x i wr => ∃ k : Nat, k ≤ 40 ∧ i = .int .i64 k ∧ Jk W8 (w8.heap.size + 1) L x (L.length + k) (.slice ay L.length cy) L wr) (fun _ i _ => 40 - (intOf i).toNat)
          case atStart => exact ⟨0, by omega, rfl, HJ2.out⟩
          case round =>
            obtain ⟨k, hk, rfl, J⟩ := hrel
            obtain ⟨xs, hown⟩ := J.x
            obtain ⟨a12, c12, rfl⟩ := own_slice hown
            have HO := Lib.hid hown
            have HJ3 := Lib.hid J
            have hsz3 := J.out.size
            clear hown J
            by_cases hlt : k < 40
            · go_wp2_with (at_builtin; refine wpList_append_lies _ rfl (.tmp 90) (.tmp 91) _ rfl W8.heap.size 5 i0 _ 1 1 Try.underlying22 hi hz0 hz1 hz2 rfl (by omega) (.slice a12 (L.length + k) c12) (L.length + k) _ rfl (HO.out.alloc _) ⟨wr.heap.size, 0, none⟩ 1 1 [.int .u8 122] rfl rfl (World.news_of_block (cs := #[.int .u8 122]) (t := 5) (fr := (0, 0)) (heap_at _ _ _ rfl)) (by simp [Value.oneCell']) (by omega) (by unfold maxLen; omega) (by omega) (by simp; omega) (wr.heap.size + 1) (by simp) ?_; intro g3 cap3 w13 hown3 hgrow3 hat3 hlt3)
              have J4 := HJ3.out.grown ((Below.refl _ _).alloc (Nat.le_refl _) _) hgrow3 (by rcases hat3 with e | e; exact Or.inl e.symm; exact Or.inr ⟨g3, by simp; omega, rfl⟩) hown3
              exact ⟨⟨k + 1, by omega, by push_cast; rfl, J4⟩, by simp only [intOf]; omega⟩
            · go_wp2_with fail
              refine (jnum HJ3.out.drop 5 (by omega) (by omega)).mono ?_
              rintro e w12 ⟨rfl, J12⟩
              rw [enc5] at J12
              have HJ12 := Lib.hid J12
              clear J12
              go_wp2_with fail
              refine (four7 w12).mono ?_
              rintro e w13 ⟨rfl, rfl⟩
              go_wp2_with fail
              refine (four7 _).mono ?_
              rintro e w13 ⟨rfl, rfl⟩
              have hF1 : ((w12.alloc fourObj).alloc fourObj).heap[w12.heap.size]? = some fourObj := blk_alloc (heap_at w12 fourObj _ rfl) _
              have c0 : ((w12.alloc fourObj).alloc fourObj).cell? ⟨w12.heap.size, 0, none⟩ = some (.int .u8 7) := blk_cell hF1 0
              have f0 : ((w12.alloc fourObj).alloc fourObj).frozen? ⟨w12.heap.size, 0, none⟩ = false := blk_free hF1 0
              have J14 := (HJ12.out.poke ((Below.refl _ _).alloc (Nat.le_refl _) fourObj) (Nat.le_refl _) 0 (.int .u8 9)).keep ((Below.refl _ _).alloc (Nat.le_refl _) fourObj)
              have hF3 := four_bytes (heap_at ((w12.alloc fourObj).setCell ⟨w12.heap.size, 0, none⟩ (.int .u8 9)) fourObj (w12.heap.size + 1) (by simp [World.setCell]))
              have hcvY := (BytesV.of_own J14.y).string 22 9 5 Try.underlying22 Try.underlying5 Try.underlying9 (w' := (((w12.alloc fourObj).setCell ⟨w12.heap.size, 0, none⟩ (.int .u8 9)).alloc fourObj)) (fun _ _ _ => rfl)
              have HJ14 := Lib.hid J14
              have HF3 := Lib.hid hF3
              have hsz : (strOf L).size ≤ 140737488351232 := by simpa [strOf, ByteArray.size] using hlenL
              have heq : ((strOf (L ++ [5])).toList == (strOf L ++ { data := #[5] }).toList) = true := by
                rw [strOf_more]; exact beq_self_eq_true _
              clear J14 hF1 hF3
              go_wp2_with fail
              refine (nil_wnum 1 _).mono ?_
              rintro e w15 ⟨rfl, rfl⟩
              go_wp2_with fail
              refine (nil_text _ _).mono ?_
              rintro e w15 ⟨rfl, rfl⟩
              go_wp2_with fail
              refine (jbytes HJ14.out (by simp; omega)).mono ?_
              rintro e w15 ⟨a15, c15, rfl, J15, hb15, hB15⟩
              rw [show (L ++ [(5 : UInt8)]).length = L.length + 1 from by simp] at hb15
              have hcvB := hb15.string 22 9 5 Try.underlying22 Try.underlying5 Try.underlying9 (w' := w15) (fun _ _ _ => rfl)
              have hcvG : (convert 22 9 (.slice (some ⟨w12.heap.size + 1, 0, none⟩) 4 4)).run Try.prog w15 = .ok (.string ⟨#[7, 0, 0, 0]⟩) w15 := (HF3.out.below hB15).string 22 9 5 Try.underlying22 Try.underlying5 Try.underlying9 (w' := w15) (fun _ _ _ => rfl)
              have HJ15 := Lib.hid J15
              clear J15 hb15 hB15
              go_wp2_with fail
              refine (nil_bytes _).mono ?_
              rintro e w16 ⟨rfl, rfl⟩
              go_wp2_with fail
              refine (nil_rnum _).mono ?_
              rintro e w16 ⟨rfl, rfl⟩
              go_wp2_with fail
              refine (nil_rtext _ _).mono ?_
              rintro e w16 ⟨he, rfl⟩
              replace he : e = .returned (.string ⟨#[]⟩) := he
              subst he
              go_wp2_with fail
              refine (nil_left _).mono ?_
              rintro e w16 ⟨rfl, rfl⟩
              go_wp2_with fail
              refine (nil_err _).mono ?_
              rintro e w16 ⟨rfl, rfl⟩
              go_wp2_with fail
              go_ret
              exact ⟨rfl, HBW.out.trans (HJ15.out.out.mono HBW.out.size)⟩
end Go.Proofs.Ytflacchpgcggnaa
