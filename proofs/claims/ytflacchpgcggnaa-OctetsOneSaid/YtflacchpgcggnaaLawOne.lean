/- THE WALK of OctetsOne. -/
import Derived.Test.YtflacchpgcggnaaOne
import Derived.Deep.RegionWith
import Derived.Deep.RegionHeldLaw
namespace Go.Proofs.Ytflacchpgcggnaa
open Go.RowKit

set_option maxRecDepth 100000 in
set_option maxHeartbeats 4000000 in
theorem octetsOne_any (D : Nat → Prop) (l : List UInt8) (v : Value) (tl : List Bool) (tv : Value) (w : World) (hv : BytesV D w v l) (hl : l.length ≤ 140737488351232) (htv : BoolsIn w tv tl) (htl : tl.length ≤ 140737488355328) :
    Calls Try.prog 7 #[v, tv] w fun e w' => e = .returned (.bool true) ∧ Below w.heap.size w w' := by
  obtain ⟨i0, hi, hz0, hz1, hz2⟩ := info_parts Try.info8
  have HV := Lib.hid hv
  have HTV := Lib.hid htv
  obtain ⟨a, c, rfl, hc, hcm, _⟩ := hv
  unfold maxLen at hcm
  obtain ⟨ta, tc, rfl, _⟩ := htv
  go_enter Try.func7, Try.ntmps7
  go_wp2_with fail
  refine (awake_any w).mono ?_
  rintro e w1 ⟨rfl, hb1⟩
  have HV1 := Lib.hid (HV.out.below hb1)
  go_wp2_with (at_builtin; refine wpList_append_bytes rfl (.tmp 14) (.tmp 15) _ rfl w1.heap.size 5 i0 Try.underlying22 hi hz0 hz1 hz2 (.slice (some ⟨w1.heap.size, 0, none⟩) 0 0) 0 [] rfl (empty_row w1) _ _ l rfl (HV1.out.below ((Below.refl _ _).alloc (Nat.le_refl _) _)) (by omega) (by simp) ?_; intro v3 w3 hown3 hgrow hat; obtain ⟨a3, c3, rfl, T3⟩ := (Ok.start w1).copied hown3 hgrow; clear hown3 hat)
  refine (newReader_k T3 (l := l) (by simp) (by omega)).mono ?_
  rintro e w4 ⟨q, rfl, T4⟩
  have HT5 := Lib.hid T4.writer
  clear T3 T4
  go_wp2_with fail
  go_loopw [22] (fun i wr => ∃ (j : Nat) (r : Rd) (l0 : List UInt8), j ≤ tl.length ∧ i = .int .i64 j ∧ Hid (OneI l l0 r) ∧ Ok w1 (some (w4.heap.size, l0)) (some (q, r)) none [] [] wr) (fun i _ => tl.length - (intOf i).toNat)
  case atStart => exact ⟨0, ⟨l, 0⟩, [], by omega, rfl, Lib.hid ⟨rfl, Or.inl rfl⟩, HT5.out.clean⟩
  case round =>
    obtain ⟨j, r, l0, hj, rfl, HI, T⟩ := hrel
    have hB : Below w.heap.size w wr := hb1.trans (T.out.mono hb1.size)
    have hlen : l.length = l0.length + r.left.length := by have := congrArg List.length HI.out.eq; simpa using this
    have hl0 : l0.length ≤ 140737488351232 := by omega
    have HT := Lib.hid T
    clear T
    by_cases hlt : j < tl.length
    · clear hlen
      obtain ⟨x, hx⟩ : ∃ x, tl[j]? = some x := ⟨_, List.getElem?_eq_getElem hlt⟩
      obtain ⟨b', o, c1, e1, hc', hm', hbs, t0⟩ := HTV.out.at_ hx
      injection e1 with e1 _ e2
      subst e1 e2
      have p0 := (hB.cell (p := ⟨b', o + j, none⟩) hbs).trans t0
      have k0 : (0 : Int) ≤ (j : Int) := by omega
      have k1 : (j : Int) < (tl.length : Int) := by omega
      clear t0 hx
      cases x with
      | true =>
        have HI2 := Lib.hid (HI.out.text (l.length : Int))
        go_wp2_with fail
        refine (rtext_k HT.out (l.length : Int)).mono ?_
        rintro e w5 ⟨rfl, T5⟩
        have HT5 := Lib.hid T5
        clear T5
        go_wp2_with fail
        refine (err_k HT5.out).mono ?_
        rintro e w6 ⟨rfl, rfl⟩
        by_cases he : (r.textR (l.length : Int)).err = 0
        · have he2 : (((r.textR (l.length : Int)).err : Int) == 0) = true := by rw [beq_iff_eq]; omega
          have hI3 := HI2.out
          rw [if_pos he] at hI3
          have hsz : (strOf (r.text (l.length : Int))).data.toList = r.text (l.length : Int) := by simp [strOf]
          have hsz2 : (strOf (r.text (l.length : Int))).size = (r.text (l.length : Int)).length := by simp [strOf, ByteArray.size]
          have hb3 : l.length = (l0.length + (encText (r.text (l.length : Int))).length) + (r.textR (l.length : Int)).left.length := by have := congrArg List.length hI3.eq; simp at this; omega
          have hb4 : (r.text (l.length : Int)).length ≤ (encText (r.text (l.length : Int))).length := by simp [encText]
          have hb5 : l0.length + 9 + (strOf (r.text (l.length : Int))).size ≤ 140737488355328 := by rw [hsz2]; omega
          have HB5 := Lib.hid hb5
          have HS := Lib.hid hsz
          have HI3 := Lib.hid hI3
          clear he hI3 hsz hsz2 hb3 hb4 hb5
          go_wp2_with fail
          refine (wtext_k HT5.out _ HB5.out).mono ?_
          rintro e w7 ⟨rfl, T7⟩
          rw [HS.out] at T7
          go_wp2_with fail
          exact ⟨⟨j + 1, _, _, by omega, by push_cast; rfl, HI3, T7⟩, by simp only [intOf]; omega⟩
        · have he2 : (((r.textR (l.length : Int)).err : Int) == 0) = false := by rw [beq_eq_false_iff_ne]; omega
          have hI3 := HI2.out
          rw [if_neg he] at hI3
          have HI3 := Lib.hid hI3
          clear he hI3
          go_wp2_with fail
          exact ⟨⟨j + 1, _, _, by omega, by push_cast; rfl, HI3, HT5.out⟩, by simp only [intOf]; omega⟩
      | false =>
        have HI2 := Lib.hid HI.out.num
        have hnl := r.num_lt
        have hn0 : ¬ (r.num : Int) < 0 := by omega
        go_wp2_with fail
        refine (rnum_k HT.out).mono ?_
        rintro e w5 ⟨rfl, T5⟩
        have HT5 := Lib.hid T5
        clear T5
        go_wp2_with fail
        refine (err_k HT5.out).mono ?_
        rintro e w6 ⟨rfl, rfl⟩
        by_cases he : r.numR.err = 0
        · have he2 : ((r.numR.err : Int) == 0) = true := by rw [beq_iff_eq]; omega
          have hI3 := HI2.out
          rw [if_pos he] at hI3
          have HI3 := Lib.hid hI3
          clear he hI3
          go_wp2_with fail
          refine (wnum_k HT5.out (r.num : Int) (by omega) (by omega)).mono ?_
          rintro e w7 ⟨rfl, T7⟩
          rw [Int.toNat_natCast] at T7
          go_wp2_with fail
          exact ⟨⟨j + 1, _, _, by omega, by push_cast; rfl, HI3, T7⟩, by simp only [intOf]; omega⟩
        · have he2 : ((r.numR.err : Int) == 0) = false := by rw [beq_eq_false_iff_ne]; omega
          have hI3 := HI2.out
          rw [if_neg he] at hI3
          have HI3 := Lib.hid hI3
          clear he hI3
          go_wp2_with fail
          exact ⟨⟨j + 1, _, _, by omega, by push_cast; rfl, HI3, HT5.out⟩, by simp only [intOf]; omega⟩
    · obtain ⟨m, hm⟩ : ∃ m, m = l0.length := ⟨_, rfl⟩
      have hsub : IntKind.i64.wrap ((l.length : Int) - (r.left.length : Int)) = (m : Int) := by rw [hm, show ((l.length : Int) - (r.left.length : Int)) = (l0.length : Int) from by omega]; exact IntWalk.i64_in _ (by omega)
      have hsub2 : (l.length : Int) - (r.left.length : Int) = (m : Int) := by omega
      have HS2 := Lib.hid hsub2
      have hm1 : (m : Int) ≤ (l.length : Int) := by omega
      have hm0 : (0 : Int) ≤ (m : Int) := by omega
      have hmc : (m : Int) ≤ (c : Int) := by omega
      have hmc2 : m ≤ c := by omega
      have hmn : m ≤ l.length := by omega
      have htake : l.take m = l0 := by rw [HI.out.eq, hm]; simp
      have HV2 : BytesV D w1 (.slice a m c) l0 := by
        have := cut_to (k := 0) (n := m) HV1.out (by omega)
        rw [List.drop_zero, htake] at this
        have ea : Option.map (fun x : Addr => x.add 0) a = a := by cases a <;> simp [Addr.add]
        rw [ea] at this
        simpa using this
      have HM := Lib.hid hm
      have HHV2 := Lib.hid HV2
      clear hsub2 hlen htake HV2 hm
      go_wp2_with fail
      refine (left_k HT.out).mono ?_
      rintro e w5 ⟨rfl, rfl⟩
      have hcvA := HHV2.out.string 22 9 5 Try.underlying22 Try.underlying5 Try.underlying9 (w' := wr.drew) (fun k hk _ => HT.out.out.block k hk)
      have HER := Lib.hid HI.out.err
      rcases HER.out with he | he | he
      · have q0 : ((r.err : Int) == 0) = true := by rw [he]; rfl
        clear he
        go_wp2_with fail
        clear HV HV1 HTV HI HS2 HM HER hlt hcm hc htl hi hz0 hz1 hz2 hsub hmn hB
        first | (go_region_held_law (fun v => (convert 22 9 (.slice a m c)).run Try.prog v = .ok (.string (strOf l0)) v) (first | assumption | exact hcvA) (first
          | (go_at_call 13; (refine (wbytes_k HT.out.drew (by omega)).mono ?_); rintro e w5 ⟨a5, c5, rfl, T5⟩; have hcvC := T5.str (v := .slice a5 l0.length c5) (l := l0) (by simp); have hcvB := HHV2.out.string 22 9 5 Try.underlying22 Try.underlying5 Try.underlying9 (w' := w5) (fun k hk _ => T5.out.block k hk); have HT5' := Lib.hid T5; clear T5)
          | (go_at_call 16; (refine (err_k HT5'.out).mono ?_); rintro e w6 ⟨rfl, rfl⟩))) | fail
        all_goals
          go_wp2_with fail
          go_ret
          exact ⟨rfl, hb1.trans (HT5'.out.out.mono hb1.size)⟩
      · have q0 : ((r.err : Int) == 0) = false := by rw [he]; rfl
        have q1 : ((r.err : Int) == 20) = true := by rw [he]; rfl
        clear he
        go_wp2_with fail
        clear HV HV1 HTV HI HS2 HM HER hlt hcm hc htl hi hz0 hz1 hz2 hsub hmn hB
        first | (go_region_held_law (fun v => (convert 22 9 (.slice a m c)).run Try.prog v = .ok (.string (strOf l0)) v) (first | assumption | exact hcvA) (first
          | (go_at_call 13; (refine (wbytes_k HT.out.drew (by omega)).mono ?_); rintro e w5 ⟨a5, c5, rfl, T5⟩; have hcvC := T5.str (v := .slice a5 l0.length c5) (l := l0) (by simp); have hcvB := HHV2.out.string 22 9 5 Try.underlying22 Try.underlying5 Try.underlying9 (w' := w5) (fun k hk _ => T5.out.block k hk); have HT5' := Lib.hid T5; clear T5)
          | (go_at_call 16; (refine (err_k HT5'.out).mono ?_); rintro e w6 ⟨rfl, rfl⟩))) | fail
        all_goals
          go_wp2_with fail
          go_ret
          exact ⟨rfl, hb1.trans (HT5'.out.out.mono hb1.size)⟩
      · have q0 : ((r.err : Int) == 0) = false := by rw [he]; rfl
        have q1 : ((r.err : Int) == 20) = false := by rw [he]; rfl
        have q2 : ((r.err : Int) == 21) = true := by rw [he]; rfl
        clear he
        go_wp2_with fail
        clear HV HV1 HTV HI HS2 HM HER hlt hcm hc htl hi hz0 hz1 hz2 hsub hmn hB
        first | (go_region_held_law (fun v => (convert 22 9 (.slice a m c)).run Try.prog v = .ok (.string (strOf l0)) v) (first | assumption | exact hcvA) (first
          | (go_at_call 13; (refine (wbytes_k HT.out.drew (by omega)).mono ?_); rintro e w5 ⟨a5, c5, rfl, T5⟩; have hcvC := T5.str (v := .slice a5 l0.length c5) (l := l0) (by simp); have hcvB := HHV2.out.string 22 9 5 Try.underlying22 Try.underlying5 Try.underlying9 (w' := w5) (fun k hk _ => T5.out.block k hk); have HT5' := Lib.hid T5; clear T5)
          | (go_at_call 16; (refine (err_k HT5'.out).mono ?_); rintro e w6 ⟨rfl, rfl⟩))) | fail
        all_goals
          go_wp2_with fail
          go_ret
          exact ⟨rfl, hb1.trans (HT5'.out.out.mono hb1.size)⟩
end Go.Proofs.Ytflacchpgcggnaa
