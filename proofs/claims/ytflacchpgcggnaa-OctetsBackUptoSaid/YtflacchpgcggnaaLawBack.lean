/- THE WALK of OctetsBack. -/
import Derived.Test.YtflacchpgcggnaaLay
import Derived.Deep.RegionWith
namespace Go.Proofs.Ytflacchpgcggnaa
open Go.RowKit

set_option maxRecDepth 100000 in
set_option maxHeartbeats 2000000 in
theorem octetsBack_any (tl : List Th) (tv : Value) (w : World) (htv : ThingsIn w tv tl) (hn : ∀ q ∈ tl, -9223372036854775808 ≤ q.n ∧ q.n ≤ 9223372036854775807) (hl : total tl + tl.length ≤ 2097152) :
    Calls Try.prog 6 #[tv] w fun e w' => e = .returned (.bool true) ∧ Below w.heap.size w w' := by
  have hlen : (encAll tl).length ≤ 9 * tl.length + total tl := encAll_length tl hn (by omega)
  have HTV := Lib.hid htv
  have HN := Lib.hid hn
  obtain ⟨ta, tc, rfl, _⟩ := htv
  clear hn
  go_enter Try.func6, Try.ntmps6
  go_wp2_with fail
  refine (awake_any w).mono ?_
  rintro e w1 ⟨rfl, hb1⟩
  have htv1 : ThingsIn w1 (.slice ta tl.length tc) tl := by
    obtain ⟨a, c, e, h2, h3, h4, h5⟩ := HTV.out
    refine ⟨a, c, e, h2, h3, h4, fun hl => ?_⟩
    obtain ⟨b, o, rfl, hb, hc⟩ := h5 hl
    refine ⟨b, o, rfl, Nat.lt_of_lt_of_le hb hb1.size, fun j q hq => ?_⟩
    obtain ⟨c0, c1, c2⟩ := hc j q hq
    exact ⟨(hb1.cell (p := ⟨b, o + j * 3, none⟩) hb).trans c0, (hb1.cell (p := ⟨b, o + j * 3 + 1, none⟩) hb).trans c1, (hb1.cell (p := ⟨b, o + j * 3 + 2, none⟩) hb).trans c2⟩
  have HTV1 := Lib.hid htv1
  clear htv1
  go_wp2_with fail
  refine (lay_k (Ok.start w1).writer tl _ HTV1.out HN.out (by simp; omega)).mono ?_
  rintro e w2 ⟨rfl, T2⟩
  rw [List.nil_append] at T2
  go_wp2_with fail
  refine (wbytes_k T2 (by omega)).mono ?_
  rintro e w3 ⟨a3, c3, rfl, T3⟩
  go_wp2_with fail
  refine (newReader_k T3 (l := encAll tl) (by simp) (by omega)).mono ?_
  rintro e w4 ⟨q, rfl, T4⟩
  have HT4 := Lib.hid T4
  clear T2 T3 T4
  go_wp2_with fail
  go_loopw [21] (fun i wr => ∃ j : Nat, j ≤ tl.length ∧ i = .int .i64 j ∧ Ok w1 (some (w1.heap.size, encAll tl)) (some (q, ⟨encAll (tl.drop j), 0⟩)) none [] [] wr) (fun i _ => tl.length - (intOf i).toNat)
  case atStart => exact ⟨0, by omega, rfl, HT4.out.clean⟩
  case round =>
    obtain ⟨j, hj, rfl, T⟩ := hrel
    have hB1 := T.out
    have hB : Below w.heap.size w wr := hb1.trans (hB1.mono hb1.size)
    by_cases hlt : j < tl.length
    · obtain ⟨x, hx⟩ : ∃ x, tl[j]? = some x := ⟨_, List.getElem?_eq_getElem hlt⟩
      obtain ⟨b', o, c1, e1, hc', hm', hbs, t0, t1, t2⟩ := HTV.out.at_ hx
      injection e1 with e1 _ e2
      subst e1 e2
      have p0 := (hB.cell (p := ⟨b', o + j * 3, none⟩) hbs).trans t0
      have p1 := (hB.cell (p := ⟨b', o + j * 3 + 1, none⟩) hbs).trans t1
      have p2 := (hB.cell (p := ⟨b', o + j * 3 + 2, none⟩) hbs).trans t2
      have k0 : (0 : Int) ≤ (j : Int) := by omega
      have k1 : (j : Int) < (tl.length : Int) := by omega
      have hqn := (HN.out x (List.mem_of_getElem? hx)).2
      have hss := total_at hx
      have hdr : tl.drop j = x :: tl.drop (j + 1) := by
        obtain ⟨l1, e1⟩ := List.getElem?_eq_some_iff.1 hx
        rw [List.drop_eq_getElem_cons l1, e1]
      rw [hdr, encAll_cons] at T
      have hxs : x.s.size ≤ 2097152 := by omega
      clear t0 t1 t2 hdr hss hx
      cases hxt : x.isText with
      | true =>
        rw [hxt] at p0
        have he : encThing x = encText x.s.data.toList := by unfold encThing; rw [if_pos hxt]
        rw [he] at T
        obtain ⟨r1, r2⟩ := rd_text x.s.data.toList (encAll (tl.drop (j + 1))) (by simp; omega)
        rw [show x.s.data.toList.length = x.s.size from Array.length_toList] at r1 r2
        have HR1 := Lib.hid r1
        have HR2 := Lib.hid r2
        have TT := Lib.hid (T.boxk (.cells #[.bool true, .int .i64 x.n, .string x.s] 37))
        clear hxt he r1 r2 T
        go_wp2_with fail
        go_region_with (go_at_call 21; (refine (rtext_k TT.out.drew _).mono ?_); rintro e w3 ⟨he, T3⟩; rw [HR1.out, strOf_self] at he; rw [HR2.out] at T3; subst he; have hO := T3.has (n := wr.heap.size) List.mem_cons_self; obtain ⟨o0, o1, o2, -, -, -⟩ := blk3 hO; have zO := lt_of_heap hO; have HT3 := Lib.hid T3; clear T3 hO)
        all_goals
          go_wp2_with fail
          exact ⟨⟨j + 1, by omega, by push_cast; rfl, HT3.out.clean⟩, by simp only [intOf]; omega⟩
      | false =>
        rw [hxt] at p0
        have he : encThing x = enc x.n.toNat := by unfold encThing; rw [hxt]; rfl
        rw [he] at T
        obtain ⟨r1, r2⟩ := rd_num (n := x.n.toNat) (by omega) (encAll (tl.drop (j + 1)))
        have HR1 := Lib.hid r1
        have HR2 := Lib.hid r2
        have TT := Lib.hid (T.boxk (.cells #[.bool false, .int .i64 x.n, .string x.s] 37))
        clear hxt he r1 r2 T
        obtain ⟨xb, xn, xs⟩ := x
        simp only at *
        rcases (show (∃ m : Nat, xn = m) ∨ xn < 0 from by by_cases h : xn < 0; exact Or.inr h; exact Or.inl ⟨xn.toNat, by omega⟩) with ⟨m, rfl⟩ | hneg
        · go_wp2_with fail
          go_region_with (go_at_call 15; (refine (rnum_k TT.out.drew).mono ?_); rintro e w3 ⟨he, T3⟩; rw [HR1.out] at he; rw [HR2.out] at T3; replace he : e = .returned (.int .i64 (m : Int)) := he; subst he; have hO := T3.has (n := wr.heap.size) List.mem_cons_self; obtain ⟨o0, o1, o2, -, -, -⟩ := blk3 hO; have zO := lt_of_heap hO; have HT3 := Lib.hid T3; clear T3 hO)
          all_goals
            go_wp2_with fail
            exact ⟨⟨j + 1, by omega, by push_cast; rfl, HT3.out.clean⟩, by simp only [intOf]; omega⟩
        · have hz : xn.toNat = 0 := by omega
          have HZ := Lib.hid hz
          clear hz
          go_wp2_with fail
          go_region_with (go_at_call 15; (refine (rnum_k TT.out.drew).mono ?_); rintro e w3 ⟨he, T3⟩; rw [HR1.out, HZ.out] at he; rw [HR2.out] at T3; replace he : e = .returned (.int .i64 0) := he; subst he; have hO := T3.has (n := wr.heap.size) List.mem_cons_self; obtain ⟨o0, o1, o2, -, -, -⟩ := blk3 hO; have zO := lt_of_heap hO; have HT3 := Lib.hid T3; clear T3 hO)
          all_goals
            go_wp2_with fail
            exact ⟨⟨j + 1, by omega, by push_cast; rfl, HT3.out.clean⟩, by simp only [intOf]; omega⟩
    · obtain rfl : j = tl.length := by omega
      rw [List.drop_length] at T
      have HT := Lib.hid T
      clear T
      go_wp2_with fail
      refine (left_k HT.out).mono ?_
      rintro e w5 ⟨he, rfl⟩
      replace he : e = .returned (.int .i64 0) := he
      subst he
      go_wp2_with fail
      refine (err_k HT.out).mono ?_
      rintro e w5 ⟨he, rfl⟩
      replace he : e = .returned (.int .i64 0) := he
      subst he
      go_wp2_with fail
      go_ret
      exact ⟨rfl, hB⟩
end Go.Proofs.Ytflacchpgcggnaa
