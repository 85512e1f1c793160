/- THE WALK of OctetsReads. -/
import Derived.Test.YtflacchpgcggnaaOk
import Derived.Test.YtflacchpgcggnaaWake
import Derived.Test.YtflacchpgcggnaaLawTurned
import Derived.Test.YtflacchpgcggnaaOpenThing
namespace Go.Proofs.Ytflacchpgcggnaa
open Go.RowKit

set_option maxRecDepth 100000 in
set_option maxHeartbeats 2000000 in
theorem octetsReads_any (D : Nat → Prop) (l : List UInt8) (v : Value) (tl : List Th) (tv : Value) (w : World) (hv : BytesV D w v l) (hl : l.length ≤ 140737488355328) (htv : ThingsIn w tv tl) (htl : tl.length ≤ 140737488355328) :
    Calls Try.prog 5 #[v, tv] w fun e w' => e = .returned (.bool true) ∧ Below w.heap.size w w' := by
  obtain ⟨i0, hi, hz0, hz1, hz2⟩ := info_parts Try.info8
  have HV := Lib.hid hv
  have HTV := Lib.hid htv
  obtain ⟨a, c, rfl, hc, hcm, _⟩ := hv
  unfold maxLen at hcm
  obtain ⟨ta, tc, rfl, _⟩ := htv
  go_enter Try.func5, Try.ntmps5
  go_wp2_with fail
  refine (awake_any w).mono ?_
  rintro e w1 ⟨rfl, hb1⟩
  have HV1 := Lib.hid (HV.out.below hb1)
  go_wp2_with (at_builtin; refine wpList_append_bytes rfl (.tmp 17) (.tmp 18) _ rfl w1.heap.size 5 i0 Try.underlying22 hi hz0 hz1 hz2 (.slice (some ⟨w1.heap.size, 0, none⟩) 0 0) 0 [] rfl (empty_row w1) _ _ l rfl (HV1.out.below ((Below.refl _ _).alloc (Nat.le_refl _) _)) (by omega) (by simp) ?_; intro v3 w3 hown3 hgrow hat; obtain ⟨a3, c3, rfl, T3⟩ := (Ok.start w1).copied hown3 hgrow; clear hown3 hat)
  refine (newReader_k T3 (l := l) (by simp) hl).mono ?_
  rintro e w4 ⟨q, rfl, T4⟩
  have T5 := ((T4.old HV1.out).reader (a := a) (n := l.length) (c := c) (l := l) (by simp))
  have HT5 := Lib.hid T5
  clear T3 T4 T5
  go_wp2_with fail
  refine (left_k HT5.out).mono ?_
  rintro e w5 ⟨rfl, rfl⟩
  go_wp2_with fail
  refine (err_k HT5.out).mono ?_
  rintro e w5 ⟨rfl, rfl⟩
  go_wp2_with fail
  go_loopw [39] (fun i wr => ∃ (j : Nat) (r : Rd), j ≤ tl.length ∧ i = .int .i64 j ∧ Ok w1 none (some (q, r)) (some (w4.heap.size, r)) [] [] wr) (fun i _ => tl.length - (intOf i).toNat)
  case atStart => exact ⟨0, ⟨l, 0⟩, by omega, rfl, HT5.out.clean⟩
  case round =>
    obtain ⟨j, r, hj, rfl, T⟩ := hrel
    have hB : Below w.heap.size w wr := hb1.trans (T.out.mono hb1.size)
    by_cases hlt : j < tl.length
    · obtain ⟨x, hx⟩ : ∃ x, tl[j]? = some x := ⟨_, List.getElem?_eq_getElem hlt⟩
      obtain ⟨b', o, c1, e1, hc', hm', hbs, t0, t1, t2⟩ := HTV.out.at_ hx
      injection e1 with e1 _ e2
      subst e1 e2
      have p0 := (hB.cell (p := ⟨b', o + j * 3, none⟩) hbs).trans t0
      have p1 := (hB.cell (p := ⟨b', o + j * 3 + 1, none⟩) hbs).trans t1
      have p2 := (hB.cell (p := ⟨b', o + j * 3 + 2, none⟩) hbs).trans t2
      have k0 : (0 : Int) ≤ (j : Int) := by omega
      have k1 : (j : Int) < (tl.length : Int) := by omega
      obtain ⟨ma, mm, T1, m0, m1, f0, f1, z1⟩ := T.cells
      clear t0 t1 t2
      cases hxt : x.isText with
      | true =>
        rw [hxt] at p0
        clear hxt
        have TT := Lib.hid (T1.boxk (.cells #[.bool true, .int .i64 x.n, .string x.s] 37))
        clear T1 T
        go_wp2_with fail
        refine (rtext_k TT.out x.n).mono ?_
        rintro e w5 ⟨rfl, T3⟩
        obtain ⟨mc, md, T3', m0, m1, f0, f1, z3⟩ := T3.cells
        have hO := T3'.has (n := wr.heap.size) List.mem_cons_self
        obtain ⟨o0, o1, o2, -, -, -⟩ := blk3 hO
        have zO := lt_of_heap hO
        have zn := T3'.ne (n := wr.heap.size) List.mem_cons_self
        have zn2 : ¬ w4.heap.size = wr.heap.size := fun e => zn e.symm
        have zn3 : ¬ wr.heap.size = w4.heap.size := zn
        have HT3 := Lib.hid T3'
        clear T3 T3' hO zn
        go_wp2_with fail
        refine (readText_k HT3.out (r) x.n (by simp)).mono ?_
        rintro e w6 ⟨a6, n6, c6, rfl, T4⟩
        obtain ⟨me, mg, T4', p0, p1, h0, h1, z4⟩ := T4.cells
        have hO := T4'.has (n := wr.heap.size) List.mem_cons_self
        have zO6 := lt_of_heap hO
        have T5 := (T4'.mstore (r' := r.textR x.n) (v := .slice a6 n6 c6) (by simp)).box (.cells #[.slice a6 n6 c6, .int .i64 (r.textR x.n).err] 42)
        clear T4 T4' hO m0 m1 f0 f1 o0 o1 o2
        obtain ⟨mb, mf, T6, n0, n1, g0, g1, z6⟩ := T5.cells
        have HT6 := Lib.hid T6
        clear T5 T6
        go_wp2_with fail
        go_quiet (first | (go_at_call 20; exact left_q HT6.out _) | (go_at_call 16; exact err_q HT6.out _))
        go_wp2_with fail
        exact ⟨⟨j + 1, r.textR x.n, by omega, by push_cast; rfl, (HT6.out.drewN _).clean⟩, by simp only [intOf]; omega⟩
      | false =>
        rw [hxt] at p0
        clear hxt
        have TT := Lib.hid (T1.boxk (.cells #[.bool false, .int .i64 x.n, .string x.s] 37))
        clear T1 T
        go_wp2_with fail
        refine (rnum_k TT.out).mono ?_
        rintro e w5 ⟨rfl, T3⟩
        obtain ⟨mc, md, T3', m0, m1, f0, f1, z3⟩ := T3.cells
        have hO := T3'.has (n := wr.heap.size) List.mem_cons_self
        obtain ⟨o0, o1, o2, -, -, -⟩ := blk3 hO
        have zO := lt_of_heap hO
        have zn := T3'.ne (n := wr.heap.size) List.mem_cons_self
        have zn2 : ¬ w4.heap.size = wr.heap.size := fun e => zn e.symm
        have zn3 : ¬ wr.heap.size = w4.heap.size := zn
        have HT3 := Lib.hid T3'
        clear T3 T3' hO zn
        go_wp2_with fail
        refine (readNum_k HT3.out (r) (by simp)).mono ?_
        rintro e w6 ⟨a6, n6, c6, rfl, T4⟩
        obtain ⟨me, mg, T4', p0, p1, h0, h1, z4⟩ := T4.cells
        have hO := T4'.has (n := wr.heap.size) List.mem_cons_self
        have zO6 := lt_of_heap hO
        have T5 := (T4'.mstore (r' := r.numR) (v := .slice a6 n6 c6) (by simp)).box (.cells #[.slice a6 n6 c6, .int .i64 (r.numR).err] 42)
        clear T4 T4' hO m0 m1 f0 f1 o0 o1 o2
        obtain ⟨mb, mf, T6, n0, n1, g0, g1, z6⟩ := T5.cells
        have HT6 := Lib.hid T6
        clear T5 T6
        go_wp2_with fail
        go_quiet (first | (go_at_call 20; exact left_q HT6.out _) | (go_at_call 16; exact err_q HT6.out _))
        go_wp2_with fail
        exact ⟨⟨j + 1, r.numR, by omega, by push_cast; rfl, (HT6.out.drewN _).clean⟩, by simp only [intOf]; omega⟩
    · go_wp2_with fail
      go_ret
      exact ⟨rfl, hB⟩
end Go.Proofs.Ytflacchpgcggnaa
