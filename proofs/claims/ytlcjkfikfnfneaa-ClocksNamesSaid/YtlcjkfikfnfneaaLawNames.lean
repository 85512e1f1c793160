/- THE WALK of ClocksNames. -/
import Derived.Test.YtlcjkfikfnfneaaWake
namespace Go.Proofs.Ytlcjkfikfnfneaa
open Go.RowKit

def allL : List Int := [1152921504606846976, 0, 0, 0, 0, 0, 0, 1152921504606846976]
def zeroL : List Int := [0, 0, 0, 0, 0, 0, 0, 0]
def oneL : List Int := [0, 0, 0, 0, 0, 0, 0, 1]
def ckN : Ck := ⟨allL, 1152921504606846976, 1000⟩
theorem n1e : (Ck.start 8).tickE 1152921504606846976 allL = 0 := by decide +kernel
theorem n1r : (Ck.start 8).tickR 1152921504606846976 allL = ckN := by
  unfold Ck.tickR
  rw [if_pos n1e]
  have h : T3.leastT 1152921504606846976 1152921504606846976 = 0 ∧ T3.leastT 1152921504606846976 0 = 1000 := by decide +kernel
  simp [driftU, nowU, Ck.start, h.1, h.2, allL, ckN, List.replicate] <;> decide
theorem n2e : ckN.tickE 1 zeroL = 30 := by decide +kernel
theorem n2r : ckN.tickR 1 zeroL = ckN := by unfold Ck.tickR; rw [if_neg (by rw [n2e]; decide)]
theorem n3e : ckN.tickE 0 oneL = 30 := by decide +kernel
theorem n3r : ckN.tickR 0 oneL = ckN := by unfold Ck.tickR; rw [if_neg (by rw [n3e]; decide)]
theorem n4e : ckN.tickE 0 zeroL = 0 := by decide +kernel
theorem n4r : ckN.tickR 0 zeroL = ckN := by
  unfold Ck.tickR
  rw [if_pos n4e]
  have h : T3.leastT 0 0 = 0 := by decide +kernel
  simp [driftU, nowU, h, allL, ckN, zeroL] <;> decide
def zeroA : Array Value := (List.replicate 8 (Value.int .i64 0)).toArray

set_option maxRecDepth 100000 in
set_option maxHeartbeats 4000000 in
theorem clocksNames_any (w : World) : Calls Try.prog 3 #[] w fun e w' => e = .returned (.bool true) ∧ Below w.heap.size w w' := by
  obtain ⟨i0, hi, hz0, hz1, hz2⟩ := info_parts Try.info3
  have hmk : ∀ w : World, (Instr.makeSlice 27 (.int .i64 8) (.int .i64 8)).run Try.prog w = .ok (.slice (some ⟨w.heap.size, 0, none⟩) 8 8) (w.alloc (.cells zeroA 3)) := fun w => by
    have := run_make_rowN (P := Try.prog) 27 3 i0 (.int .i64 0) Try.underlying27 hi hz0 .i64 .i64 8 8 (Nat.le_refl _) (by rw [hz2]; omega) (by omega) w
    simp only [hz1, Nat.mul_one, Value.cells, madeCells_one] at this
    exact this
  clear hi hz0 hz1 hz2
  go_enter Try.func3, Try.ntmps3
  go_wp2_with fail
  refine (new_ok 8 w (by omega)).mono ?_
  rintro e w1 ⟨p, g, rfl, C1, hp, hg, hb⟩
  have H1 := Lib.hid (Cs.of_new (by omega) C1 hp hg hb)
  clear C1 hp hg hb
  go_wp2_with fail
  refine (new_no 9 w1 (by omega)).mono ?_
  rintro e w2 ⟨rfl, rfl⟩
  go_wp2_with fail
  refine (new_no 0 w1 (by omega)).mono ?_
  rintro e w2 ⟨rfl, rfl⟩
  go_wp2_with fail
  refine (awake_any w1).mono ?_
  rintro e w2 ⟨rfl, hb2⟩
  have H2 := Lib.hid (H1.out.keep hb2)
  clear H1 hb2
  go_wp2_with fail
  refine (cs_tick (H2.out.box _) 1152921504606846976 ⟨by omega, by omega⟩ (i64_lits (by decide)) (ints_new w2 allL _ rfl 8 rfl (by decide)) H2.out.apart).mono ?_
  rintro e w3 ⟨he, T3, -⟩
  replace he : e = .returned (.int .i64 0) := he.trans (by rw [show (Ck.start (8 : Int).toNat).tickE 1152921504606846976 allL = 0 from n1e]; rfl)
  replace T3 : Cs w p g ckN w3 := n1r ▸ T3
  subst he
  have H3 := Lib.hid T3
  clear T3 H2
  go_wp2_with fail
  refine (cs_tick (H3.out.box _) 1 ⟨by omega, by omega⟩ (i64_lits (by decide)) (ints_new w3 zeroL zeroA rfl 8 rfl (by decide)) H3.out.apart).mono ?_
  rintro e w4 ⟨he, T4, -⟩
  replace he : e = .returned (.int .i64 30) := he.trans (by rw [n2e]; rfl)
  rw [n2r] at T4
  subst he
  have H4 := Lib.hid T4
  clear T4 H3
  go_wp2_with fail
  refine (cs_tick (H4.out.box _) 0 ⟨by omega, by omega⟩ (i64_lits (by decide)) (ints_new w4 oneL _ rfl 8 rfl (by decide)) H4.out.apart).mono ?_
  rintro e w5 ⟨he, T5, -⟩
  replace he : e = .returned (.int .i64 30) := he.trans (by rw [n3e]; rfl)
  rw [n3r] at T5
  subst he
  have H5 := Lib.hid T5
  clear T5 H4
  go_wp2_with fail
  refine (cs_tick (H5.out.box _) 0 ⟨by omega, by omega⟩ (i64_lits (by decide)) (ints_new w5 zeroL zeroA rfl 8 rfl (by decide)) H5.out.apart).mono ?_
  rintro e w6 ⟨he, T6, -⟩
  replace he : e = .returned (.int .i64 0) := he.trans (by rw [n4e]; rfl)
  rw [n4r] at T6
  subst he
  have H6 := Lib.hid T6
  clear T6 H5
  go_wp2_with fail
  refine (now_any p g _ 0 w6 H6.out.at_).mono ?_
  rintro e w7 ⟨he, rfl⟩
  replace he : e = .returned (.int .i64 1152921504606846976) := he
  subst he
  go_wp2_with fail
  refine (drift_any p g _ w6 H6.out.at_).mono ?_
  rintro e w7 ⟨he, rfl⟩
  replace he : e = .returned (.int .i64 1000) := he
  subst he
  go_wp2_with fail
  go_ret
  exact ⟨rfl, H6.out.out⟩
end Go.Proofs.Ytlcjkfikfnfneaa
