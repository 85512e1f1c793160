/- THE WALK of OctetsNames. -/
import Derived.Test.YtflacchpgcggnaaWake
namespace Go.Proofs.Ytflacchpgcggnaa
open Go.RowKit

theorem encMax : ([] : List UInt8) ++ enc (9223372036854775807 : Int).toNat = [255, 255, 255, 255, 255, 255, 255, 255, 127] := by
  show [] ++ enc 9223372036854775807 = _
  rw [enc_big (by omega), enc_big (by omega), enc_big (by omega), enc_big (by omega), enc_big (by omega), enc_big (by omega), enc_big (by omega), enc_big (by omega), enc_small (by omega)]; rfl

set_option maxHeartbeats 4000000 in
theorem octetsNames_any (w : World) : Calls Try.prog 3 #[] w fun e w' => e = .returned (.bool true) ∧ Below w.heap.size w w' := by
  go_enter Try.func3, Try.ntmps3
  go_wp2_with fail
  refine (wnum_o (Oc.start w).writer 9223372036854775807 (by omega) (by simp)).mono ?_
  rintro e w1 ⟨rfl, T1⟩
  rw [encMax] at T1
  go_wp2_with fail
  refine (wbytes_o T1 (by decide)).mono ?_
  rintro e w3 ⟨a3, c3, rfl, T3⟩
  go_wp2_with fail
  refine (newReader_o T3 (l := [255, 255, 255, 255, 255, 255, 255, 255, 127]) (by simp) (by decide)).mono ?_
  rintro e w4 ⟨q, rfl, T4⟩
  go_wp2_with fail
  refine (awake_any w4).mono ?_
  rintro e w5 ⟨rfl, hb5⟩
  have T5 := T4.keep hb5
  go_wp2_with fail
  refine (wbytes_o T5 (by decide)).mono ?_
  rintro e w8 ⟨a8, c8, rfl, T8⟩
  have cv8 : (convert 22 9 (.slice a8 9 c8)).run Try.prog w8 = .ok (.string ⟨#[255, 255, 255, 255, 255, 255, 255, 255, 127]⟩) w8 := T8.str (l := [255, 255, 255, 255, 255, 255, 255, 255, 127]) (by simp)
  go_wp2_with fail
  refine (rnum_o T8).mono ?_
  rintro e w9 ⟨he, T9⟩
  replace he : e = .returned (.int .i64 9223372036854775807) := he
  subst he
  go_wp2_with fail
  refine (err_o T9).mono ?_
  rintro e w10 ⟨he, rfl⟩
  replace he : e = .returned (.int .i64 0) := he
  subst he
  go_wp2_with fail
  go_ret
  exact ⟨rfl, T9.out⟩
end Go.Proofs.Ytflacchpgcggnaa
