/- awake: the document's examples. -/
import Derived.Test.YtflacchpgcggnaaOc
import Derived.Lib.SlBytesConst
namespace Go.Proofs.Ytflacchpgcggnaa
open Go.RowKit

theorem enc300 : ([] : List UInt8) ++ enc (300 : Int).toNat = [172, 2] := by
  show [] ++ enc 300 = _
  rw [enc_big (by omega), enc_small (by omega)]; rfl
theorem encAb : ([172, 2] : List UInt8) ++ encText (ByteArray.mk #[97, 98]).data.toList = [172, 2, 2, 97, 98] := by
  show [172, 2] ++ (enc 2 ++ [97, 98]) = _
  rw [enc_small (by omega)]; rfl

set_option maxHeartbeats 4000000 in
theorem awake_any (w : World) : Calls Try.prog 14 #[] w fun e w' => e = .returned (.bool true) ∧ Below w.heap.size w w' := by
  have kc := fun (w : World) (C : Array Value) (n c : Nat) => Lib.run_convert_bytes_const (P := Try.prog) w 22 5 C n c Try.underlying22 Try.underlying5
  go_enter Try.func14, Try.ntmps14
  go_wp2_with fail
  refine (wnum_o (Oc.start w).writer 300 (by omega) (by simp)).mono ?_
  rintro e w1 ⟨rfl, T1⟩
  rw [enc300] at T1
  go_wp2_with fail
  refine (wtext_o T1 _ (by decide)).mono ?_
  rintro e w2 ⟨rfl, T2⟩
  rw [encAb] at T2
  go_wp2_with fail
  refine (wbytes_o T2 (by decide)).mono ?_
  rintro e w3 ⟨a3, c3, rfl, T3⟩
  go_wp2_with fail
  refine (newReader_o T3 (l := [172, 2, 2, 97, 98]) (by simp) (by decide)).mono ?_
  rintro e w4 ⟨q, rfl, T4⟩
  go_wp2_with fail
  refine (rnum_o T4).mono ?_
  rintro e w5 ⟨he, T5⟩
  replace he : e = .returned (.int .i64 300) := he
  subst he
  replace T5 : Oc w (some (w.heap.size, [172, 2, 2, 97, 98])) (some (q, ⟨[2, 97, 98], 0⟩)) none _ w5 := T5
  go_wp2_with fail
  refine (rtext_o T5 2).mono ?_
  rintro e w6 ⟨he, T6⟩
  replace he : e = .returned (.string ⟨#[97, 98]⟩) := he
  subst he
  replace T6 : Oc w (some (w.heap.size, [172, 2, 2, 97, 98])) (some (q, ⟨[], 0⟩)) none _ w6 := T6
  go_wp2_with fail
  refine (ofFour_o (T6.lit [0, 1, 0, 0, 255] _ _ rfl 5 rfl (by decide)) (l := [0, 1, 0, 0, 255]) (by simp)).mono ?_
  rintro e w7 ⟨he, T7⟩
  replace he : e = .returned (.tuple #[.int .u32 256, .bool true]) := he
  subst he
  go_wp2_with fail
  refine (wbytes_o T7 (by decide)).mono ?_
  rintro e w8 ⟨a8, c8, rfl, T8⟩
  have cv8 : (convert 22 9 (.slice a8 5 c8)).run Try.prog w8 = .ok (.string ⟨#[172, 2, 2, 97, 98]⟩) w8 := T8.str (l := [172, 2, 2, 97, 98]) (by simp)
  go_wp2_with fail
  refine (left_o T8).mono ?_
  rintro e w9 ⟨he, rfl⟩
  replace he : e = .returned (.int .i64 0) := he
  subst he
  go_wp2_with fail
  refine (err_o T8).mono ?_
  rintro e w9 ⟨he, rfl⟩
  replace he : e = .returned (.int .i64 0) := he
  subst he
  go_wp2_with fail
  refine (sum_o (T8.lit [49, 50, 51, 52, 53, 54, 55, 56, 57] _ _ rfl 9 rfl (by decide)) (l := [49, 50, 51, 52, 53, 54, 55, 56, 57]) (by simp)).mono ?_
  rintro e w9 ⟨he, rfl⟩
  rw [sum_nine] at he
  replace he : e = .returned (.int .u32 3421780262) := he
  subst he
  go_wp2_with fail
  refine (four_o (T8.lit [49, 50, 51, 52, 53, 54, 55, 56, 57] _ _ rfl 9 rfl (by decide)) 1 (by decide)).mono ?_
  rintro e w10 ⟨a10, rfl, T10⟩
  have cv10 : (convert 22 9 (.slice a10 4 4)).run Try.prog w10 = .ok (.string ⟨#[1, 0, 0, 0]⟩) w10 := T10.str (l := four 1) (by simp)
  go_wp2_with fail
  go_ret
  exact ⟨rfl, T10.out⟩
end Go.Proofs.Ytflacchpgcggnaa
