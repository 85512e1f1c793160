/- THE WALK of OctetsSums. -/
import Derived.Test.YtflacchpgcggnaaRefe
import Derived.Test.YtflacchpgcggnaaStep
import Derived.Test.YtflacchpgcggnaaWake
import Derived.Test.YtflacchpgcggnaaLawTurned
namespace Go.Proofs.Ytflacchpgcggnaa
open Go.RowKit

set_option maxRecDepth 100000 in
set_option maxHeartbeats 4000000 in
theorem octetsSums_any (D : Nat → Prop) (l : List UInt8) (v : Value) (x : Nat) (hx : x < 4294967296) (w : World) (hv : BytesV D w v l) (hl : l.length ≤ 140737488355328) :
    Calls Try.prog 8 #[v, .int .u32 x] w fun e w' => e = .returned (.bool true) ∧ Below w.heap.size w w' := by
  obtain ⟨i0, hi, hz0, hz1, hz2⟩ := info_parts Try.info8
  have HV := Lib.hid hv
  obtain ⟨a, c, rfl, hc, hcm, _⟩ := hv
  unfold maxLen at hcm
  obtain ⟨bb, hbb⟩ : ∃ bb, bb = decide (4 ≤ l.length) := ⟨_, rfl⟩
  have HBB := Lib.hid hbb
  have HFF := Lib.hid (ofFour_four hx)
  clear hbb
  go_enter Try.func8, Try.ntmps8
  go_wp2_with fail
  refine (awake_any w).mono ?_
  rintro e w1 ⟨rfl, hb1⟩
  have HV1 := Lib.hid (HV.out.below hb1)
  go_wp2_with (at_builtin; refine wpList_append_bytes rfl (.tmp 14) (.tmp 15) _ rfl w1.heap.size 5 i0 Try.underlying22 hi hz0 hz1 hz2 (.slice (some ⟨w1.heap.size, 0, none⟩) 0 0) 0 [] rfl (empty_row w1) _ _ l rfl (HV1.out.below ((Below.refl _ _).alloc (Nat.le_refl _) _)) (by omega) (by simp) ?_; intro v3 w3 hown3 hgrow hat; obtain ⟨a3, c3, rfl, T3⟩ := (Ok.start w1).copied hown3 hgrow; clear hown3 hat)
  refine (ofFour_k T3 (l := l) (by simp)).mono ?_
  rintro e w4 ⟨rfl, T4⟩
  rw [← HBB.out]
  have HT4 := Lib.hid (T4.weaken.old HV1.out)
  clear T3 T4 hgrow
  go_wp2_with fail
  obtain ⟨K4, hK4⟩ := HT4.out.bytes List.mem_cons_self
  refine (refOfFour_any K4 l _ _ hK4).mono ?_
  rintro e w5 ⟨rfl, rfl⟩
  rw [← HBB.out]
  clear hK4
  go_wp2_with fail
  refine (four_k HT4.out x hx).mono ?_
  rintro e w5 ⟨a5, rfl, T5⟩
  go_wp2_with fail
  refine (ofFour_k T5 (l := four x) (by simp)).mono ?_
  rintro e w6 ⟨he, T6⟩
  rw [HFF.out] at he
  replace he : e = .returned (.tuple #[.int .u32 x, .bool true]) := he
  subst he
  have HT6 := Lib.hid (T6.weaken.old HV1.out)
  obtain ⟨K6, hK6⟩ := HT6.out.bytes List.mem_cons_self
  have HK6 := Lib.hid hK6
  clear T5 T6 hK6
  obtain ⟨n1, hn1⟩ : ∃ n1, n1 = ofFour l := ⟨_, rfl⟩
  rw [← hn1]
  obtain ⟨n2, hn2⟩ : ∃ n2, n2 = sumOf l := ⟨_, rfl⟩
  have HN2 := Lib.hid hn2
  clear hn1 hn2
  go_wp2_with fail
  go_region_held_law (fun _ => True) (trivial) (first
    | (refine step_append_bytes rfl (.tmp 31) (.tmp 32) _ rfl _ 5 i0 Try.underlying22 hi hz0 hz1 hz2 _ 0 [] rfl (empty_row _) _ _ l rfl (HK6.out.below (((Below.refl _ _).drew).alloc (Nat.le_refl _) _)) (by omega) (by simp) ?_; intro v7 w7 hown7 hgrow7 hat7; obtain ⟨a7, c7, rfl, T7⟩ := (HT6.out.drew).copied hown7 hgrow7; have HT7 := Lib.hid T7; clear hown7 hgrow7 hat7 T7)
    | (go_at_call 28; (refine (sum_k HT7.out (l := l) (by simp)).mono ?_); rintro e w8 ⟨rfl, rfl⟩; rw [← HN2.out])
    | (go_at_call 29; (refine (refSum_any _ l _ _ (HT7.out.bytes (List.mem_cons_of_mem _ List.mem_cons_self)).choose_spec).mono ?_); rintro e w8 ⟨rfl, rfl⟩; rw [← HN2.out])
    | (go_at_call 27; (refine (four_k HT7.out x hx).mono ?_); rintro e w9 ⟨a9, rfl, T9⟩; have HT9 := Lib.hid T9; have cv9 := T9.str (v := .slice a9 4 4) (l := four x) (by simp); clear T9)
    | (go_at_call 30; (refine (refFour_any x _ hx).mono ?_); rintro e w10 ⟨v10, rfl, hown10, hB10⟩; have T10 := HT9.out.keep hB10; have cv10 := T10.str (v := .slice a9 4 4) (l := four x) (by simp); have hv10 := BytesV.of_own hown10; have cv11 := hv10.string 22 9 5 Try.underlying22 Try.underlying5 Try.underlying9 (w' := w10) (fun _ _ _ => rfl); have HT10 := Lib.hid T10; clear T10 hown10 hB10 hv10))
  all_goals
    go_wp2_with fail
    go_ret
    exact ⟨rfl, hb1.trans (HT10.out.out.mono hb1.size)⟩
end Go.Proofs.Ytflacchpgcggnaa
