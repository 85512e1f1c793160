/- THE WALKS of Sum, Four, OfFour.  Sum, of bytes in a slice of whatever capacity. -/
import Derived.Test.YtphfekkllibphaaGreatDoorCrc
import Derived.Test.YtphfekkllibphaaGreatDoorWrbM
import Derived.Deep.QuietTactic
import Derived.BigQuiet
import Derived.RegionTactic
import Derived.ChangeAlike
namespace Go.Proofs.YtphfekkllibphaaGreatDoor
open Go.RowKit

set_option maxRecDepth 100000 in
set_option maxHeartbeats 1000000 in
theorem sum_any (D : Nat → Prop) (l : List UInt8) (dv : Value) (w : World) (hd : BytesV D w dv l) :
    Calls Tryz.prog 196 #[dv] w fun e w' => e = .returned (.int .u32 (sumOf l)) ∧ w = w' := by
  obtain ⟨a, c, rfl, hc, hcm, _, hcell⟩ := hd
  unfold maxLen at hcm
  have HC := Lib.hid hcell
  clear hcell
  go_enter Tryz.func196, Tryz.ntmps196
  go_wp2_with fail
  go_loop [3, 8] (fun x i => ∃ k X : Nat, k ≤ l.length ∧ i = .int .i64 k ∧ x = .int .u32 X ∧ X < 4294967296 ∧ Hid (X = crc 4294967295 (l.take k))) (fun _ i => l.length - (intOf i).toNat)
  case atStart => exact ⟨0, 4294967295, by omega, rfl, rfl, by omega, Lib.hid rfl⟩
  case round =>
    obtain ⟨k, X, hk, rfl, rfl, hX, HE⟩ := hrel
    by_cases hlt : k < l.length
    · obtain ⟨b, o, rfl, hb, _, hcell⟩ := HC.out (by omega)
      have c0 := hcell k l[k] (List.getElem?_eq_getElem hlt)
      have hu := l[k].toNat_lt
      obtain ⟨u, hu0⟩ : ∃ u, u = l[k].toNat := ⟨_, rfl⟩
      have HU := Lib.hid hu0
      unfold B8 at c0
      rw [← hu0] at c0 hu
      have k0 : (0 : Int) ≤ (k : Int) := by omega
      have k1 : (k : Int) < (l.length : Int) := by omega
      have hxor := bits_xor32 X u hX (by omega)
      have hxb : X ^^^ u < 4294967296 := Nat.xor_lt_two_pow (n := 32) hX (by omega)
      obtain ⟨Z, hZ⟩ : ∃ Z, Z = X ^^^ u := ⟨_, rfl⟩
      rw [← hZ] at hxor hxb
      have HZ := Lib.hid hZ
      have hwr : IntKind.u32.wrap (u : Int) = (u : Int) := wraps_u32 _ (by omega) (by omega)
      have hts : l.take (k + 1) = l.take k ++ [l[k]] := by rw [List.take_succ_eq_append_getElem hlt]
      have HTS := Lib.hid hts
      clear hcell hu0 hZ hts
      go_wp2_with fail
      go_loop [3, 16] (fun x i => ∃ j Y : Nat, j ≤ 8 ∧ i = .int .i64 j ∧ x = .int .u32 Y ∧ Y < 4294967296 ∧ Hid (citer (8 - j) Y = cbyte X l[k])) (fun _ i => 8 - (intOf i).toNat)
      case atStart => exact ⟨0, Z, by omega, rfl, rfl, hxb, Lib.hid (by rw [HZ.out, HU.out]; rfl)⟩
      case round =>
        obtain ⟨j, Y, hj, rfl, rfl, hY, HF⟩ := hrel
        by_cases hj8 : j < 8
        · have hst := cstep_lt (x := Y) hY
          obtain ⟨V, hV⟩ : ∃ V, V = cstep Y := ⟨_, rfl⟩
          rw [← hV] at hst
          have HV := Lib.hid hV
          have hnext : citer (8 - (j + 1)) V = cbyte X l[k] := by
            rw [← HF.out, hV, show 8 - j = 8 - (j + 1) + 1 from by omega]; rfl
          have HNX := Lib.hid hnext
          clear hnext
          have hand := bits_and1 Y hY
          by_cases hp : Y % 2 = 1
          · rw [hp] at hand
            have hneg : IntKind.u32.wrap (-1) = 4294967295 := by decide
            have hmask : bits .and .u32 3988292384 4294967295 = 3988292384 := by decide +kernel
            have hx2 : bits .xor .u32 ((Y : Int) / 2) 3988292384 = (V : Int) := by
              have h1 := bits_xor32 (Y / 2) poly (by omega) (by decide)
              rw [hV]; unfold cstep; rw [if_pos hp, ← h1]; rfl
            clear hp hV
            go_wp2_with fail
            exact ⟨⟨j + 1, V, by omega, by push_cast; rfl, rfl, hst, HNX⟩, by simp only [intOf]; omega⟩
          · have hp0 : Y % 2 = 0 := by omega
            rw [hp0] at hand
            have hmask : bits .and .u32 3988292384 0 = 0 := by decide +kernel
            have hx2 : bits .xor .u32 ((Y : Int) / 2) 0 = (V : Int) := by
              have h1 := bits_xor32 (Y / 2) 0 (by omega) (by decide)
              rw [hV]; unfold cstep; rw [if_neg hp, ← h1]; rfl
            clear hp hp0 hV
            go_wp2_with fail
            exact ⟨⟨j + 1, V, by omega, by push_cast; rfl, rfl, hst, HNX⟩, by simp only [intOf]; omega⟩
        · obtain rfl : j = 8 := by omega
          go_wp2_with fail
          refine ⟨⟨k + 1, Y, by omega, by push_cast; rfl, rfl, hY, Lib.hid ?_⟩, by simp only [intOf]; omega⟩
          rw [HTS.out, crc_snoc, ← HE.out, ← HF.out]; rfl
    · obtain rfl : k = l.length := by omega
      have hfin : X ^^^ 4294967295 = sumOf l := by rw [HE.out, List.take_length]; rfl
      have HFN := Lib.hid hfin
      clear hfin
      go_wp2_with fail
      go_ret
      refine ⟨?_, rfl⟩
      have h1 := bits_xor32 4294967295 X (by decide) hX
      have h2 : bits .xor .u32 IntKind.u32.max (X : Int) = ((sumOf l : Nat) : Int) := by
        rw [← HFN.out, Nat.xor_comm X]; exact h1
      exact congrArg (fun z => Ending.returned (.int .u32 z)) h2

set_option maxRecDepth 100000 in
set_option maxHeartbeats 1000000 in
theorem four_any (x : Nat) (w : World) (hx : x < 4294967296) :
    Calls Tryz.prog 195 #[.int .u32 x] w fun e w' => e = .returned (.slice (some ⟨w.heap.size, 0, none⟩) 4 4) ∧ w' = w.alloc (.cells ((four x).map B8).toArray 5) := by
  have hc : ((four x).map B8).toArray = #[.int .u8 ((x : Int) % 256), .int .u8 ((x : Int) / 256 % 256), .int .u8 ((x : Int) / 65536 % 256), .int .u8 ((x : Int) / 16777216)] := by
    have e3 : x / 16777216 % 256 = x / 16777216 := Nat.mod_eq_of_lt (by omega)
    simp [four, B8, e3]
  rw [hc]
  clear hc
  have hx' : (x : Int) < 4294967296 := by omega
  go_enter Tryz.func195, Tryz.ntmps195
  go_wp2_with fail
  go_ret
  exact ⟨rfl, by simp⟩

set_option maxRecDepth 100000 in
set_option maxHeartbeats 2000000 in
theorem ofFour_any (D : Nat → Prop) (l : List UInt8) (dv : Value) (w : World) (hd : BytesV D w dv l) :
    Calls Tryz.prog 318 #[dv] w fun e w' => e = .returned (.tuple #[.int .u32 (ofFour l), .bool (decide (4 ≤ l.length))]) ∧ ∃ n, w' = w.drewN n := by
  obtain ⟨a, c, rfl, hc, hcm, _, hcell⟩ := hd
  unfold maxLen at hcm
  by_cases h4 : 4 ≤ l.length
  · obtain ⟨b, o, rfl, hb, _, hcell⟩ := hcell (by omega)
    obtain ⟨x0, x1, x2, x3, r, rfl⟩ : ∃ x0 x1 x2 x3 r, l = x0 :: x1 :: x2 :: x3 :: r := by
      match l, h4 with
      | x0 :: x1 :: x2 :: x3 :: r, _ => exact ⟨x0, x1, x2, x3, r, rfl⟩
    have c0 := hcell 0 x0 rfl
    have c1 := hcell 1 x1 rfl
    have c2 := hcell 2 x2 rfl
    have c3 := hcell 3 x3 rfl
    have h0 := x0.toNat_lt
    have h1 := x1.toNat_lt
    have h2 := x2.toNat_lt
    have h3 := x3.toNat_lt
    have hr : ofFour (x0 :: x1 :: x2 :: x3 :: r) = x0.toNat + 256 * x1.toNat + 65536 * x2.toNat + 16777216 * x3.toNat := rfl
    rw [hr, decide_eq_true h4]
    unfold B8 at c0 c1 c2 c3
    rw [Nat.add_zero] at c0
    obtain ⟨m, hm⟩ : ∃ m, m = (x0 :: x1 :: x2 :: x3 :: r).length := ⟨_, rfl⟩
    rw [← hm] at h4 hc ⊢
    generalize x0.toNat = y0 at *
    generalize x1.toNat = y1 at *
    generalize x2.toNat = y2 at *
    generalize x3.toNat = y3 at *
    clear hm hr hcell
    have i3 : (3 : Int) < (m : Int) := by omega
    have i4 : ¬ (m : Int) < 4 := by omega
    go_enter Tryz.func318, Tryz.ntmps318
    go_wp2_with fail
    go_quiet (fail)
    go_wp2_with fail
    go_ret2
    refine ⟨?_, nq, rfl⟩
    have e1 := u32_or8 (y0 : Int) ((y1 : Int) * 256) (by omega) (by omega) (by omega) (by omega) (by omega)
    have e2 := u32_or16 ((y0 : Int) + (y1 : Int) * 256) ((y2 : Int) * 65536) (by omega) (by omega) (by omega) (by omega) (by omega)
    have e3 := u32_or24 ((y0 : Int) + (y1 : Int) * 256 + (y2 : Int) * 65536) ((y3 : Int) * 16777216) (by omega) (by omega) (by omega) (by omega) (by omega)
    have e4 : ((y0 : Int) + (y1 : Int) * 256 + (y2 : Int) * 65536) + (y3 : Int) * 16777216 = ((y0 + 256 * y1 + 65536 * y2 + 16777216 * y3 : Nat) : Int) := by omega
    rw [← e4, ← e3, ← e2, ← e1]
    rfl
  · rw [decide_eq_false h4]
    have hr : ofFour l = 0 := by
      unfold ofFour
      split
      · exact absurd (by simp) h4
      · rfl
    rw [hr]
    have i4 : (l.length : Int) < 4 := by omega
    clear hr h4 hcell
    go_enter Tryz.func318, Tryz.ntmps318
    go_wp2_with fail
    go_ret2
    exact ⟨rfl, 0, rfl⟩
end Go.Proofs.YtphfekkllibphaaGreatDoor

namespace Go.Proofs.YtphfekkllibphaaGreatDoor
open Go.RowKit

set_option maxRecDepth 100000 in
set_option maxHeartbeats 1000000 in
theorem sum_len (l : List UInt8) (a : Option Addr) (c : Nat) (w : World) (hcm : l.length ≤ 1000000) (hcell : 0 < l.length → ∃ b o, a = some ⟨b, o, none⟩ ∧ ∀ (j : Nat) (x : UInt8), l[j]? = some x → w.cell? ⟨b, o + j, none⟩ = some (B8 x)) :
    Calls Tryz.prog 196 #[.slice a l.length c] w fun e w' => e = .returned (.int .u32 (sumOf l)) ∧ w = w' := by
  have HC := Lib.hid hcell
  clear hcell
  go_enter Tryz.func196, Tryz.ntmps196
  go_wp2_with fail
  go_loop [3, 8] (fun x i => ∃ k X : Nat, k ≤ l.length ∧ i = .int .i64 k ∧ x = .int .u32 X ∧ X < 4294967296 ∧ Hid (X = crc 4294967295 (l.take k))) (fun _ i => l.length - (intOf i).toNat)
  case atStart => exact ⟨0, 4294967295, by omega, rfl, rfl, by omega, Lib.hid rfl⟩
  case round =>
    obtain ⟨k, X, hk, rfl, rfl, hX, HE⟩ := hrel
    by_cases hlt : k < l.length
    · obtain ⟨b, o, rfl, hcell⟩ := HC.out (by omega)
      have c0 := hcell k l[k] (List.getElem?_eq_getElem hlt)
      have hu := l[k].toNat_lt
      obtain ⟨u, hu0⟩ : ∃ u, u = l[k].toNat := ⟨_, rfl⟩
      have HU := Lib.hid hu0
      unfold B8 at c0
      rw [← hu0] at c0 hu
      have k0 : (0 : Int) ≤ (k : Int) := by omega
      have k1 : (k : Int) < (l.length : Int) := by omega
      have hxor := bits_xor32 X u hX (by omega)
      have hxb : X ^^^ u < 4294967296 := Nat.xor_lt_two_pow (n := 32) hX (by omega)
      obtain ⟨Z, hZ⟩ : ∃ Z, Z = X ^^^ u := ⟨_, rfl⟩
      rw [← hZ] at hxor hxb
      have HZ := Lib.hid hZ
      have hwr : IntKind.u32.wrap (u : Int) = (u : Int) := wraps_u32 _ (by omega) (by omega)
      have hts : l.take (k + 1) = l.take k ++ [l[k]] := by rw [List.take_succ_eq_append_getElem hlt]
      have HTS := Lib.hid hts
      clear hcell hu0 hZ hts
      go_wp2_with fail
      go_loop [3, 16] (fun x i => ∃ j Y : Nat, j ≤ 8 ∧ i = .int .i64 j ∧ x = .int .u32 Y ∧ Y < 4294967296 ∧ Hid (citer (8 - j) Y = cbyte X l[k])) (fun _ i => 8 - (intOf i).toNat)
      case atStart => exact ⟨0, Z, by omega, rfl, rfl, hxb, Lib.hid (by rw [HZ.out, HU.out]; rfl)⟩
      case round =>
        obtain ⟨j, Y, hj, rfl, rfl, hY, HF⟩ := hrel
        by_cases hj8 : j < 8
        · have hst := cstep_lt (x := Y) hY
          obtain ⟨V, hV⟩ : ∃ V, V = cstep Y := ⟨_, rfl⟩
          rw [← hV] at hst
          have HV := Lib.hid hV
          have hnext : citer (8 - (j + 1)) V = cbyte X l[k] := by
            rw [← HF.out, hV, show 8 - j = 8 - (j + 1) + 1 from by omega]; rfl
          have HNX := Lib.hid hnext
          clear hnext
          have hand := bits_and1 Y hY
          by_cases hp : Y % 2 = 1
          · rw [hp] at hand
            have hneg : IntKind.u32.wrap (-1) = 4294967295 := by decide
            have hmask : bits .and .u32 3988292384 4294967295 = 3988292384 := by decide +kernel
            have hx2 : bits .xor .u32 ((Y : Int) / 2) 3988292384 = (V : Int) := by
              have h1 := bits_xor32 (Y / 2) poly (by omega) (by decide)
              rw [hV]; unfold cstep; rw [if_pos hp, ← h1]; rfl
            clear hp hV
            go_wp2_with fail
            exact ⟨⟨j + 1, V, by omega, by push_cast; rfl, rfl, hst, HNX⟩, by simp only [intOf]; omega⟩
          · have hp0 : Y % 2 = 0 := by omega
            rw [hp0] at hand
            have hmask : bits .and .u32 3988292384 0 = 0 := by decide +kernel
            have hx2 : bits .xor .u32 ((Y : Int) / 2) 0 = (V : Int) := by
              have h1 := bits_xor32 (Y / 2) 0 (by omega) (by decide)
              rw [hV]; unfold cstep; rw [if_neg hp, ← h1]; rfl
            clear hp hp0 hV
            go_wp2_with fail
            exact ⟨⟨j + 1, V, by omega, by push_cast; rfl, rfl, hst, HNX⟩, by simp only [intOf]; omega⟩
        · obtain rfl : j = 8 := by omega
          go_wp2_with fail
          refine ⟨⟨k + 1, Y, by omega, by push_cast; rfl, rfl, hY, Lib.hid ?_⟩, by simp only [intOf]; omega⟩
          rw [HTS.out, crc_snoc, ← HE.out, ← HF.out]; rfl
    · obtain rfl : k = l.length := by omega
      have hfin : X ^^^ 4294967295 = sumOf l := by rw [HE.out, List.take_length]; rfl
      have HFN := Lib.hid hfin
      clear hfin
      go_wp2_with fail
      go_ret
      refine ⟨?_, rfl⟩
      have h1 := bits_xor32 4294967295 X (by decide) hX
      have h2 : bits .xor .u32 IntKind.u32.max (X : Int) = ((sumOf l : Nat) : Int) := by
        rw [← HFN.out, Nat.xor_comm X]; exact h1
      exact congrArg (fun z => Ending.returned (.int .u32 z)) h2

end Go.Proofs.YtphfekkllibphaaGreatDoor
