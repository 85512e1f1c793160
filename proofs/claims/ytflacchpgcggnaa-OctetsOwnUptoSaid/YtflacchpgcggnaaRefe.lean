/- THE WALKS of subletref02: Sum, OfFour, Four, Num, Text. -/
import Derived.Test.YtflacchpgcggnaaRefc
import Derived.Test.YtflacchpgcggnaaOk
namespace Go.Proofs.Ytflacchpgcggnaa
open Go.RowKit

/-- New bytes of the call's own. -/
def NewRow (w : World) (l : List UInt8) (e : Ending) (w' : World) : Prop := ∃ v, e = .returned v ∧ w'.ownsRow w.heap.size 5 1 v l.length (l.map B8) ∧ Below w.heap.size w w'

set_option maxRecDepth 100000 in
set_option maxHeartbeats 1000000 in
theorem refSum_any (D : Nat → Prop) (l : List UInt8) (dv : Value) (w : World) (hd : BytesV D w dv l) :
    Calls Try.prog 29 #[dv] w fun e w' => e = .returned (.int .u32 (sumOf l)) ∧ w = w' := by
  obtain ⟨a, c, rfl, hc, hcm, _, hcell⟩ := hd
  unfold maxLen at hcm
  have HC := Lib.hid hcell
  clear hcell
  go_enter Try.func29, Try.ntmps29
  go_wp2_with fail
  go_loop [3, 4] (fun x i => ∃ k X : Nat, k ≤ l.length ∧ i = .int .i64 k ∧ x = .int .u32 X ∧ X < 4294967296 ∧ Hid (X = crc 4294967295 (l.take k))) (fun _ i => l.length - (intOf i).toNat)
  case atStart => exact ⟨0, 4294967295, by omega, rfl, rfl, by omega, Lib.hid rfl⟩
  case round =>
    obtain ⟨k, X, hk, rfl, rfl, hX, HE⟩ := hrel
    by_cases hlt : k < l.length
    · obtain ⟨b, o, rfl, hb, _, hcell⟩ := HC.out (by omega)
      have c0 := hcell k l[k] (List.getElem?_eq_getElem hlt)
      have hu := l[k].toNat_lt
      obtain ⟨u, hu0⟩ : ∃ u, u = l[k].toNat := ⟨_, rfl⟩
      have hdb := diter_byte l[k] X
      rw [← hu0] at hdb
      have HDB := Lib.hid hdb
      unfold B8 at c0
      rw [← hu0] at c0 hu
      have k0 : (0 : Int) ≤ (k : Int) := by omega
      have k1 : (k : Int) < (l.length : Int) := by omega
      have hts : l.take (k + 1) = l.take k ++ [l[k]] := by rw [List.take_succ_eq_append_getElem hlt]
      have HTS := Lib.hid hts
      clear hcell hu0 hts hdb
      go_wp2_with fail
      go_loop [3, 5] (fun x i => ∃ j Y : Nat, j ≤ 8 ∧ i = .int .i64 j ∧ x = .int .u32 Y ∧ Y < 4294967296 ∧ Hid (Y = diter u j X)) (fun _ i => 8 - (intOf i).toNat)
      case atStart => exact ⟨0, X, by omega, rfl, rfl, hX, Lib.hid rfl⟩
      case round =>
        obtain ⟨j, Y, hj, rfl, rfl, hY, HF⟩ := hrel
        by_cases hj8 : j < 8
        · have hand := bits_and1 Y hY
          have hub : u / 2 ^ j < 4294967296 := Nat.lt_of_le_of_lt (Nat.div_le_self _ _) (by omega)
          have hb1 := bits_and1 (u / 2 ^ j) hub
          push_cast at hb1
          obtain ⟨V, hV⟩ : ∃ V, V = dstep Y (u / 2 ^ j % 2) := ⟨_, rfl⟩
          have hVd : V = diter u (j + 1) X := by rw [hV, HF.out]; rfl
          have hVl : V < 4294967296 := by rw [hVd]; exact diter_lt u hX (j + 1)
          have HVD := Lib.hid hVd
          have hjp : (2 : Nat) ^ j ≤ 128 := Nat.pow_le_pow_right (i := j) (j := 7) (by omega : 0 < 2) (by omega)
          clear hub hVd
          by_cases hbt : u / 2 ^ j % 2 = Y % 2
          · have e1 : ((u : Int) / 2 ^ j % 2) = ((Y % 2 : Nat) : Int) := by rw [← hbt]; push_cast; rfl
            rw [e1] at hb1
            have hv : V = Y / 2 := by rw [hV]; unfold dstep; rw [if_pos hbt]
            clear hbt e1 hV
            subst hv
            rcases (show Y % 2 = 0 ∨ Y % 2 = 1 from by omega) with h0 | h0
            all_goals
              rw [h0] at hand hb1
              clear h0
              go_wp2_with fail
              exact ⟨⟨j + 1, Y / 2, by omega, by push_cast; rfl, by push_cast; rfl, hVl, HVD⟩, by simp only [intOf]; omega⟩
          · have hx2 : bits .xor .u32 ((Y : Int) / 2) 3988292384 = (V : Int) := by
              have h1 := bits_xor32 (Y / 2) poly (by omega) (by decide)
              rw [hV]; unfold dstep; rw [if_neg hbt, ← h1]; rfl
            have e1 : ((u : Int) / 2 ^ j % 2) = ((u / 2 ^ j % 2 : Nat) : Int) := by push_cast; rfl
            rw [e1] at hb1
            rcases (show (Y % 2 = 0 ∧ u / 2 ^ j % 2 = 1) ∨ (Y % 2 = 1 ∧ u / 2 ^ j % 2 = 0) from by omega) with ⟨h0, h1⟩ | ⟨h0, h1⟩
            all_goals
              rw [h0] at hand
              rw [h1] at hb1
              clear h0 h1 hbt e1 hV
              go_wp2_with fail
              exact ⟨⟨j + 1, V, by omega, by push_cast; rfl, rfl, hVl, HVD⟩, by simp only [intOf]; omega⟩
        · obtain rfl : j = 8 := by omega
          go_wp2_with fail
          refine ⟨⟨k + 1, Y, by omega, by push_cast; rfl, rfl, hY, Lib.hid ?_⟩, by simp only [intOf]; omega⟩
          rw [HTS.out, crc_snoc, ← HE.out, HF.out, HDB.out]
    · obtain rfl : k = l.length := by omega
      have hfin : X ^^^ 4294967295 = sumOf l := by rw [HE.out, List.take_length]; rfl
      have HFN := Lib.hid hfin
      clear hfin
      go_wp2_with fail
      go_ret
      refine ⟨?_, rfl⟩
      have h1 := bits_xor32 X 4294967295 hX (by decide)
      have h2 : bits .xor .u32 (X : Int) 4294967295 = ((sumOf l : Nat) : Int) := by
        rw [← HFN.out]; exact h1
      exact congrArg (fun z => Ending.returned (.int .u32 z)) h2

set_option maxRecDepth 100000 in
set_option maxHeartbeats 1000000 in
theorem refFour_any (x : Nat) (w : World) (hx : x < 4294967296) :
    Calls Try.prog 30 #[.int .u32 x] w (NewRow w (four x)) := by
  obtain ⟨i0, hi, hz0, hz1, hz2⟩ := info_parts Try.info8
  go_enter Try.func30, Try.ntmps30
  go_wp2_with fail
  go_loopw [0, 3, 4] (fun y v i wr => ∃ k X : Nat, k ≤ 4 ∧ i = .int .i64 k ∧ y = .int .u32 X ∧ X < 4294967296 ∧ Hid (X = x / 256 ^ k) ∧ wr.ownsRow w.heap.size 5 1 v k (((four x).take k).map B8) ∧ Below w.heap.size w wr) (fun _ _ i _ => 4 - (intOf i).toNat)
  case atStart => exact ⟨0, x, by omega, rfl, rfl, hx, Lib.hid (by simp), World.ownsRow_nil _ _ _ _, Below.refl _ _⟩
  case round =>
    obtain ⟨k, X, hk, rfl, rfl, hX, HE, hown, hB⟩ := hrel
    have HO := Lib.hid hown
    have hs := hB.size
    clear hown
    by_cases hk4 : k < 4
    · have hn : ((four x).take k).map B8 ++ [.int .u8 ((X : Int) % 256)] = ((four x).take (k + 1)).map B8 := by
        have hX2 := HE.out
        rcases (show k = 0 ∨ k = 1 ∨ k = 2 ∨ k = 3 from by omega) with rfl | rfl | rfl | rfl <;> simp [four, B8] <;> omega
      have hX2 : X / 256 = x / 256 ^ (k + 1) := by rw [HE.out, Nat.pow_succ, Nat.div_div_eq_div_mul]
      have HN := Lib.hid hn
      have HX2 := Lib.hid hX2
      have hxm : (0 : Int) ≤ (X : Int) % 256 := by omega
      clear hn hX2
      go_wp2_with (at_builtin; refine wpList_append_lies _ rfl (.tmp 9) (.tmp 13) _ rfl w.heap.size 5 i0 _ 1 1 Try.underlying22 hi hz0 hz1 hz2 rfl (by omega) _ k _ rfl (HO.out.alloc _) ⟨wr.heap.size, 0, none⟩ 1 1 [.int .u8 ((X : Int) % 256)] rfl rfl (World.news_of_block (cs := #[.int .u8 ((X : Int) % 256)]) (t := 5) (fr := (0, 0)) (heap_at _ _ _ rfl)) (by simp [Value.oneCell']) (by omega) (by unfold maxLen; omega) (by omega) (by simp; omega) (wr.heap.size + 1) (by simp) ?_; intro g cap w3 hown3 hgrow hat hlt)
      have hB3 : Below w.heap.size w w3 := (hB.alloc hs _).grown hgrow (by simp; omega) (fun q hq => (HO.out.lt q hq).1)
      refine ⟨⟨k + 1, X / 256, by omega, by push_cast; rfl, by push_cast; rfl, by omega, HX2, ?_, hB3⟩, by simp only [intOf]; omega⟩
      rw [← HN.out]
      exact hown3
    · obtain rfl : k = 4 := by omega
      go_wp2_with fail
      go_ret
      exact ⟨_, rfl, by simpa [four] using HO.out, hB⟩

theorem ofFour_step (x0 x1 x2 x3 : UInt8) (r : List UInt8) : ofFour (x0 :: x1 :: x2 :: x3 :: r) = ((x3.toNat * 256 + x2.toNat) * 256 + x1.toNat) * 256 + x0.toNat := by
  have h : ofFour (x0 :: x1 :: x2 :: x3 :: r) = x0.toNat + 256 * x1.toNat + 65536 * x2.toNat + 16777216 * x3.toNat := rfl
  omega

set_option maxRecDepth 100000 in
set_option maxHeartbeats 1000000 in
theorem refOfFour_any (D : Nat → Prop) (l : List UInt8) (dv : Value) (w : World) (hd : BytesV D w dv l) :
    Calls Try.prog 26 #[dv] w fun e w' => e = .returned (.tuple #[.int .u32 (ofFour l), .bool (decide (4 ≤ l.length))]) ∧ w = w' := by
  obtain ⟨a, c, rfl, hc, hcm, _, hcell⟩ := hd
  unfold maxLen at hcm
  by_cases h4 : 4 ≤ l.length
  · obtain ⟨b, o, rfl, hb, _, hcell⟩ := hcell (by omega)
    obtain ⟨x0, x1, x2, x3, r, rfl⟩ : ∃ x0 x1 x2 x3 r, l = x0 :: x1 :: x2 :: x3 :: r := by
      match l, h4 with
      | x0 :: x1 :: x2 :: x3 :: r, _ => exact ⟨x0, x1, x2, x3, r, rfl⟩
    have hr := ofFour_step x0 x1 x2 x3 r
    rw [hr, decide_eq_true h4]
    have h0 := x0.toNat_lt
    have h1 := x1.toNat_lt
    have h2 := x2.toNat_lt
    have h3 := x3.toNat_lt
    have HC : Hid (∀ (k : Nat), k < 4 → ∃ y : Nat, y < 256 ∧ w.cell? ⟨b, o + k, none⟩ = some (.int .u8 (y : Int)) ∧ ((k = 0 ∧ y = x0.toNat) ∨ (k = 1 ∧ y = x1.toNat) ∨ (k = 2 ∧ y = x2.toNat) ∨ (k = 3 ∧ y = x3.toNat))) := Lib.hid (by
      intro k hk
      rcases (show k = 0 ∨ k = 1 ∨ k = 2 ∨ k = 3 from by omega) with rfl | rfl | rfl | rfl
      · exact ⟨_, h0, hcell 0 x0 rfl, by simp⟩
      · exact ⟨_, h1, hcell 1 x1 rfl, by simp⟩
      · exact ⟨_, h2, hcell 2 x2 rfl, by simp⟩
      · exact ⟨_, h3, hcell 3 x3 rfl, by simp⟩)
    obtain ⟨m, hm⟩ : ∃ m, m = (x0 :: x1 :: x2 :: x3 :: r).length := ⟨_, rfl⟩
    rw [← hm] at h4 hc ⊢
    generalize x0.toNat = y0 at *
    generalize x1.toNat = y1 at *
    generalize x2.toNat = y2 at *
    generalize x3.toNat = y3 at *
    clear hm hr hcell
    have i4 : ¬ (m : Int) < 4 := by omega
    go_enter Try.func26, Try.ntmps26
    go_wp2_with fail
    go_loop [4, 5] (fun x i => ∃ (n : Int) (X : Nat), -1 ≤ n ∧ n ≤ 3 ∧ i = .int .i64 n ∧ x = .int .u32 X ∧ Hid ((n = 3 ∧ X = 0) ∨ (n = 2 ∧ X = y3) ∨ (n = 1 ∧ X = y3 * 256 + y2) ∨ (n = 0 ∧ X = (y3 * 256 + y2) * 256 + y1) ∨ (n = -1 ∧ X = ((y3 * 256 + y2) * 256 + y1) * 256 + y0))) (fun _ i => (intOf i + 1).toNat)
    case atStart => exact ⟨3, 0, by omega, by omega, rfl, rfl, Lib.hid (by simp)⟩
    case round =>
      obtain ⟨n, X, hn0, hn1, rfl, rfl, HE⟩ := hrel
      by_cases hn : 0 ≤ n
      · obtain ⟨k, rfl⟩ : ∃ k : Nat, n = k := ⟨n.toNat, by omega⟩
        obtain ⟨y, hy, hcy, hyy⟩ := HC.out k (by omega)
        have hXb : X < 16777216 := by have := HE.out; omega
        have hnext : ((k : Int) - 1 = 3 ∧ X * 256 + y = 0) ∨ ((k : Int) - 1 = 2 ∧ X * 256 + y = y3) ∨ ((k : Int) - 1 = 1 ∧ X * 256 + y = y3 * 256 + y2) ∨ ((k : Int) - 1 = 0 ∧ X * 256 + y = (y3 * 256 + y2) * 256 + y1) ∨ ((k : Int) - 1 = -1 ∧ X * 256 + y = ((y3 * 256 + y2) * 256 + y1) * 256 + y0) := by have := HE.out; omega
        have HNX := Lib.hid hnext
        have k1 : (k : Int) < (m : Int) := by omega
        clear hnext hyy
        go_wp2_with fail
        exact ⟨⟨(k : Int) - 1, X * 256 + y, by omega, by omega, rfl, by push_cast; rfl, HNX⟩, by simp only [intOf]; omega⟩
      · have hX : X = ((y3 * 256 + y2) * 256 + y1) * 256 + y0 := by have := HE.out; omega
        have HX := Lib.hid hX
        have hn' : n < 0 := by omega
        clear hX hn
        go_wp2_with fail
        go_ret2
        exact ⟨by rw [HX.out]; rfl, rfl⟩
  · rw [decide_eq_false h4]
    have hr : ofFour l = 0 := by
      unfold ofFour
      split
      · exact absurd (by simp) h4
      · rfl
    rw [hr]
    have i4 : (l.length : Int) < 4 := by omega
    clear hr h4 hcell
    go_enter Try.func26, Try.ntmps26
    go_wp2_with fail
    go_ret2
    exact ⟨rfl, rfl⟩

set_option maxRecDepth 100000 in
set_option maxHeartbeats 1000000 in
theorem refNum_any (n : Int) (w : World) (hn : n ≤ 9223372036854775807) :
    Calls Try.prog 19 #[.int .i64 n] w (NewRow w (enc n.toNat)) := by
  obtain ⟨i0, hi, hz0, hz1, hz2⟩ := info_parts Try.info8
  obtain ⟨N, hN⟩ : ∃ N, N = n.toNat := ⟨_, rfl⟩
  have hNb : N < 9223372036854775808 := by omega
  rw [← hN]
  have HN := Lib.hid hN
  clear hN
  rcases (show (∃ m : Nat, n = m) ∨ n < 0 from by by_cases h : n < 0; exact Or.inr h; exact Or.inl ⟨n.toNat, by omega⟩) with ⟨m, rfl⟩ | hlt
  all_goals
    go_enter Try.func19, Try.ntmps19
    go_wp2_with fail
    go_loopw [0, 3] (fun x v wr => ∃ (k : Nat) (d : List UInt8), x = .int .i64 k ∧ k < 9223372036854775808 ∧ Hid (d ++ enc k = enc N) ∧ d.length + 1 ≤ 9 ∧ wr.ownsRow w.heap.size 5 1 v d.length (d.map B8) ∧ Below w.heap.size w wr) (fun x _ _ => (intOf x).toNat)
    case atStart => exact ⟨N, [], congrArg (Value.int .i64) (by have := HN.out; omega), hNb, Lib.hid rfl, by simp, World.ownsRow_nil _ _ _ _, Below.refl _ _⟩
    case round =>
      obtain ⟨k, d, rfl, hk, HE, hd, hown, hB⟩ := hrel
      have HO := Lib.hid hown
      have hs := hB.size
      clear hown
      by_cases hk7 : 127 < k
      · have hk7' : (128 : Int) ≤ (k : Int) := by omega
        have hE2 : (d ++ [UInt8.ofNat (k % 128 + 128)]) ++ enc (k / 128) = enc N := by rw [← HE.out, enc_big (n := k) (by omega)]; simp
        have hlen : d.length + 1 + (enc (k / 128)).length = (enc N).length := by have := congrArg List.length hE2; simp at this; omega
        have hp9 := enc_int N hNb
        have hp1 := enc_pos (k / 128)
        have HE2 := Lib.hid hE2
        have hd2 : d.length + 1 + 1 ≤ 9 := by omega
        clear hE2 hlen
        go_wp2_with (at_builtin; refine wpList_append_lies _ rfl (.tmp 8) (.tmp 13) _ rfl w.heap.size 5 i0 _ 1 1 Try.underlying22 hi hz0 hz1 hz2 rfl (by omega) _ d.length _ rfl (HO.out.alloc _) ⟨wr.heap.size, 0, none⟩ 1 1 [.int .u8 ((k : Int) % 128 + 128)] rfl rfl (World.news_of_block (cs := #[.int .u8 ((k : Int) % 128 + 128)]) (t := 5) (fr := (0, 0)) (heap_at _ _ _ rfl)) (by simp [Value.oneCell']) (by omega) (by unfold maxLen; omega) (by omega) (by simp; omega) (wr.heap.size + 1) (by simp) ?_; intro g cap w3 hown3 hgrow hat hlt3)
        have hB3 : Below w.heap.size w w3 := (hB.alloc hs _).grown hgrow (by simp; omega) (fun q hq => (HO.out.lt q hq).1)
        refine ⟨⟨k / 128, d ++ [UInt8.ofNat (k % 128 + 128)], by push_cast; rfl, by omega, HE2, by simp; omega, ?_, hB3⟩, ?_⟩
        · rw [List.map_append, List.map_cons, List.map_nil, B8_high]; simpa using hown3
        · simp only [intOf]
          omega
      · have hk7' : (k : Int) < 128 := by omega
        go_wp2_with (at_builtin; refine wpList_append_lies _ rfl (.tmp 17) (.tmp 20) _ rfl w.heap.size 5 i0 _ 1 1 Try.underlying22 hi hz0 hz1 hz2 rfl (by omega) _ d.length _ rfl (HO.out.alloc _) ⟨wr.heap.size, 0, none⟩ 1 1 [.int .u8 (k : Int)] rfl rfl (World.news_of_block (cs := #[.int .u8 (k : Int)]) (t := 5) (fr := (0, 0)) (heap_at _ _ _ rfl)) (by simp [Value.oneCell']) (by omega) (by unfold maxLen; omega) (by omega) (by simp; omega) (wr.heap.size + 1) (by simp) ?_; intro g cap w3 hown3 hgrow hat hlt3)
        have hB3 : Below w.heap.size w w3 := (hB.alloc hs _).grown hgrow (by simp; omega) (fun q hq => (HO.out.lt q hq).1)
        go_ret
        refine ⟨_, rfl, ?_, hB3⟩
        rw [← HE.out, enc_small (by omega), List.map_append, List.map_cons, List.map_nil, B8_low _ (by omega)]
        simpa using hown3

set_option maxRecDepth 100000 in
set_option maxHeartbeats 1000000 in
theorem refText_any (s : ByteArray) (w : World) (hs : s.size + 9 ≤ 140737488355328) :
    Calls Try.prog 18 #[.string s] w (NewRow w (encText s.data.toList)) := by
  obtain ⟨i0, hi, hz0, hz1, hz2⟩ := info_parts Try.info8
  have hsl : s.data.toList.length = s.size := by simp
  have h9 := enc_int s.size (by omega)
  have HSL := Lib.hid hsl
  clear hsl
  go_enter Try.func18, Try.ntmps18
  go_wp2_with fail
  refine (refNum_any s.size _ (by omega)).mono ?_
  rintro e w1 ⟨v1, rfl, hown1, hB1⟩
  rw [Int.toNat_natCast] at hown1
  have HO1 := Lib.hid hown1
  clear hown1
  obtain ⟨E, hE⟩ : ∃ E, E = enc s.size := ⟨_, rfl⟩
  rw [← hE] at HO1 h9
  have HE := Lib.hid hE
  clear hE
  go_wp2_with fail
  go_loopw [3, 4] (fun v i wr => ∃ k : Nat, k ≤ s.size ∧ i = .int .i64 k ∧ wr.ownsRow w.heap.size 5 1 v (E.length + k) ((E ++ s.data.toList.take k).map B8) ∧ Below w.heap.size w wr) (fun _ i _ => s.size - (intOf i).toNat)
  case atStart => exact ⟨0, by omega, rfl, by simpa using HO1.out, hB1⟩
  case round =>
    obtain ⟨k, hk, rfl, hown, hB⟩ := hrel
    have HO := Lib.hid hown
    have hs := hB.size
    clear hown
    by_cases hlt : k < s.size
    · have hts : s.data.toList.take (k + 1) = s.data.toList.take k ++ [s[k]] := by
        rw [List.take_succ_eq_append_getElem (by simpa using hlt)]; rfl
      have HTS := Lib.hid hts
      have k0 : (0 : Int) ≤ (k : Int) := by omega
      have k1 : (k : Int) < (s.size : Int) := by omega
      clear hts
      go_wp2_with (at_builtin; refine wpList_append_lies _ rfl (.tmp 14) (.tmp 18) _ rfl w.heap.size 5 i0 _ 1 1 Try.underlying22 hi hz0 hz1 hz2 rfl (by omega) _ (E.length + k) _ rfl (HO.out.alloc _) ⟨wr.heap.size, 0, none⟩ 1 1 [.int .u8 (s[k].toNat : Int)] rfl rfl (World.news_of_block (cs := #[.int .u8 (s[k].toNat : Int)]) (t := 5) (fr := (0, 0)) (heap_at _ _ _ rfl)) (by simp [Value.oneCell']) (by omega) (by unfold maxLen; omega) (by omega) (by simp; omega) (wr.heap.size + 1) (by simp) ?_; intro g cap w3 hown3 hgrow hat hlt3)
      have hB3 : Below w.heap.size w w3 := (hB.alloc hs _).grown hgrow (by simp; omega) (fun q hq => (HO.out.lt q hq).1)
      refine ⟨⟨k + 1, by omega, by push_cast; rfl, ?_, hB3⟩, by simp only [intOf]; omega⟩
      rw [HTS.out, ← List.append_assoc, List.map_append, List.map_cons, List.map_nil]
      exact hown3
    · obtain rfl : k = s.size := by omega
      go_wp2_with fail
      go_ret
      refine ⟨_, rfl, ?_, hB⟩
      have := HO.out
      rw [List.take_of_length_le (by have := HSL.out; omega)] at this
      unfold encText
      rw [HSL.out, ← HE.out]
      simpa using this
end Go.Proofs.Ytflacchpgcggnaa
