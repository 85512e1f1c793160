/- The checksum, plainly. -/
import Derived.Test.YtphfekkllibphaaGreatDoorPlain
import Derived.Lib.EndianBits
namespace Go.Proofs.YtphfekkllibphaaGreatDoor
open Go.RowKit

def poly : Nat := 3988292384
def cstep (x : Nat) : Nat := (x / 2) ^^^ (if x % 2 = 1 then poly else 0)
def citer : Nat → Nat → Nat
  | 0, x => x
  | k + 1, x => citer k (cstep x)
def cbyte (x : Nat) (c : UInt8) : Nat := citer 8 (x ^^^ c.toNat)
def crc (x : Nat) (l : List UInt8) : Nat := l.foldl cbyte x
def sumOf (l : List UInt8) : Nat := crc 4294967295 l ^^^ 4294967295

theorem cstep_lt {x : Nat} (h : x < 2 ^ 32) : cstep x < 2 ^ 32 := by
  unfold cstep
  refine Nat.xor_lt_two_pow (by omega) ?_
  split
  · decide
  · decide
theorem citer_lt : ∀ (k : Nat) {x : Nat}, x < 2 ^ 32 → citer k x < 2 ^ 32
  | 0, _, h => h
  | k + 1, _, h => citer_lt k (cstep_lt h)
theorem cbyte_lt {x : Nat} (c : UInt8) (h : x < 2 ^ 32) : cbyte x c < 2 ^ 32 := citer_lt 8 (Nat.xor_lt_two_pow h (by have := c.toNat_lt; omega))
theorem crc_lt : ∀ (l : List UInt8) {x : Nat}, x < 2 ^ 32 → crc x l < 2 ^ 32
  | [], _, h => h
  | c :: l, _, h => crc_lt l (cbyte_lt c h)
theorem sumOf_lt (l : List UInt8) : sumOf l < 2 ^ 32 := Nat.xor_lt_two_pow (crc_lt l (by decide)) (by decide)
theorem crc_snoc (x : Nat) (l : List UInt8) (c : UInt8) : crc x (l ++ [c]) = cbyte (crc x l) c := by simp [crc]
theorem crc_append (x : Nat) (l m : List UInt8) : crc x (l ++ m) = crc (crc x l) m := by simp [crc]

theorem xor_cancel_right {a b c : Nat} (h : a ^^^ c = b ^^^ c) : a = b := by
  have := congrArg (· ^^^ c) h
  simpa [Nat.xor_assoc, Nat.xor_self, Nat.xor_zero] using this
theorem xor_cancel_left {a b c : Nat} (h : c ^^^ a = c ^^^ b) : a = b := by
  rw [Nat.xor_comm c a, Nat.xor_comm c b] at h
  exact xor_cancel_right h
theorem cstep_top {x : Nat} (h : x < 2 ^ 32) : (cstep x).testBit 31 = decide (x % 2 = 1) := by
  unfold cstep
  rw [Nat.testBit_xor, Nat.testBit_lt_two_pow (show x / 2 < 2 ^ 31 by omega)]
  by_cases hp : x % 2 = 1
  · simp only [hp, if_true]; decide
  · simp only [hp, if_false]; decide
theorem cstep_inj {x y : Nat} (hx : x < 2 ^ 32) (hy : y < 2 ^ 32) (h : cstep x = cstep y) : x = y := by
  have ht := congrArg (·.testBit 31) h
  simp only [cstep_top hx, cstep_top hy] at ht
  have hm : x % 2 = y % 2 := by
    have h1 : (x % 2 = 1) ↔ (y % 2 = 1) := by simpa using ht
    omega
  unfold cstep at h
  rw [hm] at h
  have hd := xor_cancel_right h
  omega
theorem citer_inj : ∀ (k : Nat) {x y : Nat}, x < 2 ^ 32 → y < 2 ^ 32 → citer k x = citer k y → x = y
  | 0, _, _, _, _, h => h
  | k + 1, _, _, hx, hy, h => cstep_inj hx hy (citer_inj k (cstep_lt hx) (cstep_lt hy) h)
theorem cbyte_inj {x y : Nat} (c : UInt8) (hx : x < 2 ^ 32) (hy : y < 2 ^ 32) (h : cbyte x c = cbyte y c) : x = y := by
  have hc := c.toNat_lt
  exact xor_cancel_right (citer_inj 8 (Nat.xor_lt_two_pow hx (by omega)) (Nat.xor_lt_two_pow hy (by omega)) h)
theorem cbyte_inj2 {x : Nat} {c d : UInt8} (hx : x < 2 ^ 32) (h : cbyte x c = cbyte x d) : c = d := by
  have hc := c.toNat_lt
  have hd := d.toNat_lt
  exact UInt8.toNat_inj.1 (xor_cancel_left (citer_inj 8 (Nat.xor_lt_two_pow hx (by omega)) (Nat.xor_lt_two_pow hx (by omega)) h))
theorem crc_inj : ∀ (l : List UInt8) {x y : Nat}, x < 2 ^ 32 → y < 2 ^ 32 → crc x l = crc y l → x = y
  | [], _, _, _, _, h => h
  | c :: l, _, _, hx, hy, h => cbyte_inj c hx hy (crc_inj l (cbyte_lt c hx) (cbyte_lt c hy) h)
/-- Another byte, another checksum. -/
theorem sumOf_turned (l r : List UInt8) (c d : UInt8) (h : c ≠ d) : sumOf (l ++ c :: r) ≠ sumOf (l ++ d :: r) := by
  intro e
  have e1 := xor_cancel_right e
  rw [crc_append, crc_append] at e1
  have hx := crc_lt l (x := 4294967295) (by decide)
  exact h (cbyte_inj2 hx (crc_inj r (cbyte_lt c hx) (cbyte_lt d hx) e1))

/-- The document's step: bit by bit. -/
def dstep (x bit : Nat) : Nat := if bit = x % 2 then x / 2 else (x / 2) ^^^ poly
def diter (c : Nat) : Nat → Nat → Nat
  | 0, x => x
  | k + 1, x => dstep (diter c k x) (c / 2 ^ k % 2)
theorem xor_half (x y : Nat) : (x ^^^ y) / 2 = x / 2 ^^^ y / 2 := by
  have := Nat.shiftRight_xor_distrib (a := x) (b := y) (i := 1)
  simpa [Nat.shiftRight_succ] using this
theorem xor_low (x y : Nat) : (x ^^^ y) % 2 = if x % 2 = y % 2 then 0 else 1 := by
  have h := Nat.testBit_xor x y 0
  simp only [Nat.testBit_zero] at h
  have hz := Nat.mod_two_eq_zero_or_one (x ^^^ y)
  have hx0 := Nat.mod_two_eq_zero_or_one x
  have hy0 := Nat.mod_two_eq_zero_or_one y
  generalize (x ^^^ y) % 2 = a at *
  generalize x % 2 = b at *
  generalize y % 2 = c at *
  rcases hz with rfl | rfl <;> rcases hx0 with rfl | rfl <;> rcases hy0 with rfl | rfl <;> first | rfl | (exact absurd h (by decide))
theorem dstep_eq (x c : Nat) : dstep x (c % 2) ^^^ c / 2 = cstep (x ^^^ c) := by
  unfold dstep cstep
  rw [xor_half, xor_low]
  by_cases h : x % 2 = c % 2
  · rw [if_pos h.symm, if_pos h]; simp
  · rw [if_neg (fun e => h e.symm), if_neg h]
    simp only [if_true]
    rw [Nat.xor_assoc, Nat.xor_comm poly, ← Nat.xor_assoc]
theorem citer_snoc : ∀ (k x : Nat), citer (k + 1) x = cstep (citer k x)
  | 0, _ => rfl
  | k + 1, x => citer_snoc k (cstep x)
theorem diter_eq (c x : Nat) : ∀ k, diter c k x ^^^ c / 2 ^ k = citer k (x ^^^ c)
  | 0 => by simp [diter, citer]
  | k + 1 => by
    rw [citer_snoc, ← diter_eq c x k, ← dstep_eq]
    show dstep (diter c k x) (c / 2 ^ k % 2) ^^^ _ = _
    rw [Nat.pow_succ, ← Nat.div_div_eq_div_mul]
theorem diter_byte (c : UInt8) (x : Nat) : diter c.toNat 8 x = cbyte x c := by
  have h := diter_eq c.toNat x 8
  have hc := c.toNat_lt
  have h0 : c.toNat / 2 ^ 8 = 0 := Nat.div_eq_of_lt (by omega)
  rw [h0, Nat.xor_zero] at h
  exact h
theorem diter_lt (c : Nat) {x : Nat} (h : x < 2 ^ 32) : ∀ k, diter c k x < 2 ^ 32
  | 0 => h
  | k + 1 => by
    have := diter_lt c h k
    unfold diter dstep
    split
    · omega
    · exact Nat.xor_lt_two_pow (by omega) (by decide)

/-- Four bytes. -/
def four (x : Nat) : List UInt8 := [UInt8.ofNat x, UInt8.ofNat (x / 256), UInt8.ofNat (x / 65536), UInt8.ofNat (x / 16777216)]
def ofFour (l : List UInt8) : Nat := match l with | a :: b :: c :: d :: _ => a.toNat + 256 * b.toNat + 65536 * c.toNat + 16777216 * d.toNat | _ => 0
theorem ofFour_four {x : Nat} (h : x < 4294967296) : ofFour (four x) = x := by
  simp [ofFour, four]; omega
theorem ofFour_lt (l : List UInt8) : ofFour l < 4294967296 := by
  unfold ofFour
  split
  · rename_i a b c d _
    have := a.toNat_lt; have := b.toNat_lt; have := c.toNat_lt; have := d.toNat_lt
    omega
  · omega
theorem bits_xor32 (a b : Nat) (ha : a < 2 ^ 32) (hb : b < 2 ^ 32) : bits .xor .u32 (a : Int) (b : Int) = ((a ^^^ b : Nat) : Int) := by
  have ha' : a % 2 ^ IntKind.u32.bits = a := Nat.mod_eq_of_lt ha
  have hb' : b % 2 ^ IntKind.u32.bits = b := Nat.mod_eq_of_lt hb
  simp only [bits, BitVec.ofInt_natCast, BitVec.toNat_xor, BitVec.toNat_ofNat, ha', hb']
  have := Nat.xor_lt_two_pow ha hb
  exact wraps_u32 _ (by omega) (by omega)
theorem bits_and1 (a : Nat) (ha : a < 2 ^ 32) : bits .and .u32 (a : Int) 1 = ((a % 2 : Nat) : Int) := by
  have h := (bits_nat .u32 32 (by decide) wraps_u32 a 1 ha (by decide)).1
  rw [Nat.and_one_is_mod] at h
  exact h
theorem sum_nine : sumOf [49, 50, 51, 52, 53, 54, 55, 56, 57] = 3421780262 := by decide +kernel
end Go.Proofs.YtphfekkllibphaaGreatDoor

