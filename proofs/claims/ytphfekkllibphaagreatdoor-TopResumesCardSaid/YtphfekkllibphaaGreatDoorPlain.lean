/- Octets' plain law: numbers as bytes. -/
import Derived.Test.YtphfekkllibphaaGreatDoorMem
namespace Go.Proofs.YtphfekkllibphaaGreatDoor
open Go.RowKit

/-- A number as bytes: seven bits a byte, the lowest first. -/
def enc (n : Nat) : List UInt8 := if h : n < 128 then [UInt8.ofNat n] else UInt8.ofNat (n % 128 + 128) :: enc (n / 128)
termination_by n
decreasing_by omega
theorem enc_small {n : Nat} (h : n < 128) : enc n = [UInt8.ofNat n] := by rw [enc]; simp [h]
theorem enc_big {n : Nat} (h : 128 ≤ n) : enc n = UInt8.ofNat (n % 128 + 128) :: enc (n / 128) := by rw [enc, dif_neg (by omega)]
theorem enc_length : ∀ (k n : Nat), n < 128 ^ k → 0 < k → (enc n).length ≤ k := by
  intro k
  induction k with
  | zero => intro n _ h; omega
  | succ k ih =>
    intro n hn _
    by_cases h : n < 128
    · rw [enc_small h]; simp
    · rw [enc_big (by omega)]
      have h1 : n / 128 < 128 ^ k := Nat.div_lt_of_lt_mul (by rw [Nat.mul_comm, ← Nat.pow_succ]; exact hn)
      have hk : 0 < k := by
        rcases Nat.eq_zero_or_pos k with rfl | h'
        · simp at h1; omega
        · exact h'
      have := ih _ h1 hk
      simp; omega
theorem enc_pos (n : Nat) : 0 < (enc n).length := by
  by_cases h : n < 128
  · rw [enc_small h]; simp
  · rw [enc_big (by omega)]; simp
theorem enc_int (n : Nat) (h : n < 9223372036854775808) : (enc n).length ≤ 9 := enc_length 9 n (by omega) (by omega)
/-- A text as bytes. -/
def encText (l : List UInt8) : List UInt8 := enc l.length ++ l

/-- What is read off the bytes: the number, its width, the error. -/
structure Tk where
  n : Nat
  k : Nat
  e : Nat
def tk : List UInt8 → Nat → Nat → Tk
  | [], _, _ => ⟨0, 0, 20⟩
  | c :: r, i, x => if (c.toNat < 128 ∧ c.toNat = 0 ∧ 0 < i) ∨ (128 ≤ c.toNat ∧ i = 8) then ⟨0, 0, 21⟩ else if c.toNat < 128 then ⟨x + c.toNat * 128 ^ i, i + 1, 0⟩ else tk r (i + 1) (x + (c.toNat - 128) * 128 ^ i)

theorem tk_err (l : List UInt8) : ∀ i x, (tk l i x).e = 0 ∨ ((tk l i x).e = 20 ∨ (tk l i x).e = 21) ∧ (tk l i x).n = 0 ∧ (tk l i x).k = 0 := by
  induction l with
  | nil => intro i x; exact Or.inr ⟨Or.inl rfl, rfl, rfl⟩
  | cons c r ih =>
    intro i x
    unfold tk
    split
    · exact Or.inr ⟨Or.inr rfl, rfl, rfl⟩
    · split
      · exact Or.inl rfl
      · exact ih _ _
theorem tk_width (l : List UInt8) : ∀ i x, (tk l i x).e = 0 → i < (tk l i x).k ∧ (tk l i x).k ≤ i + l.length ∧ (i ≤ 8 → (tk l i x).k ≤ 9) := by
  induction l with
  | nil => intro i x h; simp [tk] at h
  | cons c r ih =>
    intro i x
    unfold tk
    split
    · intro h; simp at h
    · rename_i hn
      split
      · intro _; simp
      · intro h
        obtain ⟨h1, h2, h3⟩ := ih _ _ h
        refine ⟨by omega, by simp; omega, fun hi => h3 (by omega)⟩
/-- The number fits. -/
theorem tk_bound (l : List UInt8) : ∀ i x, i ≤ 8 → x < 128 ^ i → (tk l i x).n < 9223372036854775808 := by
  induction l with
  | nil => intro i x _ _; simp [tk]
  | cons c r ih =>
    intro i x hi hx
    have hc := c.toNat_lt
    have hp : (128 : Nat) ^ i * 128 ≤ 128 ^ 9 := by rw [← Nat.pow_succ]; exact Nat.pow_le_pow_right (by omega) (by omega)
    have h9 : (128 : Nat) ^ 9 = 9223372036854775808 := by decide
    unfold tk
    split
    · simp
    · rename_i hn
      split
      · show x + c.toNat * 128 ^ i < _
        have : c.toNat * 128 ^ i ≤ 127 * 128 ^ i := Nat.mul_le_mul_right _ (by omega)
        omega
      · refine ih _ _ (by omega) ?_
        rw [Nat.pow_succ]
        have : (c.toNat - 128) * 128 ^ i ≤ 127 * 128 ^ i := Nat.mul_le_mul_right _ (by omega)
        omega
/-- What was written is read back. -/
theorem tk_enc : ∀ (n : Nat) (r : List UInt8) (i x : Nat), n * 128 ^ i < 9223372036854775808 → (i = 0 ∨ 0 < n) → tk (enc n ++ r) i x = ⟨x + n * 128 ^ i, i + (enc n).length, 0⟩ := by
  intro n
  induction n using Nat.strongRecOn with
  | _ n ih =>
    intro r i x hb hz
    have h9 : (128 : Nat) ^ 9 = 9223372036854775808 := by decide
    by_cases h : n < 128
    · rw [enc_small h]
      have hc : (UInt8.ofNat n).toNat = n := by simp; omega
      simp only [List.cons_append, List.nil_append, tk, hc, List.length_singleton]
      rw [if_neg (by omega), if_pos h]
    · rw [enc_big (by omega)]
      have hc : (UInt8.ofNat (n % 128 + 128)).toNat = n % 128 + 128 := by simp; omega
      have hi : i ≤ 7 := by
        rcases Nat.lt_or_ge 7 i with h' | h'
        · exfalso
          have h1 : (128 : Nat) ^ 8 ≤ 128 ^ i := Nat.pow_le_pow_right (by omega) h'
          have h2 : 128 * 128 ^ 8 ≤ n * 128 ^ i := Nat.mul_le_mul (by omega) h1
          have h3 : (128 : Nat) * 128 ^ 8 = 128 ^ 9 := by decide
          omega
        · exact h'
      have hd : n / 128 * 128 ^ (i + 1) ≤ n * 128 ^ i := by
        rw [Nat.pow_succ, ← Nat.mul_assoc, Nat.mul_right_comm]
        exact Nat.mul_le_mul_right _ (Nat.div_mul_le_self n 128)
      simp only [List.cons_append, tk, hc]
      rw [if_neg (by omega), if_neg (by omega), ih (n / 128) (by omega) r (i + 1) _ (by omega) (by omega)]
      congr 1
      · rw [Nat.add_sub_cancel, Nat.pow_succ, Nat.add_assoc, ← Nat.mul_assoc, Nat.mul_right_comm, ← Nat.add_mul]
        congr 2
        rw [Nat.mul_comm]
        exact Nat.mod_add_div n 128
      · simp; omega
/-- What was read is written so. -/
theorem enc_tk : ∀ (l : List UInt8) (i x : Nat), x < 128 ^ i → (tk l i x).e = 0 → ∃ m, (tk l i x).n = x + m * 128 ^ i ∧ (0 < i → 0 < m) ∧ l.take ((tk l i x).k - i) = enc m := by
  intro l
  induction l with
  | nil => intro i x _ h; simp [tk] at h
  | cons c r ih =>
    intro i x hx h
    have hc := c.toNat_lt
    unfold tk at h ⊢
    split at h
    · simp at h
    · rename_i hn
      rw [if_neg hn]
      split at h
      · rename_i hlt
        rw [if_pos hlt]
        refine ⟨c.toNat, rfl, fun hi => by omega, ?_⟩
        show (c :: r).take (i + 1 - i) = _
        rw [Nat.add_sub_cancel_left, enc_small hlt]
        simp
      · rename_i hge
        rw [if_neg hge]
        obtain ⟨m, h1, h2, h3⟩ := ih (i + 1) _ (by
          rw [Nat.pow_succ]
          have : (c.toNat - 128) * 128 ^ i ≤ 127 * 128 ^ i := Nat.mul_le_mul_right _ (by omega)
          omega) h
        have hm := h2 (by omega)
        have hw := (tk_width r _ _ h).1
        refine ⟨(c.toNat - 128) + 128 * m, ?_, fun _ => by omega, ?_⟩
        · rw [h1, Nat.pow_succ, Nat.add_mul, Nat.add_assoc]
          congr 2
          rw [Nat.mul_comm 128 m, Nat.mul_assoc, Nat.mul_comm 128]
        · rw [enc_big (by omega)]
          have e1 : ((c.toNat - 128) + 128 * m) % 128 = c.toNat - 128 := by omega
          have e2 : ((c.toNat - 128) + 128 * m) / 128 = m := by omega
          rw [e1, e2, ← h3]
          have hc8 : UInt8.ofNat (c.toNat - 128 + 128) = c := by
            rw [Nat.sub_add_cancel (by omega)]; simp
          have hk : (tk r (i + 1) (x + (c.toNat - 128) * 128 ^ i)).k - i = (tk r (i + 1) (x + (c.toNat - 128) * 128 ^ i)).k - (i + 1) + 1 := by omega
          rw [hk, List.take_succ_cons, hc8]
end Go.Proofs.YtphfekkllibphaaGreatDoor

