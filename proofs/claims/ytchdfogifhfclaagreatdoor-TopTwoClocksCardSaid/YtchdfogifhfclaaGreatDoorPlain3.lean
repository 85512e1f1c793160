/- PLAIN (no program in sight): times and terms as the program and the reference compute them, in whole numbers; what the laws of layer 3 ask of them. Conditions: none beyond those written. -/
namespace Go.Proofs.YtchdfogifhfclaaGreatDoor.T3

/-- Forever: 2^62. -/
def F : Int := 4611686018427387904
theorem F_eq : F = 4611686018427387904 := rfl

def clampT (t : Int) : Int := if t < 0 then 0 else if F < t then F else t
theorem clampT_bd (t : Int) : 0 ≤ clampT t ∧ clampT t ≤ F := by
  unfold clampT F; split
  · omega
  · split <;> omega
def addT (a b : Int) : Int := if F - clampT a < clampT b then F else clampT a + clampT b
def leftT (a b : Int) : Int := if clampT a < clampT b then 0 else clampT a - clampT b
def legalB (t : Int) : Bool := decide (4 ≤ t ∧ t ≤ 1048576)

theorem addT_bd (a b : Int) : 0 ≤ addT a b ∧ addT a b ≤ F := by
  have h := clampT_bd a; have h' := clampT_bd b; unfold addT; split <;> omega
theorem addT_comm (a b : Int) : addT a b = addT b a := by
  unfold addT; split <;> split <;> omega
theorem clampT_mono {a b : Int} (h : a ≤ b) : clampT a ≤ clampT b := by
  unfold clampT F; split
  · have := (clampT_bd b).1; unfold clampT F at this; exact this
  · split
    · rw [if_neg (by omega), if_pos (by omega)]; exact Int.le_refl _
    · rw [if_neg (by omega)]; split <;> omega
theorem addT_mono (a : Int) {b c : Int} (h : b ≤ c) : addT a b ≤ addT a c := by
  have h1 := clampT_mono h; have h2 := clampT_bd c; have h3 := clampT_bd a
  unfold addT; split <;> split <;> omega
theorem leftT_mono (a : Int) {b c : Int} (h : b ≤ c) : leftT b a ≤ leftT c a := by
  have h1 := clampT_mono h; have h2 := clampT_bd c; have h3 := clampT_bd a
  unfold leftT; split <;> split <;> omega
theorem clampT_id {a : Int} (h : 0 ≤ a) (h' : a ≤ F) : clampT a = a := by
  unfold clampT; rw [if_neg (by omega), if_neg (by omega)]
theorem addT_small {a b : Int} (ha : 0 ≤ a) (hb : 0 ≤ b) (ha' : a ≤ 1152921504606846976) (hb' : b ≤ 1152921504606846976) : addT a b = a + b := by
  unfold addT; rw [clampT_id ha (by rw [F_eq]; omega), clampT_id hb (by rw [F_eq]; omega), if_neg (by rw [F_eq]; omega)]
theorem left_add {a b : Int} (ha : 0 ≤ a) (hb : 0 ≤ b) (ha' : a ≤ 1152921504606846976) (hb' : b ≤ 1152921504606846976) : leftT (addT a b) a = b := by
  rw [addT_small ha hb ha' hb']; unfold leftT
  rw [clampT_id ha (by rw [F_eq]; omega), clampT_id (a := a + b) (by omega) (by rw [F_eq]; omega), if_neg (by omega)]; omega

/-! Shrink -/
/-- may it be shrunk? -/
def shrB (t rho : Int) : Bool := decide (0 ≤ t ∧ t ≤ 1048576 ∧ 0 ≤ rho ∧ rho ≤ 999)
def shrT (t rho : Int) : Int := t * (1000 - rho) / (1000 + rho)

theorem shr_spec {t rho : Int} (h : shrB t rho = true) :
    0 ≤ shrT t rho ∧ shrT t rho ≤ t ∧ shrT t rho * (1000 + rho) ≤ t * (1000 - rho) ∧ t * (1000 - rho) < (shrT t rho + 1) * (1000 + rho) ∧ 0 ≤ t * (1000 - rho) ∧ t * (1000 - rho) ≤ 1048576000 := by
  unfold shrB at h; have h := of_decide_eq_true h
  obtain ⟨h0, h1, h2, h3⟩ := h
  have hp : 0 ≤ t * (1000 - rho) := Int.mul_nonneg h0 (by omega)
  have hq : t * (1000 - rho) ≤ t * 1000 := Int.mul_le_mul_of_nonneg_left (by omega) h0
  have hc : (0 : Int) < 1000 + rho := by omega
  unfold shrT
  have e1 := Int.ediv_mul_le (t * (1000 - rho)) (b := 1000 + rho) (by omega)
  have e2 := Int.lt_ediv_add_one_mul_self (t * (1000 - rho)) hc
  have e0 : 0 ≤ t * (1000 - rho) / (1000 + rho) := Int.ediv_nonneg hp (by omega)
  refine ⟨e0, ?_, e1, e2, hp, by omega⟩
  -- the quotient is at most t
  have e3 : t * (1000 - rho) / (1000 + rho) * 1000 ≤ t * (1000 - rho) / (1000 + rho) * (1000 + rho) := Int.mul_le_mul_of_nonneg_left (by omega) e0
  omega

/-- n is the greatest number that Shrink asks for. -/
theorem shr_unique {t rho n : Int} (h : shrB t rho = true) (h1 : n * (1000 + rho) ≤ t * (1000 - rho)) (h2 : t * (1000 - rho) < (n + 1) * (1000 + rho)) : n = shrT t rho := by
  obtain ⟨_, _, a1, a2, _, _⟩ := shr_spec h
  have hr := of_decide_eq_true h
  have hc : (0 : Int) < 1000 + rho := by omega
  have b1 : n * (1000 + rho) < (shrT t rho + 1) * (1000 + rho) := by omega
  have b2 : shrT t rho * (1000 + rho) < (n + 1) * (1000 + rho) := by omega
  have c1 := Int.lt_of_mul_lt_mul_right b1 (by omega)
  have c2 := Int.lt_of_mul_lt_mul_right b2 (by omega)
  omega

/-- One step of the reference's search: n + step is tried. -/
theorem shr_le_iff {t rho m : Int} (h : shrB t rho = true) : (m * (1000 + rho) ≤ t * (1000 - rho)) ↔ m ≤ shrT t rho := by
  obtain ⟨_, _, a1, a2, _, _⟩ := shr_spec h
  have hr := of_decide_eq_true h
  constructor
  · intro hm
    have b1 : m * (1000 + rho) < (shrT t rho + 1) * (1000 + rho) := by omega
    have c1 := Int.lt_of_mul_lt_mul_right b1 (by omega)
    omega
  · intro hm
    have := Int.mul_le_mul_of_nonneg_right hm (show (0 : Int) ≤ 1000 + rho by omega)
    omega

theorem shr_mono_t {t u rho : Int} (h : shrB t rho = true) (h0 : 0 ≤ u) (hu : u ≤ t) : shrB u rho = true ∧ shrT u rho ≤ shrT t rho := by
  have hr := of_decide_eq_true h
  have hB : shrB u rho = true := by unfold shrB; exact decide_eq_true (by omega)
  refine ⟨hB, ?_⟩
  rw [← shr_le_iff h]
  have h1 := (shr_spec hB).2.2.1
  have := Int.mul_le_mul_of_nonneg_right hu (show (0 : Int) ≤ 1000 - rho by omega)
  omega
theorem shr_mono_rho {t rho sig : Int} (h : shrB t rho = true) (h0 : 0 ≤ sig) (hs : sig ≤ rho) : shrB t sig = true ∧ shrT t rho ≤ shrT t sig := by
  have hr := of_decide_eq_true h
  have hB : shrB t sig = true := by unfold shrB; exact decide_eq_true (by omega)
  refine ⟨hB, ?_⟩
  rw [← shr_le_iff hB]
  obtain ⟨a0, _, a1, _⟩ := shr_spec h
  have e1 := Int.mul_le_mul_of_nonneg_left (show 1000 + sig ≤ 1000 + rho by omega) a0
  have e2 := Int.mul_le_mul_of_nonneg_left (show 1000 - rho ≤ 1000 - sig by omega) hr.1
  omega

/-- the steps of the reference's search: 0, 1, 2, 4, .. -/
def stp : Nat → Int
  | 0 => 0
  | 1 => 1
  | k + 2 => 2 * stp (k + 1)
theorem stp_pos : ∀ k : Nat, 1 ≤ stp (k + 1)
  | 0 => Int.le_refl _
  | k + 1 => by have := stp_pos k; simp only [stp]; omega
theorem stp_half : ∀ k : Nat, stp (k + 1) / 2 = stp k
  | 0 => rfl
  | k + 1 => by simp only [stp]; omega
theorem stp_le : ∀ k : Nat, k ≤ 21 → stp k ≤ 1048576 := by decide
theorem stp_one (k : Nat) : stp (k + 1) = 2 * stp k ∨ (k = 0 ∧ stp (k + 1) = 1) := by
  cases k with
  | zero => exact Or.inr ⟨rfl, rfl⟩
  | succ k => exact Or.inl rfl
/-- n is found, but for steps below 2 * stp k -/
def Near (q n : Int) (k : Nat) : Prop := 0 ≤ n ∧ n ≤ q ∧ q < n + 2 * stp k + (if k = 0 then 1 else 0)
theorem near_start {q : Int} (h0 : 0 ≤ q) (h1 : q ≤ 1048576) : Near q 0 21 := by
  refine ⟨Int.le_refl _, h0, ?_⟩
  have : stp 21 = 1048576 := by decide
  rw [this]; simp; omega
theorem near_end {q n : Int} (h : Near q n 0) : n = q := by
  obtain ⟨_, h1, h2⟩ := h; simp [stp] at h2; omega
theorem near_step {q n m : Int} {k : Nat} (h : Near q n (k + 1)) (hm : (n + stp (k + 1) ≤ q ∧ m = n + stp (k + 1)) ∨ (q < n + stp (k + 1) ∧ m = n)) : Near q m k := by
  obtain ⟨h0, h1, h2⟩ := h
  have hp := stp_pos k
  rw [if_neg (by omega)] at h2
  rcases stp_one k with e | ⟨rfl, e⟩
  · refine ⟨by omega, by omega, ?_⟩
    split
    · rename_i hk; subst hk; simp [stp] at e
    · omega
  · rw [e] at h2 hm
    refine ⟨by omega, by omega, ?_⟩
    simp [stp]; omega
theorem near_bd {q n : Int} {k : Nat} (h : Near q n k) : 0 ≤ n ∧ n ≤ q := ⟨h.1, h.2.1⟩

/-! Honest, Least -/
def honB (d a rho : Int) : Bool := decide (0 ≤ d ∧ 0 ≤ a ∧ 0 ≤ rho ∧ rho ≤ 999 ∧ d * (1000 - rho) ≤ a * 1000 ∧ a * 1000 ≤ d * (1000 + rho))

theorem honB_mono {d a r s : Int} (h : honB d a r = true) (hs : r ≤ s) (hs' : s ≤ 999) : honB d a s = true := by
  have h := of_decide_eq_true h
  have e1 := Int.mul_le_mul_of_nonneg_left (show 1000 - s ≤ 1000 - r by omega) h.1
  have e2 := Int.mul_le_mul_of_nonneg_left (show 1000 + r ≤ 1000 + s by omega) h.1
  exact decide_eq_true ⟨h.1, h.2.1, by omega, hs', by omega, by omega⟩

theorem honB_add {d a e b r : Int} (h : honB d a r = true) (h' : honB e b r = true) : honB (d + e) (a + b) r = true := by
  have h := of_decide_eq_true h; have h' := of_decide_eq_true h'
  refine decide_eq_true ⟨by omega, by omega, by omega, by omega, ?_, ?_⟩
  · rw [Int.add_mul, Int.add_mul]; omega
  · rw [Int.add_mul, Int.add_mul]; omega

/-- one after the other, from r on -/
def leastN (d a : Int) : Nat → Nat → Nat
  | 0, r => r
  | f + 1, r => if honB d a (r : Int) then r else leastN d a f (r + 1)
def leastT (d a : Int) : Int := (leastN d a 1000 0 : Nat)

theorem leastN_spec (d a : Int) (f r : Nat) : r ≤ leastN d a f r ∧ leastN d a f r ≤ r + f ∧ (leastN d a f r < r + f → honB d a (leastN d a f r : Nat) = true) ∧ (∀ s : Nat, r ≤ s → s < leastN d a f r → honB d a (s : Int) = false) := by
  induction f generalizing r with
  | zero => simp only [leastN]; exact ⟨Nat.le_refl _, Nat.le_refl _, fun h => absurd h (by omega), fun s h h' => absurd h' (by omega)⟩
  | succ f ih =>
    simp only [leastN]
    by_cases h : honB d a (r : Int) = true
    · rw [if_pos h]; exact ⟨Nat.le_refl _, by omega, fun _ => h, fun s h h' => absurd h' (by omega)⟩
    · rw [if_neg h]
      obtain ⟨i1, i2, i3, i4⟩ := ih (r + 1)
      refine ⟨by omega, by omega, fun hl => i3 (by omega), fun s hs hs' => ?_⟩
      by_cases e : s = r
      · subst e; simpa using h
      · exact i4 s (by omega) hs'

theorem leastT_bd (d a : Int) : 0 ≤ leastT d a ∧ leastT d a ≤ 1000 := by
  have h := (leastN_spec d a 1000 0).2.1; unfold leastT; omega
theorem leastT_hon (d a : Int) (h : leastT d a ≤ 999) : honB d a (leastT d a) = true := by
  unfold leastT at *; exact (leastN_spec d a 1000 0).2.2.1 (by omega)
theorem leastT_low (d a s : Int) (h : s < leastT d a) : honB d a s = false := by
  by_cases h0 : 0 ≤ s
  · obtain ⟨n, rfl⟩ := Int.eq_ofNat_of_zero_le h0
    unfold leastT at h; exact (leastN_spec d a 1000 0).2.2.2 n (by omega) (by omega)
  · unfold honB; exact decide_eq_false (by omega)
theorem leastT_le (d a s : Int) (h : honB d a s = true) : leastT d a ≤ s := by
  by_cases h' : s < leastT d a
  · rw [leastT_low d a s h'] at h; cases h
  · omega
/-- from Least on it is honest -/
theorem leastT_up (d a s : Int) (h : leastT d a ≤ s) (h' : s ≤ 999) : honB d a s = true :=
  honB_mono (leastT_hon d a (by omega)) h h'

theorem leastT_add (d a e b : Int) : leastT (d + e) (a + b) ≤ max (leastT d a) (leastT e b) := by
  have h1 := leastT_bd (d + e) (a + b)
  by_cases h : leastT d a ≤ 999 ∧ leastT e b ≤ 999
  · exact leastT_le _ _ _ (honB_add (leastT_up d a _ (by omega) (by omega)) (leastT_up e b _ (by omega) (by omega)))
  · omega

/-- P3.4. -/
theorem safe {t rho dx ax dy ay : Int} (h : shrB t rho = true) (hx : honB dx ax rho = true) (hy : honB dy ay rho = true) (hd : dy ≤ dx) (ha : ax < shrT t rho) : ay < t := by
  obtain ⟨s0, s1, s2, _⟩ := shr_spec h
  have hr := of_decide_eq_true h
  have hx := of_decide_eq_true hx
  have hy := of_decide_eq_true hy
  have hp : (0 : Int) ≤ 1000 + rho := by omega
  have hm : (0 : Int) < 1000 - rho := by omega
  -- dy (1000 + rho) <= dx (1000 + rho)
  have k1 := Int.mul_le_mul_of_nonneg_right hd hp
  -- dx (1000 - rho) (1000 + rho) <= 1000 ax (1000 + rho) <= 1000 (h - 1) (1000 + rho)
  have k2 := Int.mul_le_mul_of_nonneg_right hx.2.2.2.2.1 hp
  have k3 := Int.mul_le_mul_of_nonneg_right (show ax + 1 ≤ shrT t rho by omega) hp
  -- (1000 t - dx (1000 + rho)) (1000 - rho) > 0
  have k4 : dx * (1000 + rho) * (1000 - rho) < 1000 * t * (1000 - rho) := by
    have e1 : dx * (1000 + rho) * (1000 - rho) = dx * (1000 - rho) * (1000 + rho) := Int.mul_right_comm _ _ _
    have e2 : ax * 1000 * (1000 + rho) = 1000 * (ax * (1000 + rho)) := by rw [Int.mul_comm ax 1000, Int.mul_assoc]
    have e3 : 1000 * t * (1000 - rho) = 1000 * (t * (1000 - rho)) := Int.mul_assoc _ _ _
    have e4 : (ax + 1) * (1000 + rho) = ax * (1000 + rho) + (1000 + rho) := by rw [Int.add_mul, Int.one_mul]
    omega
  have k5 := Int.lt_of_mul_lt_mul_right k4 (by omega)
  have k6 := hy.2.2.2.2.2
  omega

/-! Wide numbers -/
/-- hi * M + lo, lo below M: in the order of the whole -/
theorem wide_le {M h l h' l' : Int} (l0 : 0 ≤ l) (lM : l < M) (l0' : 0 ≤ l') (lM' : l' < M) : (h < h' ∨ h = h' ∧ l ≤ l') ↔ h * M + l ≤ h' * M + l' := by
  have hM : 0 < M := by omega
  constructor
  · rintro (a | ⟨rfl, b⟩)
    · have := Int.mul_le_mul_of_nonneg_right (show h + 1 ≤ h' by omega) (show 0 ≤ M by omega)
      rw [Int.add_mul, Int.one_mul] at this; omega
    · omega
  · intro a
    by_cases e : h < h'
    · exact Or.inl e
    · right
      have : h' ≤ h := by omega
      by_cases e' : h = h'
      · subst e'; exact ⟨rfl, by omega⟩
      · have := Int.mul_le_mul_of_nonneg_right (show h' + 1 ≤ h by omega) (show 0 ≤ M by omega)
        rw [Int.add_mul, Int.one_mul] at this; omega

end Go.Proofs.YtchdfogifhfclaaGreatDoor.T3

