/- Clocks' plain law: what a tick answers. -/
import Derived.Test.YtchdfogifhfclaaGreatDoorPlain3
import Derived.Test.YtchdfogifhfclaaGreatDoorInts
namespace Go.Proofs.YtchdfogifhfclaaGreatDoor.Ck8

/-- True time, the clocks, the drift. -/
structure Ck where
  now : List Int
  passed : Int
  drift : Int
/-- All are in their bounds. -/
structure Ck.Fit (c : Ck) : Prop where
  len : 1 ≤ c.now.length ∧ c.now.length ≤ 8
  now : ∀ (j : Nat) (x : Int), c.now[j]? = some x → 0 ≤ x ∧ x ≤ 1152921504606846976
  passed : 0 ≤ c.passed ∧ c.passed ≤ 1152921504606846976
  drift : 0 ≤ c.drift ∧ c.drift ≤ 1000
def Ck.start (n : Nat) : Ck := ⟨List.replicate n 0, 0, 0⟩
theorem Ck.start_fit {n : Nat} (h : 1 ≤ n ∧ n ≤ 8) : (Ck.start n).Fit :=
  ⟨by simpa [Ck.start] using h, fun j x hx => by
    simp [Ck.start, List.getElem?_replicate] at hx
    omega, by simp [Ck.start], by simp [Ck.start]⟩
def Ck.at_ (c : Ck) (i : Int) : Int := if i < 0 ∨ (c.now.length : Int) ≤ i then 0 else c.now.getD i.toNat 0

theorem getD_of {l : List Int} {k : Nat} {x : Int} (h : l[k]? = some x) : l.getD k 0 = x := by simp [List.getD_eq_getElem?_getD, h]
/-- Is one of the first k below 0? -/
def negU (dl : List Int) : Nat → Bool
  | 0 => false
  | k + 1 => negU dl k || decide (dl.getD k 0 < 0)
/-- Does one of the first k clocks pass the last time? -/
def lateU (now dl : List Int) (b : Bool) : Nat → Bool
  | 0 => b
  | k + 1 => lateU now dl b k || decide (1152921504606846976 - now.getD k 0 < dl.getD k 0)
def driftU (d : Int) (dl : List Int) (m : Int) : Nat → Int
  | 0 => m
  | k + 1 => max (driftU d dl m k) (T3.leastT d (dl.getD k 0))
def nowU (now dl : List Int) : Nat → List Int
  | 0 => now
  | k + 1 => (nowU now dl k).set k (now.getD k 0 + dl.getD k 0)
def Ck.tickE (c : Ck) (d : Int) (dl : List Int) : Nat :=
  if dl.length ≠ c.now.length ∨ d < 0 ∨ negU dl dl.length = true then 2
  else if lateU c.now dl (decide (1152921504606846976 - c.passed < d)) dl.length = true then 30 else 0
def Ck.tickR (c : Ck) (d : Int) (dl : List Int) : Ck :=
  if c.tickE d dl = 0 then ⟨nowU c.now dl dl.length, c.passed + d, driftU d dl c.drift dl.length⟩ else c

theorem nowU_length (now dl : List Int) : ∀ k, (nowU now dl k).length = now.length
  | 0 => rfl
  | k + 1 => by simp [nowU, nowU_length now dl k]
theorem nowU_at (now dl : List Int) : ∀ (k j : Nat), j < now.length → (nowU now dl k)[j]? = some (if j < k then now.getD j 0 + dl.getD j 0 else now.getD j 0)
  | 0, j, hj => by simp [nowU, List.getElem?_eq_getElem hj]
  | k + 1, j, hj => by
    simp only [nowU, List.getElem?_set, nowU_length]
    by_cases e : k = j
    · subst e; simp [hj]
    · rw [if_neg e, nowU_at now dl k j hj]
      congr 1
      by_cases h : j < k
      · rw [if_pos h, if_pos (by omega)]
      · rw [if_neg h, if_neg (by omega)]
theorem lateU_false {now dl : List Int} {b : Bool} : ∀ {k : Nat}, lateU now dl b k = false → b = false ∧ ∀ j, j < k → dl.getD j 0 ≤ 1152921504606846976 - now.getD j 0
  | 0, h => ⟨h, fun j hj => by omega⟩
  | k + 1, h => by
    simp only [lateU, Bool.or_eq_false_iff, decide_eq_false_iff_not] at h
    obtain ⟨h1, h2⟩ := lateU_false h.1
    refine ⟨h1, fun j hj => ?_⟩
    rcases Nat.lt_or_ge j k with h3 | h3
    · exact h2 j h3
    · obtain rfl : j = k := by omega
      omega
theorem negU_false {dl : List Int} : ∀ {k : Nat}, negU dl k = false → ∀ j, j < k → 0 ≤ dl.getD j 0
  | 0, _ => fun j hj => by omega
  | k + 1, h => by
    simp only [negU, Bool.or_eq_false_iff, decide_eq_false_iff_not] at h
    intro j hj
    rcases Nat.lt_or_ge j k with h3 | h3
    · exact negU_false h.1 j h3
    · obtain rfl : j = k := by omega
      omega
theorem lateU_mono {now dl : List Int} {b : Bool} {k : Nat} (h : lateU now dl b k = true) : ∀ j, lateU now dl b (k + j) = true
  | 0 => h
  | j + 1 => by rw [← Nat.add_assoc]; simp [lateU, lateU_mono h j]
theorem lateU_up {now dl : List Int} {b : Bool} {k n : Nat} (h : lateU now dl b k = true) (hn : k ≤ n) : lateU now dl b n = true := by
  obtain ⟨j, rfl⟩ : ∃ j, n = k + j := ⟨n - k, by omega⟩
  exact lateU_mono h j
theorem negU_mono {dl : List Int} {k : Nat} (h : negU dl k = true) : ∀ j, negU dl (k + j) = true
  | 0 => h
  | j + 1 => by rw [← Nat.add_assoc]; simp [negU, negU_mono h j]
theorem negU_up {dl : List Int} {k n : Nat} (h : negU dl k = true) (hn : k ≤ n) : negU dl n = true := by
  obtain ⟨j, rfl⟩ : ∃ j, n = k + j := ⟨n - k, by omega⟩
  exact negU_mono h j
theorem driftU_bd {d : Int} {dl : List Int} {m : Int} (h : 0 ≤ m ∧ m ≤ 1000) : ∀ k, 0 ≤ driftU d dl m k ∧ driftU d dl m k ≤ 1000
  | 0 => h
  | k + 1 => by
    have h1 := driftU_bd (d := d) (dl := dl) h k
    have h2 := T3.leastT_bd d (dl.getD k 0)
    simp only [driftU]; omega
/-- What a tick that goes through leaves. -/
structure Tick0 (c : Ck) (d : Int) (dl : List Int) : Prop where
  len : dl.length = c.now.length
  d0 : 0 ≤ d
  a0 : ∀ j, j < dl.length → 0 ≤ dl.getD j 0
  dM : d ≤ 1152921504606846976 - c.passed
  aM : ∀ j, j < dl.length → dl.getD j 0 ≤ 1152921504606846976 - c.now.getD j 0
theorem Ck.tick0 {c : Ck} {d : Int} {dl : List Int} (h : c.tickE d dl = 0) : Tick0 c d dl := by
  unfold Ck.tickE at h
  split at h
  · omega
  · rename_i h1
    split at h
    · omega
    · rename_i h2
      have h3 := lateU_false (Bool.eq_false_iff.2 h2)
      have h4 : ¬ negU dl dl.length = true := fun e => h1 (Or.inr (Or.inr e))
      have h5 := h3.1
      simp at h5
      exact ⟨by omega, by omega, negU_false (Bool.eq_false_iff.2 h4), by omega, h3.2⟩
theorem Ck.tickR_fit {c : Ck} (hc : c.Fit) (d : Int) (dl : List Int) : (c.tickR d dl).Fit := by
  unfold Ck.tickR
  split
  · rename_i h
    have h0 := Ck.tick0 h
    refine ⟨?_, fun j x hx => ?_, ?_, driftU_bd hc.drift _⟩
    · simp only [nowU_length]; exact hc.len
    · have hj : j < c.now.length := by
        have := (List.getElem?_eq_some_iff.1 hx).1
        simpa [nowU_length] using this
      have hx' : (nowU c.now dl dl.length)[j]? = some x := hx
      rw [nowU_at _ _ _ _ hj, if_pos (by rw [h0.len]; exact hj)] at hx'
      injection hx' with hx'
      have h1 := h0.a0 j (by rw [h0.len]; exact hj)
      have h2 := h0.aM j (by rw [h0.len]; exact hj)
      have h3 := hc.now j _ (List.getElem?_eq_getElem hj)
      have h4 : c.now.getD j 0 = c.now[j] := getD_of (List.getElem?_eq_getElem hj)
      omega
    · have h1 := hc.passed
      have h2 := h0.d0
      have h3 := h0.dM
      show 0 ≤ c.passed + d ∧ _
      exact ⟨by omega, by show c.passed + d ≤ _; omega⟩
  · exact hc
end Go.Proofs.YtchdfogifhfclaaGreatDoor.Ck8

