/- THE WALK of ClocksForth.  ClocksHonest's plain law: the drift is at most rho just if every tick kept within it; then so did all time between any two moments. -/
import Derived.Test.YtchdfogifhfclaaGreatDoorWakeM
namespace Go.Proofs.YtchdfogifhfclaaGreatDoor.Ck8
open Go.RowKit

theorem now_q {w0 w : World} {p g : Nat} {c : Ck} (h : Cs w0 p g c w) (i : Int) (n : Nat) : Calls Tryz.prog 9 #[.pointer (some ⟨p, 0, none⟩), .int .i64 i] (w.drewN n) fun e w' => e = .returned (.int .i64 (c.at_ i)) ∧ ∃ k, w' = w.drewN k :=
  (now_any p g c i _ (h.drewN n).at_).mono fun _ _ ⟨h1, h2⟩ => ⟨h1, n, h2.symm⟩
theorem empty_ints (w : World) : (w.alloc (.cells #[] 3)).ownsRow w.heap.size 3 1 (.slice (some ⟨w.heap.size, 0, none⟩) 0 0) 0 [] := by
  have := World.ownsRow_made (base := w.heap.size) (e := 3) (size := 1) w #[] 0 (Nat.le_refl _) (by decide) rfl
  simpa using this
theorem Ck.at_of {c : Ck} {k : Nat} {x : Int} (h : c.now[k]? = some x) : c.at_ (k : Int) = x := by
  have := (List.getElem?_eq_some_iff.1 h).1
  unfold Ck.at_
  rw [if_neg (by omega), Int.toNat_natCast]
  exact getD_of h
theorem driftU_ge (d : Int) (dl : List Int) (m : Int) : ∀ k, m ≤ driftU d dl m k
  | 0 => by simp [driftU]
  | k + 1 => by have := driftU_ge d dl m k; simp only [driftU]; omega
/-- A copy of ints: append([]int{}, l...). -/
theorem copied_ints {w w3 : World} {v : Value} {n : Nat} {l : List Int} (ho : w3.ownsRow w.heap.size 3 1 v n (l.map I8)) (hg : (w.alloc (.cells #[] 3)).grownBy w3 (some w.heap.size)) : IntsV (fun k => w.heap.size ≤ k) w3 v l ∧ Below w.heap.size w w3 :=
  ⟨IntsV.of_own ho, ((Below.refl _ _).alloc (Nat.le_refl _) _).grown hg (by simp) (by intro k hk; injection hk with hk; omega)⟩
/-- The step in one. -/
structure Went (c c' : Ck) (a : Int) (b : Nat → Int) (m : Nat) : Prop where
  passed : c'.passed = c.passed + a
  drift : c.drift ≤ c'.drift
  now : ∀ (k : Nat) (x : Int), c.now[k]? = some x → c'.now[k]? = some (x + b k)
theorem went_ok {c : Ck} {d : Int} {dl : List Int} (h : c.tickE d dl = 0) : Went c (c.tickR d dl) d (fun k => dl.getD k 0) c.now.length ∧ (c.tickR d dl).now.length = c.now.length := by
  have h0 := Ck.tick0 h
  unfold Ck.tickR
  rw [if_pos h]
  refine ⟨⟨rfl, driftU_ge _ _ _ _, fun k x hx => ?_⟩, nowU_length _ _ _⟩
  have hk := (List.getElem?_eq_some_iff.1 hx).1
  show (nowU c.now dl dl.length)[k]? = _
  rw [nowU_at _ _ _ _ hk, if_pos (by rw [h0.len]; exact hk), getD_of hx]
theorem went_no {c : Ck} {d : Int} {dl : List Int} (h : c.tickE d dl ≠ 0) : c.tickR d dl = c := by
  unfold Ck.tickR
  rw [if_neg h]

end Go.Proofs.YtchdfogifhfclaaGreatDoor.Ck8

namespace Go.Proofs.YtchdfogifhfclaaGreatDoor.Ck8

theorem hon_least {d a rho : Int} (h : 0 ≤ rho ∧ rho ≤ 999) : T3.honB d a rho = decide (T3.leastT d a ≤ rho) := by
  cases hh : T3.honB d a rho with
  | true => rw [decide_eq_true (T3.leastT_le d a rho hh)]
  | false =>
    refine (decide_eq_false fun hl => ?_).symm
    rw [T3.leastT_up d a rho hl h.2] at hh
    cases hh
/-- Have the first k clocks kept within rho at this tick? -/
def honU (d : Int) (dl : List Int) (rho : Int) (b : Bool) : Nat → Bool
  | 0 => b
  | k + 1 => honU d dl rho b k && T3.honB d (dl.getD k 0) rho
theorem honU_drift {d : Int} {dl : List Int} {rho m : Int} {b : Bool} (h : 0 ≤ rho ∧ rho ≤ 999) (hb : b = decide (m ≤ rho)) : ∀ k, honU d dl rho b k = decide (driftU d dl m k ≤ rho)
  | 0 => hb
  | k + 1 => by
    have h1 := honU_drift (d := d) (dl := dl) h hb k
    have h2 := hon_least (d := d) (a := dl.getD k 0) h
    have h3 : driftU d dl m (k + 1) = max (driftU d dl m k) (T3.leastT d (dl.getD k 0)) := rfl
    have h4 : honU d dl rho b (k + 1) = (honU d dl rho b k && T3.honB d (dl.getD k 0) rho) := rfl
    rw [h4, h1, h2, Bool.eq_iff_iff, Bool.and_eq_true, decide_eq_true_eq, decide_eq_true_eq, decide_eq_true_eq, h3]
    omega
theorem honU_false {d : Int} {dl : List Int} {rho : Int} : ∀ k, honU d dl rho false k = false
  | 0 => rfl
  | k + 1 => by simp [honU, honU_false k]
theorem hon_zero {rho : Int} (h : 0 ≤ rho ∧ rho ≤ 999) : T3.honB 0 0 rho = true := decide_eq_true ⟨by omega, by omega, h.1, h.2, by simp, by simp⟩
/-- A moment that was noted down: true time, the clocks. -/
structure Snap (rho : Int) (c : Ck) (t : Int) (ts : List Int) : Prop where
  tb : 0 ≤ t ∧ t ≤ c.passed
  len : ts.length = c.now.length
  now : ∀ (i : Nat) (x y : Int), ts[i]? = some x → c.now[i]? = some y → 0 ≤ x ∧ x ≤ y ∧ (c.drift ≤ rho → T3.honB (c.passed - t) (y - x) rho = true)
theorem Snap.present {rho : Int} {c : Ck} (h : 0 ≤ rho ∧ rho ≤ 999) (hf : c.Fit) : Snap rho c c.passed c.now :=
  ⟨⟨hf.passed.1, Int.le_refl _⟩, rfl, fun i x y hx hy => by
    rw [hx] at hy
    injection hy with hy
    subst hy
    refine ⟨(hf.now i x hx).1, Int.le_refl _, fun _ => ?_⟩
    rw [Int.sub_self, Int.sub_self]
    exact hon_zero h⟩
theorem driftU_each (d : Int) (dl : List Int) (m : Int) : ∀ (k i : Nat), i < k → T3.leastT d (dl.getD i 0) ≤ driftU d dl m k
  | 0, i, h => by omega
  | k + 1, i, h => by
    simp only [driftU]
    rcases Nat.lt_or_ge i k with h1 | h1
    · have := driftU_each d dl m k i h1; omega
    · obtain rfl : i = k := by omega
      omega
theorem Snap.tick {rho t d : Int} {c : Ck} {ts dl : List Int} (h : 0 ≤ rho ∧ rho ≤ 999) (S : Snap rho c t ts) (hE : c.tickE d dl = 0) : Snap rho (c.tickR d dl) t ts := by
  have h0 := Ck.tick0 hE
  obtain ⟨W, hl⟩ := went_ok hE
  have hd0 := h0.d0
  refine ⟨⟨S.tb.1, by rw [W.passed]; have := S.tb.2; omega⟩, by rw [hl, S.len], fun i x y hx hy => ?_⟩
  have hi : i < c.now.length := by rw [← S.len]; exact (List.getElem?_eq_some_iff.1 hx).1
  have hz := List.getElem?_eq_getElem hi
  have h2 := W.now i _ hz
  rw [h2] at hy
  injection hy with hy
  subst hy
  obtain ⟨s1, s2, s3⟩ := S.now i x _ hx hz
  have ha := h0.a0 i (by rw [h0.len]; exact hi)
  refine ⟨s1, by omega, fun hr => ?_⟩
  have h3 := s3 (Int.le_trans W.drift hr)
  have hdr : (c.tickR d dl).drift = driftU d dl c.drift dl.length := by unfold Ck.tickR; rw [if_pos hE]
  have h4 := driftU_each d dl c.drift dl.length i (by rw [h0.len]; exact hi)
  have h5 : T3.honB d (dl.getD i 0) rho = true := by rw [hon_least h]; exact decide_eq_true (by omega)
  have h6 := T3.honB_add h3 h5
  rw [W.passed]
  rw [show c.passed + d - t = (c.passed - t) + d from by omega, show c.now[i] + dl.getD i 0 - x = (c.now[i] - x) + dl.getD i 0 from by omega]
  exact h6
end Go.Proofs.YtchdfogifhfclaaGreatDoor.Ck8

