/- paths: fine, Valid, Covers. -/
import Derived.Test.YtchdfogifhfclaaGreatDoorMem
import Derived.Lib.Hide
import Derived.Lib.Strings
import Derived.Lib.Slices
import Derived.Lib.Walk
import Derived.Lib.Bytealg
import Derived.Test.YtchdfogifhfclaaGreatDoorProg
import Derived.LoopTactic
namespace Go.Proofs.YtchdfogifhfclaaGreatDoor
open Go.RowKit

def alnum (c : UInt8) : Bool := (decide (97 ≤ c.toNat) && decide (c.toNat ≤ 122)) || (decide (48 ≤ c.toNat) && decide (c.toNat ≤ 57))
def fineL : List UInt8 → Nat → Bool
  | [], k => decide (0 < k ∧ k ≤ 6)
  | c :: l, k => if c = 47 then (if k = 0 then false else fineL l 0) else if alnum c = true then (if 6 < k + 1 then false else fineL l (k + 1)) else false
/-- Is it a path? -/
def pathOK (p : ByteArray) : Bool := decide (p.size = 0) || (fineL p.data.toList 0 && decide (p.data.toList.count 47 < 4))
theorem fineL_len : ∀ (l : List UInt8) (k : Nat), k ≤ 6 → fineL l k = true → l.length + k ≤ 6 + 7 * l.count 47
  | [], k, hk, _ => by simp; omega
  | c :: l, k, hk, h => by
    unfold fineL at h
    by_cases hc : c = 47
    · subst hc
      rw [if_pos rfl] at h
      split at h
      · cases h
      · have := fineL_len l 0 (by omega) h
        rw [List.count_cons_self, List.length_cons]
        omega
    · rw [if_neg hc] at h
      split at h
      · split at h
        · cases h
        · have := fineL_len l (k + 1) (by omega) h
          rw [List.count_cons_of_ne (fun e => hc e), List.length_cons]
          omega
      · cases h
theorem pathOK_size {p : ByteArray} (h : pathOK p = true) : p.size ≤ 27 := by
  unfold pathOK at h
  simp only [Bool.or_eq_true, Bool.and_eq_true, decide_eq_true_eq] at h
  rcases h with h | ⟨h1, h2⟩
  · omega
  · have := fineL_len _ 0 (by omega) h1
    have e : p.data.toList.length = p.size := Array.length_toList
    omega
set_option maxHeartbeats 1000000 in
theorem fine_any (p : ByteArray) (w : World) (hp : p.size ≤ 140737488355328) : Calls Tryz.prog 99 #[.string p] w fun e w' => e = .returned (.bool (fineL p.data.toList 0)) ∧ w = w' := by
  obtain ⟨B, hB⟩ : ∃ B, B = fineL p.data.toList 0 := ⟨_, rfl⟩
  rw [← hB]
  have HB := Lib.hid hB
  clear hB
  go_enter Tryz.func99, Tryz.ntmps99
  go_wp2
  go_step3
  go_wp2
  go_step3
  go_wp2
  go_loopw [3, 8] (fun lg i wr => ∃ k m : Nat, k ≤ p.size ∧ m ≤ 6 ∧ lg = .int .i64 m ∧ i = .int .i64 k ∧ Hid (fineL (p.data.toList.drop k) m = B) ∧ w = wr) (fun _ i _ => p.size - (intOf i).toNat)
  case atStart => exact ⟨0, 0, Nat.zero_le _, Nat.zero_le _, rfl, rfl, Lib.hid HB.out.symm, rfl⟩
  case round =>
    obtain ⟨k, m, hk, hm, rfl, rfl, hf, rfl⟩ := hrel
    by_cases hlt : k < p.size
    · have hd : p.data.toList.drop k = p[k] :: p.data.toList.drop (k + 1) := by
        rw [List.drop_eq_getElem_cons (by simpa using hlt)]; rfl
      have hf1 := hf.out
      rw [hd] at hf1
      unfold fineL at hf1
      have HF := Lib.hid hf1
      clear hf1 hd
      by_cases h47 : p[k] = 47
      · have d1 : (p[k].toNat == 47) = true := by rw [h47]; rfl
        rw [if_pos h47] at HF
        clear h47
        by_cases hm0 : m = 0
        · subst hm0
          rw [if_pos rfl] at HF
          go_wp2_with fail
          try rw [Exit.noGoto_ret]
          go_ret
          exact ⟨by rw [← HF.out]; rfl, rfl⟩
        · have d2 : (m == 0) = false := by simpa using hm0
          rw [if_neg hm0] at HF
          clear hm0
          go_wp2_with fail
          refine ⟨⟨k + 1, 0, by omega, by omega, rfl, by push_cast; rfl, Lib.hid HF.out, by first | rfl | trivial⟩, by simp only [intOf]; omega⟩
      · have d1 : (p[k].toNat == 47) = false := by
          cases e : (p[k].toNat == 47) with
          | false => rfl
          | true => exact absurd (UInt8.toNat_inj.1 (by simpa using e)) h47
        rw [if_neg h47] at HF
        clear h47
        by_cases ha : alnum p[k] = true
        · rw [if_pos ha] at HF
          unfold alnum at ha
          by_cases h1 : 97 ≤ p[k].toNat
          · have g1 : decide (97 ≤ p[k].toNat) = true := decide_eq_true h1
            have g1i : decide ((97 : Int) ≤ ((p[k].toNat : Nat) : Int)) = true := decide_eq_true (by have := of_decide_eq_true g1; omega)
            have g2 : decide (p[k].toNat ≤ 122) = true := by
              simp only [Bool.or_eq_true, Bool.and_eq_true, decide_eq_true_eq] at ha ⊢
              omega
            have g2i : decide (((p[k].toNat : Nat) : Int) ≤ (122 : Int)) = true := decide_eq_true (by have := of_decide_eq_true g2; omega)
            clear h1 ha
            by_cases h6 : 6 < m + 1
            · rw [if_pos h6] at HF
              have d6 : decide (6 < m + 1) = true := decide_eq_true h6
              have d6i : decide ((6 : Int) < ((m : Int) + 1)) = true := decide_eq_true (by have := of_decide_eq_true d6; omega)
              have d7i : decide (((m : Int) + 1) ≤ (6 : Int)) = false := decide_eq_false (by have := of_decide_eq_true d6; omega)
              clear h6
              go_wp2_with fail
              rw [Exit.noGoto_ret]
              go_ret
              exact ⟨by rw [← HF.out]; rfl, rfl⟩
            · rw [if_neg h6] at HF
              have d6 : decide (6 < m + 1) = false := decide_eq_false h6
              have d6i : decide ((6 : Int) < ((m : Int) + 1)) = false := decide_eq_false (by have := of_decide_eq_false d6; omega)
              have h6' : m + 1 ≤ 6 := by omega
              clear h6
              go_wp2_with fail
              refine ⟨⟨k + 1, m + 1, by omega, by omega, by push_cast; rfl, by push_cast; rfl, Lib.hid HF.out, by first | rfl | trivial⟩, by simp only [intOf]; omega⟩
          · have g1 : decide (97 ≤ p[k].toNat) = false := decide_eq_false h1
            have g1i : decide ((97 : Int) ≤ ((p[k].toNat : Nat) : Int)) = false := decide_eq_false (by have := of_decide_eq_false g1; omega)
            have g3 : decide (48 ≤ p[k].toNat) = true := by
              simp only [Bool.or_eq_true, Bool.and_eq_true, decide_eq_true_eq] at ha ⊢
              omega
            have g3i : decide ((48 : Int) ≤ ((p[k].toNat : Nat) : Int)) = true := decide_eq_true (by have := of_decide_eq_true g3; omega)
            have g4 : decide (p[k].toNat ≤ 57) = true := by
              simp only [Bool.or_eq_true, Bool.and_eq_true, decide_eq_true_eq] at ha ⊢
              omega
            have g4i : decide (((p[k].toNat : Nat) : Int) ≤ (57 : Int)) = true := decide_eq_true (by have := of_decide_eq_true g4; omega)
            clear h1 ha
            by_cases h6 : 6 < m + 1
            · rw [if_pos h6] at HF
              have d6 : decide (6 < m + 1) = true := decide_eq_true h6
              have d6i : decide ((6 : Int) < ((m : Int) + 1)) = true := decide_eq_true (by have := of_decide_eq_true d6; omega)
              have d7i : decide (((m : Int) + 1) ≤ (6 : Int)) = false := decide_eq_false (by have := of_decide_eq_true d6; omega)
              clear h6
              go_wp2_with fail
              rw [Exit.noGoto_ret]
              go_ret
              exact ⟨by rw [← HF.out]; rfl, rfl⟩
            · rw [if_neg h6] at HF
              have d6 : decide (6 < m + 1) = false := decide_eq_false h6
              have d6i : decide ((6 : Int) < ((m : Int) + 1)) = false := decide_eq_false (by have := of_decide_eq_false d6; omega)
              have h6' : m + 1 ≤ 6 := by omega
              clear h6
              go_wp2_with fail
              refine ⟨⟨k + 1, m + 1, by omega, by omega, by push_cast; rfl, by push_cast; rfl, Lib.hid HF.out, by first | rfl | trivial⟩, by simp only [intOf]; omega⟩
        · rw [if_neg ha] at HF
          have ha' : ¬ ((97 ≤ p[k].toNat ∧ p[k].toNat ≤ 122) ∨ (48 ≤ p[k].toNat ∧ p[k].toNat ≤ 57)) := by
            unfold alnum at ha
            simpa only [Bool.or_eq_true, Bool.and_eq_true, decide_eq_true_eq] using ha
          have HA := Lib.hid ha'
          clear ha ha'
          have fin : ∀ e : Ending, e = .returned (.bool false) → e = .returned (.bool B) := fun e he => by rw [he, ← HF.out]
          by_cases h1 : 97 ≤ p[k].toNat
          · have g1 : decide (97 ≤ p[k].toNat) = true := decide_eq_true h1
            have g1i : decide ((97 : Int) ≤ ((p[k].toNat : Nat) : Int)) = true := decide_eq_true (by have := of_decide_eq_true g1; omega)
            have g2 : decide (p[k].toNat ≤ 122) = false := decide_eq_false (by have := HA.out; omega)
            have g2i : decide (((p[k].toNat : Nat) : Int) ≤ (122 : Int)) = false := decide_eq_false (by have := of_decide_eq_false g2; omega)
            have g3 : decide (48 ≤ p[k].toNat) = true := decide_eq_true (by omega)
            have g3i : decide ((48 : Int) ≤ ((p[k].toNat : Nat) : Int)) = true := decide_eq_true (by have := of_decide_eq_true g3; omega)
            have g4 : decide (p[k].toNat ≤ 57) = false := decide_eq_false (by have := HA.out; omega)
            have g4i : decide (((p[k].toNat : Nat) : Int) ≤ (57 : Int)) = false := decide_eq_false (by have := of_decide_eq_false g4; omega)
            clear h1
            go_wp2_with fail
            rw [Exit.noGoto_ret]
            go_ret
            exact ⟨fin _ rfl, rfl⟩
          · have g1 : decide (97 ≤ p[k].toNat) = false := decide_eq_false h1
            have g1i : decide ((97 : Int) ≤ ((p[k].toNat : Nat) : Int)) = false := decide_eq_false (by have := of_decide_eq_false g1; omega)
            by_cases h2 : 48 ≤ p[k].toNat
            · have g3 : decide (48 ≤ p[k].toNat) = true := decide_eq_true h2
              have g3i : decide ((48 : Int) ≤ ((p[k].toNat : Nat) : Int)) = true := decide_eq_true (by have := of_decide_eq_true g3; omega)
              have g4 : decide (p[k].toNat ≤ 57) = false := decide_eq_false (by have := HA.out; omega)
              have g4i : decide (((p[k].toNat : Nat) : Int) ≤ (57 : Int)) = false := decide_eq_false (by have := of_decide_eq_false g4; omega)
              clear h1 h2
              go_wp2_with fail
              rw [Exit.noGoto_ret]
              go_ret
              exact ⟨fin _ rfl, rfl⟩
            · have g3 : decide (48 ≤ p[k].toNat) = false := decide_eq_false h2
              have g3i : decide ((48 : Int) ≤ ((p[k].toNat : Nat) : Int)) = false := decide_eq_false (by have := of_decide_eq_false g3; omega)
              clear h1 h2
              go_wp2_with fail
              rw [Exit.noGoto_ret]
              go_ret
              exact ⟨fin _ rfl, rfl⟩
    · obtain rfl : k = p.size := by omega
      have hl : p.data.toList.drop p.size = [] := List.drop_of_length_le (by simp)
      have HF := Lib.hid hf.out
      rw [hl] at HF
      unfold fineL at HF
      clear hf hl
      by_cases hm0 : 0 < m
      · have d1 : decide (0 < m) = true := decide_eq_true hm0
        have d1i : decide ((0 : Int) < ((m : Nat) : Int)) = true := decide_eq_true (by have := of_decide_eq_true d1; omega)
        have d2 : decide (m ≤ 6) = true := decide_eq_true hm
        have d2i : decide (((m : Nat) : Int) ≤ (6 : Int)) = true := decide_eq_true (by have := of_decide_eq_true d2; omega)
        clear hm0
        go_wp2_with fail
        rw [Exit.noGoto_ret]
        go_ret
        refine ⟨?_, rfl⟩
        rw [← HF.out, decide_eq_true (by have := of_decide_eq_true d1; omega)]
        rfl
      · have d1 : decide (0 < m) = false := decide_eq_false hm0
        have d1i : decide ((0 : Int) < ((m : Nat) : Int)) = false := decide_eq_false (by have := of_decide_eq_false d1; omega)
        clear hm0
        go_wp2_with fail
        rw [Exit.noGoto_ret]
        go_ret
        refine ⟨?_, rfl⟩
        rw [← HF.out, decide_eq_false (by have := of_decide_eq_false d1; omega)]
        rfl
set_option maxHeartbeats 1000000 in
set_option maxRecDepth 100000 in
theorem count_one (s : ByteArray) (c : UInt8) (w : World) :
    Calls Tryz.prog 100 #[.string s, .string ⟨#[c]⟩] w fun e w' => e = .returned (.int .i64 (Lib.countByte s.data.toList c)) ∧ w = w' := by
  go_enter Tryz.func100, Tryz.ntmps100
  go_wp2
  rw [run_callFunc_extern Tryz.func147 (by kernel_rfl) (by kernel_rfl) (by kernel_rfl) (e := Extern.BytealgCount.count) (by kernel_rfl), Lib.run_countString]
  simp only [Result.andThen]
  rw [Oper.upon_value]
  go_wp2
  go_ret
  exact ⟨rfl, rfl⟩
theorem size_zero {p : ByteArray} (h : p.size = 0) : p = ⟨#[]⟩ := by
  obtain ⟨⟨l⟩⟩ := p
  have : l = [] := List.eq_nil_of_length_eq_zero h
  subst this; rfl
theorem empty_ne {p : ByteArray} (h : ¬ p.size = 0) : p.toList ≠ [] := by
  rw [ByteArray.toList_eq]
  intro e
  apply h
  have : p.data.toList.length = 0 := by rw [e]; rfl
  exact this
set_option maxHeartbeats 1000000 in
theorem valid_any (p : ByteArray) (w : World) (hp : p.size ≤ 140737488355328) : Calls Tryz.prog 52 #[.string p] w fun e w' => e = .returned (.bool (pathOK p)) ∧ w = w' := by
  by_cases h0 : p.size = 0
  · obtain rfl := size_zero h0
    go_enter Tryz.func52, Tryz.ntmps52
    go_wp2_with fail
    go_ret
    exact ⟨rfl, rfl⟩
  · obtain ⟨B, hB⟩ : ∃ B, B = fineL p.data.toList 0 := ⟨_, rfl⟩
    obtain ⟨n, hn⟩ : ∃ n, n = p.data.toList.count 47 := ⟨_, rfl⟩
    have hv : pathOK p = (B && decide (n < 4)) := by unfold pathOK; rw [decide_eq_false h0, hB, hn]; rfl
    have hne : p.toList ≠ [] := empty_ne h0
    have hne2 : p.toList.isEmpty = false := by simpa using hne
    rw [hv]
    have HB := Lib.hid hB
    have HN := Lib.hid hn
    clear hv hB hn h0
    cases B with
    | true =>
      by_cases h4 : n < 4
      · have d : decide (n < 4) = true := decide_eq_true h4
        have di : decide ((n : Int) < 4) = true := decide_eq_true (by omega)
        rw [d]
        clear h4
        go_enter Tryz.func52, Tryz.ntmps52
        go_wp2_with fail
        refine (fine_any p _ hp).mono ?_
        rintro e w1 ⟨rfl, rfl⟩
        rw [← HB.out]
        go_wp2_with fail
        refine (count_one p 47 _).mono ?_
        rintro e w1 ⟨rfl, rfl⟩
        have hc : Lib.countByte p.data.toList 47 = n := HN.out.symm
        rw [hc]
        go_wp2_with fail
        go_ret
        exact ⟨rfl, rfl⟩
      · have d : decide (n < 4) = false := decide_eq_false h4
        have di : decide ((n : Int) < 4) = false := decide_eq_false (by omega)
        rw [d]
        clear h4
        go_enter Tryz.func52, Tryz.ntmps52
        go_wp2_with fail
        refine (fine_any p _ hp).mono ?_
        rintro e w1 ⟨rfl, rfl⟩
        rw [← HB.out]
        go_wp2_with fail
        refine (count_one p 47 _).mono ?_
        rintro e w1 ⟨rfl, rfl⟩
        have hc : Lib.countByte p.data.toList 47 = n := HN.out.symm
        rw [hc]
        go_wp2_with fail
        go_ret
        exact ⟨rfl, rfl⟩
    | false =>
      go_enter Tryz.func52, Tryz.ntmps52
      go_wp2_with fail
      refine (fine_any p _ hp).mono ?_
      rintro e w1 ⟨rfl, rfl⟩
      rw [← HB.out]
      go_wp2_with fail
      go_ret
      exact ⟨rfl, rfl⟩
/-- A path covers itself; the root covers all. -/
theorem covers_any (p q : ByteArray) (w : World) (hq : q.size ≤ 140737488355328) (hv : pathOK q = true) (hp : p = ⟨#[]⟩ ∨ p = q) : Calls Tryz.prog 105 #[.string p, .string q] w fun e w' => e = .returned (.bool true) ∧ w = w' := by
  by_cases h0 : p.size = 0
  · obtain rfl := size_zero h0
    clear h0 hp
    go_enter Tryz.func105, Tryz.ntmps105
    go_wp2_with fail
    refine (valid_any ⟨#[]⟩ _ (by decide)).mono ?_
    rintro e w1 ⟨rfl, rfl⟩
    rw [show pathOK ⟨#[]⟩ = true from rfl]
    go_wp2_with fail
    refine (valid_any q _ hq).mono ?_
    rintro e w1 ⟨rfl, rfl⟩
    rw [hv]
    go_wp2_with fail
    go_ret
    exact ⟨rfl, rfl⟩
  · obtain rfl : p = q := by
      rcases hp with rfl | rfl
      · exact absurd rfl h0
      · rfl
    have hne : p.toList ≠ [] := empty_ne h0
    have hne2 : p.toList.isEmpty = false := by simpa using hne
    have hpp : (p.toList == p.toList) = true := by simp
    clear hp h0
    go_enter Tryz.func105, Tryz.ntmps105
    go_wp2_with fail
    refine (valid_any p _ hq).mono ?_
    rintro e w1 ⟨rfl, rfl⟩
    rw [hv]
    go_wp2_with fail
    refine (valid_any p _ hq).mono ?_
    rintro e w1 ⟨rfl, rfl⟩
    rw [hv]
    go_wp2_with fail
    go_ret
    exact ⟨rfl, rfl⟩
end Go.Proofs.YtchdfogifhfclaaGreatDoor
