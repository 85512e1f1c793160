/- paths: fine, Valid, Covers.  What stands for a few functions: the checksum, fine, Valid, the places and counts of a byte. -/
import Derived.Test.YtphfekkllibphaaGreatDoorMem
import Derived.Lib.Hide
import Derived.Lib.Strings
import Derived.Lib.Slices
import Derived.Lib.Walk
import Derived.Lib.Bytealg
import Derived.Test.YtphfekkllibphaaGreatDoorProg
import Derived.LoopTactic
import Derived.Test.YtphfekkllibphaaGreatDoorEvSt
import Derived.Test.YtphfekkllibphaaGreatDoorSumnM
import Derived.Test.YtphfekkllibphaaGreatDoorCrc
namespace Go.Proofs.YtphfekkllibphaaGreatDoor
open Go.RowKit

def alnum (c : UInt8) : Bool := (decide (97 ≤ c.toNat) && decide (c.toNat ≤ 122)) || (decide (48 ≤ c.toNat) && decide (c.toNat ≤ 57))
def fineL : List UInt8 → Nat → Bool
  | [], k => decide (0 < k ∧ k ≤ 6)
  | c :: l, k => if c = 47 then (if k = 0 then false else fineL l 0) else if alnum c = true then (if 6 < k + 1 then false else fineL l (k + 1)) else false
/-- Is it a path? -/
def pathOK (p : ByteArray) : Bool := decide (p.size = 0) || (fineL p.data.toList 0 && decide (p.data.toList.count 47 < 4))
theorem fineL_len : ∀ (l : List UInt8) (k : Nat), k ≤ 6 → fineL l k = true → l.length + k ≤ 6 + 7 * l.count 47
  | [], k, hk, _ => by simp; omega
  | c :: l, k, hk, h => by
    unfold fineL at h
    by_cases hc : c = 47
    · subst hc
      rw [if_pos rfl] at h
      split at h
      · cases h
      · have := fineL_len l 0 (by omega) h
        rw [List.count_cons_self, List.length_cons]
        omega
    · rw [if_neg hc] at h
      split at h
      · split at h
        · cases h
        · have := fineL_len l (k + 1) (by omega) h
          rw [List.count_cons_of_ne (fun e => hc e), List.length_cons]
          omega
      · cases h
theorem pathOK_size {p : ByteArray} (h : pathOK p = true) : p.size ≤ 27 := by
  unfold pathOK at h
  simp only [Bool.or_eq_true, Bool.and_eq_true, decide_eq_true_eq] at h
  rcases h with h | ⟨h1, h2⟩
  · omega
  · have := fineL_len _ 0 (by omega) h1
    have e : p.data.toList.length = p.size := Array.length_toList
    omega
set_option maxRecDepth 100000 in
set_option maxHeartbeats 1000000 in
theorem fine_any (p : ByteArray) (w : World) (hp : p.size ≤ 140737488355328) : Calls Tryz.prog 55 #[.string p] w fun e w' => e = .returned (.bool (fineL p.data.toList 0)) ∧ w = w' := by
  obtain ⟨B, hB⟩ : ∃ B, B = fineL p.data.toList 0 := ⟨_, rfl⟩
  rw [← hB]
  have HB := Lib.hid hB
  clear hB
  go_enter Tryz.func55, Tryz.ntmps55
  go_wp2
  go_step3
  go_wp2
  go_step3
  go_wp2
  go_loopw [3, 8] (fun lg i wr => ∃ k m : Nat, k ≤ p.size ∧ m ≤ 6 ∧ lg = .int .i64 m ∧ i = .int .i64 k ∧ Hid (fineL (p.data.toList.drop k) m = B) ∧ w = wr) (fun _ i _ => p.size - (intOf i).toNat)
  case atStart => exact ⟨0, 0, Nat.zero_le _, Nat.zero_le _, rfl, rfl, Lib.hid HB.out.symm, rfl⟩
  case round =>
    obtain ⟨k, m, hk, hm, rfl, rfl, hf, rfl⟩ := hrel
    by_cases hlt : k < p.size
    · have hd : p.data.toList.drop k = p[k] :: p.data.toList.drop (k + 1) := by
        rw [List.drop_eq_getElem_cons (by simpa using hlt)]; rfl
      have hf1 := hf.out
      rw [hd] at hf1
      unfold fineL at hf1
      have HF := Lib.hid hf1
      clear hf1 hd
      by_cases h47 : p[k] = 47
      · have d1 : (p[k].toNat == 47) = true := by rw [h47]; rfl
        rw [if_pos h47] at HF
        clear h47
        by_cases hm0 : m = 0
        · subst hm0
          rw [if_pos rfl] at HF
          go_wp2_with fail
          try rw [Exit.noGoto_ret]
          go_ret
          exact ⟨by rw [← HF.out]; rfl, rfl⟩
        · have d2 : (m == 0) = false := by simpa using hm0
          rw [if_neg hm0] at HF
          clear hm0
          go_wp2_with fail
          refine ⟨⟨k + 1, 0, by omega, by omega, rfl, by push_cast; rfl, Lib.hid HF.out, by first | rfl | trivial⟩, by simp only [intOf]; omega⟩
      · have d1 : (p[k].toNat == 47) = false := by
          cases e : (p[k].toNat == 47) with
          | false => rfl
          | true => exact absurd (UInt8.toNat_inj.1 (by simpa using e)) h47
        rw [if_neg h47] at HF
        clear h47
        by_cases ha : alnum p[k] = true
        · rw [if_pos ha] at HF
          unfold alnum at ha
          by_cases h1 : 97 ≤ p[k].toNat
          · have g1 : decide (97 ≤ p[k].toNat) = true := decide_eq_true h1
            have g1i : decide ((97 : Int) ≤ ((p[k].toNat : Nat) : Int)) = true := decide_eq_true (by have := of_decide_eq_true g1; omega)
            have g2 : decide (p[k].toNat ≤ 122) = true := by
              simp only [Bool.or_eq_true, Bool.and_eq_true, decide_eq_true_eq] at ha ⊢
              omega
            have g2i : decide (((p[k].toNat : Nat) : Int) ≤ (122 : Int)) = true := decide_eq_true (by have := of_decide_eq_true g2; omega)
            clear h1 ha
            by_cases h6 : 6 < m + 1
            · rw [if_pos h6] at HF
              have d6 : decide (6 < m + 1) = true := decide_eq_true h6
              have d6i : decide ((6 : Int) < ((m : Int) + 1)) = true := decide_eq_true (by have := of_decide_eq_true d6; omega)
              have d7i : decide (((m : Int) + 1) ≤ (6 : Int)) = false := decide_eq_false (by have := of_decide_eq_true d6; omega)
              clear h6
              go_wp2_with fail
              rw [Exit.noGoto_ret]
              go_ret
              exact ⟨by rw [← HF.out]; rfl, rfl⟩
            · rw [if_neg h6] at HF
              have d6 : decide (6 < m + 1) = false := decide_eq_false h6
              have d6i : decide ((6 : Int) < ((m : Int) + 1)) = false := decide_eq_false (by have := of_decide_eq_false d6; omega)
              have h6' : m + 1 ≤ 6 := by omega
              clear h6
              go_wp2_with fail
              refine ⟨⟨k + 1, m + 1, by omega, by omega, by push_cast; rfl, by push_cast; rfl, Lib.hid HF.out, by first | rfl | trivial⟩, by simp only [intOf]; omega⟩
          · have g1 : decide (97 ≤ p[k].toNat) = false := decide_eq_false h1
            have g1i : decide ((97 : Int) ≤ ((p[k].toNat : Nat) : Int)) = false := decide_eq_false (by have := of_decide_eq_false g1; omega)
            have g3 : decide (48 ≤ p[k].toNat) = true := by
              simp only [Bool.or_eq_true, Bool.and_eq_true, decide_eq_true_eq] at ha ⊢
              omega
            have g3i : decide ((48 : Int) ≤ ((p[k].toNat : Nat) : Int)) = true := decide_eq_true (by have := of_decide_eq_true g3; omega)
            have g4 : decide (p[k].toNat ≤ 57) = true := by
              simp only [Bool.or_eq_true, Bool.and_eq_true, decide_eq_true_eq] at ha ⊢
              omega
            have g4i : decide (((p[k].toNat : Nat) : Int) ≤ (57 : Int)) = true := decide_eq_true (by have := of_decide_eq_true g4; omega)
            clear h1 ha
            by_cases h6 : 6 < m + 1
            · rw [if_pos h6] at HF
              have d6 : decide (6 < m + 1) = true := decide_eq_true h6
              have d6i : decide ((6 : Int) < ((m : Int) + 1)) = true := decide_eq_true (by have := of_decide_eq_true d6; omega)
              have d7i : decide (((m : Int) + 1) ≤ (6 : Int)) = false := decide_eq_false (by have := of_decide_eq_true d6; omega)
              clear h6
              go_wp2_with fail
              rw [Exit.noGoto_ret]
              go_ret
              exact ⟨by rw [← HF.out]; rfl, rfl⟩
            · rw [if_neg h6] at HF
              have d6 : decide (6 < m + 1) = false := decide_eq_false h6
              have d6i : decide ((6 : Int) < ((m : Int) + 1)) = false := decide_eq_false (by have := of_decide_eq_false d6; omega)
              have h6' : m + 1 ≤ 6 := by omega
              clear h6
              go_wp2_with fail
              refine ⟨⟨k + 1, m + 1, by omega, by omega, by push_cast; rfl, by push_cast; rfl, Lib.hid HF.out, by first | rfl | trivial⟩, by simp only [intOf]; omega⟩
        · rw [if_neg ha] at HF
          have ha' : ¬ ((97 ≤ p[k].toNat ∧ p[k].toNat ≤ 122) ∨ (48 ≤ p[k].toNat ∧ p[k].toNat ≤ 57)) := by
            unfold alnum at ha
            simpa only [Bool.or_eq_true, Bool.and_eq_true, decide_eq_true_eq] using ha
          have HA := Lib.hid ha'
          clear ha ha'
          have fin : ∀ e : Ending, e = .returned (.bool false) → e = .returned (.bool B) := fun e he => by rw [he, ← HF.out]
          by_cases h1 : 97 ≤ p[k].toNat
          · have g1 : decide (97 ≤ p[k].toNat) = true := decide_eq_true h1
            have g1i : decide ((97 : Int) ≤ ((p[k].toNat : Nat) : Int)) = true := decide_eq_true (by have := of_decide_eq_true g1; omega)
            have g2 : decide (p[k].toNat ≤ 122) = false := decide_eq_false (by have := HA.out; omega)
            have g2i : decide (((p[k].toNat : Nat) : Int) ≤ (122 : Int)) = false := decide_eq_false (by have := of_decide_eq_false g2; omega)
            have g3 : decide (48 ≤ p[k].toNat) = true := decide_eq_true (by omega)
            have g3i : decide ((48 : Int) ≤ ((p[k].toNat : Nat) : Int)) = true := decide_eq_true (by have := of_decide_eq_true g3; omega)
            have g4 : decide (p[k].toNat ≤ 57) = false := decide_eq_false (by have := HA.out; omega)
            have g4i : decide (((p[k].toNat : Nat) : Int) ≤ (57 : Int)) = false := decide_eq_false (by have := of_decide_eq_false g4; omega)
            clear h1
            go_wp2_with fail
            rw [Exit.noGoto_ret]
            go_ret
            exact ⟨fin _ rfl, rfl⟩
          · have g1 : decide (97 ≤ p[k].toNat) = false := decide_eq_false h1
            have g1i : decide ((97 : Int) ≤ ((p[k].toNat : Nat) : Int)) = false := decide_eq_false (by have := of_decide_eq_false g1; omega)
            by_cases h2 : 48 ≤ p[k].toNat
            · have g3 : decide (48 ≤ p[k].toNat) = true := decide_eq_true h2
              have g3i : decide ((48 : Int) ≤ ((p[k].toNat : Nat) : Int)) = true := decide_eq_true (by have := of_decide_eq_true g3; omega)
              have g4 : decide (p[k].toNat ≤ 57) = false := decide_eq_false (by have := HA.out; omega)
              have g4i : decide (((p[k].toNat : Nat) : Int) ≤ (57 : Int)) = false := decide_eq_false (by have := of_decide_eq_false g4; omega)
              clear h1 h2
              go_wp2_with fail
              rw [Exit.noGoto_ret]
              go_ret
              exact ⟨fin _ rfl, rfl⟩
            · have g3 : decide (48 ≤ p[k].toNat) = false := decide_eq_false h2
              have g3i : decide ((48 : Int) ≤ ((p[k].toNat : Nat) : Int)) = false := decide_eq_false (by have := of_decide_eq_false g3; omega)
              clear h1 h2
              go_wp2_with fail
              rw [Exit.noGoto_ret]
              go_ret
              exact ⟨fin _ rfl, rfl⟩
    · obtain rfl : k = p.size := by omega
      have hl : p.data.toList.drop p.size = [] := List.drop_of_length_le (by simp)
      have HF := Lib.hid hf.out
      rw [hl] at HF
      unfold fineL at HF
      clear hf hl
      by_cases hm0 : 0 < m
      · have d1 : decide (0 < m) = true := decide_eq_true hm0
        have d1i : decide ((0 : Int) < ((m : Nat) : Int)) = true := decide_eq_true (by have := of_decide_eq_true d1; omega)
        have d2 : decide (m ≤ 6) = true := decide_eq_true hm
        have d2i : decide (((m : Nat) : Int) ≤ (6 : Int)) = true := decide_eq_true (by have := of_decide_eq_true d2; omega)
        clear hm0
        go_wp2_with fail
        rw [Exit.noGoto_ret]
        go_ret
        refine ⟨?_, rfl⟩
        rw [← HF.out, decide_eq_true (by have := of_decide_eq_true d1; omega)]
        rfl
      · have d1 : decide (0 < m) = false := decide_eq_false hm0
        have d1i : decide ((0 : Int) < ((m : Nat) : Int)) = false := decide_eq_false (by have := of_decide_eq_false d1; omega)
        clear hm0
        go_wp2_with fail
        rw [Exit.noGoto_ret]
        go_ret
        refine ⟨?_, rfl⟩
        rw [← HF.out, decide_eq_false (by have := of_decide_eq_false d1; omega)]
        rfl
set_option maxRecDepth 100000 in
set_option maxHeartbeats 1000000 in
set_option maxRecDepth 100000 in
theorem count_one (s : ByteArray) (c : UInt8) (w : World) :
    Calls Tryz.prog 56 #[.string s, .string ⟨#[c]⟩] w fun e w' => e = .returned (.int .i64 (Lib.countByte s.data.toList c)) ∧ w = w' := by
  go_enter Tryz.func56, Tryz.ntmps56
  go_wp2
  rw [run_callFunc_extern Tryz.func93 (by kernel_rfl) (by kernel_rfl) (by kernel_rfl) (e := Extern.BytealgCount.count) (by kernel_rfl), Lib.run_countString]
  simp only [Result.andThen]
  rw [Oper.upon_value]
  go_wp2
  go_ret
  exact ⟨rfl, rfl⟩
theorem size_zero {p : ByteArray} (h : p.size = 0) : p = ⟨#[]⟩ := by
  obtain ⟨⟨l⟩⟩ := p
  have : l = [] := List.eq_nil_of_length_eq_zero h
  subst this; rfl
theorem empty_ne {p : ByteArray} (h : ¬ p.size = 0) : p.toList ≠ [] := by
  rw [ByteArray.toList_eq]
  intro e
  apply h
  have : p.data.toList.length = 0 := by rw [e]; rfl
  exact this
set_option maxRecDepth 100000 in
set_option maxHeartbeats 1000000 in
theorem valid_any (p : ByteArray) (w : World) (hp : p.size ≤ 140737488355328) : Calls Tryz.prog 29 #[.string p] w fun e w' => e = .returned (.bool (pathOK p)) ∧ w = w' := by
  by_cases h0 : p.size = 0
  · obtain rfl := size_zero h0
    go_enter Tryz.func29, Tryz.ntmps29
    go_wp2_with fail
    go_ret
    exact ⟨rfl, rfl⟩
  · obtain ⟨B, hB⟩ : ∃ B, B = fineL p.data.toList 0 := ⟨_, rfl⟩
    obtain ⟨n, hn⟩ : ∃ n, n = p.data.toList.count 47 := ⟨_, rfl⟩
    have hv : pathOK p = (B && decide (n < 4)) := by unfold pathOK; rw [decide_eq_false h0, hB, hn]; rfl
    have hne : p.toList ≠ [] := empty_ne h0
    have hne2 : p.toList.isEmpty = false := by simpa using hne
    rw [hv]
    have HB := Lib.hid hB
    have HN := Lib.hid hn
    clear hv hB hn h0
    cases B with
    | true =>
      by_cases h4 : n < 4
      · have d : decide (n < 4) = true := decide_eq_true h4
        have di : decide ((n : Int) < 4) = true := decide_eq_true (by omega)
        rw [d]
        clear h4
        go_enter Tryz.func29, Tryz.ntmps29
        go_wp2_with fail
        refine (fine_any p _ hp).mono ?_
        rintro e w1 ⟨rfl, rfl⟩
        rw [← HB.out]
        go_wp2_with fail
        refine (count_one p 47 _).mono ?_
        rintro e w1 ⟨rfl, rfl⟩
        have hc : Lib.countByte p.data.toList 47 = n := HN.out.symm
        rw [hc]
        go_wp2_with fail
        go_ret
        exact ⟨rfl, rfl⟩
      · have d : decide (n < 4) = false := decide_eq_false h4
        have di : decide ((n : Int) < 4) = false := decide_eq_false (by omega)
        rw [d]
        clear h4
        go_enter Tryz.func29, Tryz.ntmps29
        go_wp2_with fail
        refine (fine_any p _ hp).mono ?_
        rintro e w1 ⟨rfl, rfl⟩
        rw [← HB.out]
        go_wp2_with fail
        refine (count_one p 47 _).mono ?_
        rintro e w1 ⟨rfl, rfl⟩
        have hc : Lib.countByte p.data.toList 47 = n := HN.out.symm
        rw [hc]
        go_wp2_with fail
        go_ret
        exact ⟨rfl, rfl⟩
    | false =>
      go_enter Tryz.func29, Tryz.ntmps29
      go_wp2_with fail
      refine (fine_any p _ hp).mono ?_
      rintro e w1 ⟨rfl, rfl⟩
      rw [← HB.out]
      go_wp2_with fail
      go_ret
      exact ⟨rfl, rfl⟩
/-- A path covers itself; the root covers all. -/
theorem covers_any (p q : ByteArray) (w : World) (hq : q.size ≤ 140737488355328) (hv : pathOK q = true) (hp : p = ⟨#[]⟩ ∨ p = q) : Calls Tryz.prog 161 #[.string p, .string q] w fun e w' => e = .returned (.bool true) ∧ w = w' := by
  by_cases h0 : p.size = 0
  · obtain rfl := size_zero h0
    clear h0 hp
    go_enter Tryz.func161, Tryz.ntmps161
    go_wp2_with fail
    refine (valid_any ⟨#[]⟩ _ (by decide)).mono ?_
    rintro e w1 ⟨rfl, rfl⟩
    rw [show pathOK ⟨#[]⟩ = true from rfl]
    go_wp2_with fail
    refine (valid_any q _ hq).mono ?_
    rintro e w1 ⟨rfl, rfl⟩
    rw [hv]
    go_wp2_with fail
    go_ret
    exact ⟨rfl, rfl⟩
  · obtain rfl : p = q := by
      rcases hp with rfl | rfl
      · exact absurd rfl h0
      · rfl
    have hne : p.toList ≠ [] := empty_ne h0
    have hne2 : p.toList.isEmpty = false := by simpa using hne
    have hpp : (p.toList == p.toList) = true := by simp
    clear hp h0
    go_enter Tryz.func161, Tryz.ntmps161
    go_wp2_with fail
    refine (valid_any p _ hq).mono ?_
    rintro e w1 ⟨rfl, rfl⟩
    rw [hv]
    go_wp2_with fail
    refine (valid_any p _ hq).mono ?_
    rintro e w1 ⟨rfl, rfl⟩
    rw [hv]
    go_wp2_with fail
    go_ret
    exact ⟨rfl, rfl⟩
end Go.Proofs.YtphfekkllibphaaGreatDoor

namespace Go.Proofs.YtphfekkllibphaaGreatDoor.Ev
open Go Go.RowKit

noncomputable def crcV : List V → Nat → (Nat → Bool) → Bool :=
  List.rec (fun x K => K x) (fun v _ ih x K => match v with | .i .u8 (.ofNat c) => forceN (nbyte (Nat.xor x c)) fun x => ih x K | _ => false)
noncomputable def sameXs : List V → List V → Bool := List.rec (fun m => match m with | [] => true | _ => false) (fun a _ ih m => match m with | [] => false | b :: m => (sameX a b).rec false (ih m))
noncomputable def findSum (l : List V) : Option V := (tab.sums.find? fun q => sameXs q.1 l).map (·.2)
noncomputable def ovSum : List V → H → KT → Bool := fun args h K => match args with
  | [v] => firstK 1 v h fun l _ => (l.all isByte && Nat.ble l.length 1000000).rec false (match findSum l with | some r => K r h | none => crcV l 4294967295 fun x => retI .u32 (.ofNat (Nat.xor x 4294967295)) h K)
  | _ => false
noncomputable def ltN (a b : Nat) : Bool := Nat.ble (Nat.succ a) b
noncomputable def fineV : List V → Nat → (Bool → Bool) → Bool := List.rec (fun k K => K (ltN 0 k && Nat.ble k 6)) (fun v _ ih k K => match v with
  | .i .u8 (.ofNat c) => (Nat.beq c 47).rec (((Nat.ble 97 c && Nat.ble c 122) || (Nat.ble 48 c && Nat.ble c 57)).rec (K false) ((ltN 6 (Nat.succ k)).rec (ih (Nat.succ k) K) (K false))) ((Nat.beq k 0).rec (ih 0 K) (K false))
  | _ => false)
noncomputable def ovFine : List V → H → KT → Bool := fun args h K => match args with
  | [.s l] => (Nat.ble l.length 1000000).rec false (fineV l 0 fun b => K (.b b) h)
  | _ => false
noncomputable def ovValid (C : CT) (f : FuncId) : List V → H → KT → Bool := fun args h K => match args with
  | [.sv a] => (match tab.paths.find? fun q => Nat.beq q.1 a with | some q => K (.b q.2) h | none => false)
  | args => C f args h K
/-- The first place of a byte in a text. -/
noncomputable def idxByte (c : Nat) : List V → Nat → (Option Nat → Bool) → Bool := List.rec (fun _ K => K none) (fun v _ ih i K => match v with | .i .u8 (.ofNat n) => (Nat.beq n c).rec (ih (Nat.succ i) K) (K (some i)) | _ => false)
noncomputable def cntByte (c : Nat) : List V → Nat → (Nat → Bool) → Bool := List.rec (fun i K => K i) (fun v _ ih i K => match v with | .i .u8 (.ofNat n) => (Nat.beq n c).rec (ih i K) (ih (Nat.succ i) K) | _ => false)
noncomputable def ovIndexByte : List V → H → KT → Bool := fun args h K => match args with
  | [.s l, .i .u8 (.ofNat c)] => (ltN c 256).rec false (idxByte c l 0 fun r => match r with | some i => K (.i .i64 (.ofNat i)) h | none => K (.i .i64 (.negSucc 0)) h)
  | _ => false
noncomputable def ovCount : List V → H → KT → Bool := fun args h K => match args with
  | [.s l, .i .u8 (.ofNat c)] => (ltN c 256).rec false (cntByte c l 0 fun i => K (.i .i64 (.ofNat i)) h)
  | _ => false
section
variable {ρ : Ren} {h : H} {K : KT} {w : World}
theorem nstep_eq (x : Nat) : nstep x = cstep x := by
  unfold nstep cstep
  have h2 : Nat.mod x 2 = 0 ∨ Nat.mod x 2 = 1 := by have : x % 2 < 2 := Nat.mod_lt _ (by decide); show x % 2 = 0 ∨ x % 2 = 1; omega
  rcases h2 with e | e
  · rw [e]
    have e' : x % 2 = 0 := e
    rw [if_neg (by omega), Nat.xor_zero]
    rfl
  · rw [e]
    have e' : x % 2 = 1 := e
    rw [if_pos e']
    rfl
theorem nbyte_eq (x : Nat) : nbyte x = citer 8 x := by
  unfold nbyte
  simp only [nstep_eq]
  rfl
theorem ncrc_eq (us : List UInt8) : ∀ x : Nat, ncrc (us.map fun u => u.toNat) x = crc x us := by
  induction us with
  | nil => exact fun x => rfl
  | cons u us ih =>
    intro x
    show ncrc (us.map fun u => u.toNat) (nbyte (Nat.xor x u.toNat)) = crc (cbyte x u) us
    rw [ih, nbyte_eq]
    rfl
theorem nsum_eq (us : List UInt8) : nsum (us.map fun u => u.toNat) = sumOf us := by
  unfold nsum sumOf
  rw [ncrc_eq]
  rfl
theorem crcV_ok : ∀ (l : List V) (x : Nat) (K : Nat → Bool), crcV l x K = true → ∃ ns : List Nat, l = ns.map (fun n => .i .u8 (.ofNat n)) ∧ K (ncrc ns x) = true := by
  intro l
  induction l with
  | nil => exact fun x K hk => ⟨[], rfl, hk⟩
  | cons v l ih =>
    intro x K hk
    have hk9 : (match (generalizing := false) v with | .i .u8 (.ofNat c) => forceN (nbyte (Nat.xor x c)) fun x => crcV l x K | _ => false) = true := hk
    clear hk
    split at hk9 <;> first | (cases hk9; done) | skip
    rename_i c
    have hk := hk9
    rw [forceN_eq] at hk
    obtain ⟨ns, e, hk⟩ := ih _ K hk
    exact ⟨c :: ns, by rw [e]; rfl, hk⟩
theorem toNat_list (ns : List Nat) (h : ∀ n ∈ ns, n < 256) : (ns.map UInt8.ofNat).map (fun u => u.toNat) = ns := by
  rw [List.map_map]
  conv => rhs; rw [← List.map_id ns]
  refine List.map_congr_left fun n hn => ?_
  show (UInt8.ofNat n).toNat = n
  rw [UInt8.toNat_ofNat']
  exact Nat.mod_eq_of_lt (h n hn)
theorem sameXs_eq : ∀ {l m : List V}, sameXs l m = true → l = m := by
  intro l
  induction l with
  | nil =>
    intro m hk
    cases m with
    | nil => rfl
    | cons b m => cases hk
  | cons a l ih =>
    intro m hk
    cases m with
    | nil => cases hk
    | cons b m =>
      obtain ⟨h1, h2⟩ := recB_false (show (Bool.rec false (sameXs l m) (sameX a b) : Bool) = true from hk)
      rw [sameX_eq h1, ih h2]
theorem sameXs_at : ∀ {l m : List V}, sameXs l m = true → ∀ (i : Nat) (v : V), l[i]? = some v → sameX v v = true := by
  intro l
  induction l with
  | nil => intro m _ i v hv; simp at hv
  | cons a l ih =>
    intro m hk i v hv
    cases m with
    | nil => cases hk
    | cons b m =>
      obtain ⟨h1, h2⟩ := recB_false (show (Bool.rec false (sameXs l m) (sameX a b) : Bool) = true from hk)
      cases i with
      | zero =>
        injection hv with hv
        subst hv
        have e := sameX_eq h1
        rw [← e] at h1
        exact h1
      | succ i => exact ih h2 i v (by simpa using hv)
/-- A slice's first cells. -/
theorem firstK_cells {size : Nat} {v : V} {K : List V → Nat → Bool} (hk : firstK size v h K = true) : ∃ l n, K l n = true ∧ l.length = n * size ∧
    ∀ (ρ : Ren) (w : World) (x : Value), Sat ρ h w → VR ρ v x → ∃ (cs : List Value) (a : Option Addr) (c : Nat), x = .slice a n c ∧ LR ρ l cs ∧ (0 < n * size → ∃ b o, a = some ⟨b, o, none⟩ ∧ ∀ (j : Nat) (y : Value), cs[j]? = some y → w.cell? ⟨b, o + j, none⟩ = some y) := by
  unfold firstK at hk
  split at hk <;> first | (cases hk; done) | skip
  · refine ⟨_, _, hk, by simp, fun ρ w x s hv => ?_⟩
    cases hv
    exact ⟨[], none, 0, rfl, .nil, fun h => absurd h (by simp)⟩
  · refine ⟨_, _, hk, by simp, fun ρ w x s hv => ?_⟩
    cases hv with
    | se a c => exact ⟨[], some a, c, rfl, .nil, fun h => absurd h (by simp)⟩
  · rename_i b o len cap
    obtain ⟨n, tr, e, g, hb, hk⟩ := O.c_inv hk
    rw [forceN_eq] at hk
    obtain ⟨h1, hk⟩ := recB_false hk
    rw [T.takeK_eq] at hk
    refine ⟨_, _, hk, by rw [T.take_length]; rfl, fun ρ w x s hv => ?_⟩
    obtain ⟨c', e1, hd, _, _⟩ := hv.sl_inv
    obtain ⟨cs, hl, hc⟩ := s.take hb (show o + len * size ≤ n from ble_le h1)
    exact ⟨cs, _, c', e1, hl, fun _ => ⟨_, _, rfl, fun j y hy => by rw [← add_at]; exact hc j y hy⟩⟩
set_option maxRecDepth 100000 in
theorem ovSum_ok (hO : Own Tryz.prog) {args : List V} (hk : ovSum args h K = true) : ∃ v h', K v h' = true ∧ Stands Tryz.prog 196 args h v h' := by
  unfold ovSum at hk
  split at hk <;> first | (cases hk; done) | skip
  rename_i v
  obtain ⟨l, n, hk, hln, hr⟩ := firstK_cells hk
  obtain ⟨g, hk⟩ := recB_false hk
  obtain ⟨g1, g2⟩ := and2 g
  rw [Nat.mul_one] at hln
  have main : ∀ r : V, (∀ (ρ : Ren) (ns : List Nat), (∀ m ∈ ns, m < 256) → LR ρ l ((ns.map fun n => (Int.ofNat n)).map (Value.int .u8)) → VR ρ r (.int .u32 (nsum ns : Nat))) → Stands Tryz.prog 196 [v] h r h := by
    intro r hrr
    refine Stands.of_pure hO Tryz.func196 rfl (fun ρ w xs s hl => ?_)
    obtain ⟨x, rfl, hx⟩ := hl.one_inv
    obtain ⟨cs, a, c, rfl, hlr, hcell⟩ := hr ρ w x s hx
    obtain ⟨ns, n1, n3⟩ := bytes_of g1 hlr
    have hlen : (ns.map UInt8.ofNat).length = n := by
      have := hlr.1
      rw [n3] at this
      simp at this ⊢
      omega
    have hcall := sum_len (ns.map UInt8.ofNat) a c w (by rw [hlen, ← hln]; exact ble_le g2) (fun h0 => by
      obtain ⟨b, o, e, hc⟩ := hcell (by rw [Nat.mul_one, ← hlen]; exact h0)
      refine ⟨b, o, e, fun j y hy => hc j _ ?_⟩
      rw [n3]
      rw [List.getElem?_map] at hy
      obtain ⟨m, hm, rfl⟩ := Option.map_eq_some_iff.1 hy
      rw [List.getElem?_map, List.getElem?_map, hm]
      show some (Value.int .u8 (m : Int)) = some (Value.int .u8 ((UInt8.ofNat m).toNat : Int))
      rw [UInt8.toNat_ofNat', Nat.mod_eq_of_lt (n1 m (List.mem_of_getElem? hm))])
    rw [hlen] at hcall
    refine hcall.mono ?_
    rintro e w' ⟨rfl, rfl⟩
    refine ⟨_, rfl, ?_, Below.refl _ _⟩
    rw [← nsum_eq, toNat_list ns n1]
    exact hrr ρ ns n1 (by rw [← n3]; exact hlr)
  split at hk
  · rename_i r hf
    unfold findSum at hf
    obtain ⟨q, hq, rfl⟩ := Option.map_eq_some_iff.1 hf
    have hsx := List.find?_some hq
    have hqm := List.mem_of_find?_eq_some hq
    refine ⟨_, _, hk, main _ (fun ρ ns n1 hl => ?_)⟩
    have hql := sameXs_eq hsx
    refine (ρ.ok.sums q hqm ns ?_ (fun i v c hv hc => ?_)).vr
    · rw [hql, hl.1]; simp
    · refine sameX_rv (b := v) (sameXs_at hsx i v hv) (hl.2 i v _ (by rw [← hql]; exact hv) ?_)
      rw [List.getElem?_map, List.getElem?_map, hc]
      rfl
  · obtain ⟨ns, e, hk⟩ := crcV_ok _ _ _ hk
    rw [retI_eq] at hk
    refine ⟨_, _, hk, main _ (fun ρ ns' n1 hl => ?_)⟩
    have hns : ns = ns' := by
      have h1 := hl.1
      rw [e] at h1
      simp at h1
      refine List.ext_getElem? fun i => ?_
      by_cases hi : i < ns.length
      · have h2 := hl.2 i (.i .u8 (.ofNat ns[i])) (.int .u8 (ns'[i]'(by omega) : Nat)) (by rw [e, List.getElem?_map, List.getElem?_eq_getElem hi]; rfl) (by rw [List.getElem?_map, List.getElem?_map, List.getElem?_eq_getElem (by omega)]; rfl)
        have h3 := h2.i_inv
        injection h3 with _ h3
        have h4 : (ns'[i]'(by omega) : Nat) = ns[i] := by
          have : ((ns'[i]'(by omega) : Nat) : Int) = ((ns[i] : Nat) : Int) := h3
          exact_mod_cast this
        rw [List.getElem?_eq_getElem hi, List.getElem?_eq_getElem (by omega), h4]
      · rw [List.getElem?_eq_none (by omega), List.getElem?_eq_none (by omega)]
    rw [← hns]
    exact .i _ _
end
end Go.Proofs.YtphfekkllibphaaGreatDoor.Ev
