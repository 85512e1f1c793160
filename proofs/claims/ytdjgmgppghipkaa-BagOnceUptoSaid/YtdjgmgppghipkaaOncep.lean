/- BagOnce's plain law: names, what is out, what is in. -/
import Derived.Test.YtdjgmgppghipkaaState
namespace Go.Proofs.Ytdjgmgppghipkaa
open Go.RowKit

/-- The name of the call with the number i: four bytes. -/
def nameOf (i : Nat) : List UInt8 := [UInt8.ofNat i, UInt8.ofNat (i / 256), UInt8.ofNat (i / 65536), UInt8.ofNat (i / 16777216)]
theorem nameOf_inj {i j : Nat} (hi : i < 1048577) (hj : j < 1048577) (h : nameOf i = nameOf j) : i = j := by
  simp only [nameOf, List.cons.injEq, and_true] at h
  obtain ⟨h0, h1, h2, _⟩ := h
  have e0 := congrArg UInt8.toNat h0
  have e1 := congrArg UInt8.toNat h1
  have e2 := congrArg UInt8.toNat h2
  simp at e0 e1 e2
  omega
theorem nameOf_length (i : Nat) : (nameOf i).length = 4 := rfl

abbrev Sent := List (Nat × Bool)
def pktOf (i : Nat) : Pkt := ⟨i, 0, nameOf i⟩
/-- What is still in the bag. -/
def live (S : Sent) : List Pkt := (S.filter (fun x => !x.2)).map (fun x => pktOf x.1)
def gone (S : Sent) : Nat := (S.filter (fun x => x.2)).length
/-- The numbers rise, and are below j. -/
def Rise (S : Sent) (j : Nat) : Prop := S.Pairwise (fun a b => a.1 < b.1) ∧ ∀ x ∈ S, x.1 < j

theorem Rise.nil : Rise [] 0 := ⟨List.Pairwise.nil, fun _ h => (by cases h)⟩
theorem Rise.mono {S : Sent} {j j' : Nat} (h : Rise S j) (hj : j ≤ j') : Rise S j' := ⟨h.1, fun x hx => Nat.lt_of_lt_of_le (h.2 x hx) hj⟩
theorem Rise.snoc {S : Sent} {j : Nat} (h : Rise S j) : Rise (S ++ [(j, false)]) (j + 1) := by
  refine ⟨List.pairwise_append.2 ⟨h.1, by simp, fun a ha b hb => ?_⟩, fun x hx => ?_⟩
  · obtain rfl := List.mem_singleton.1 hb
    exact h.2 a ha
  · rcases List.mem_append.1 hx with hx | hx
    · have := h.2 x hx; omega
    · obtain rfl := List.mem_singleton.1 hx
      exact Nat.lt_succ_self _
theorem live_snoc (S : Sent) (j : Nat) : live (S ++ [(j, false)]) = live S ++ [pktOf j] := by simp [live]
theorem gone_snoc (S : Sent) (j : Nat) : gone (S ++ [(j, false)]) = gone S := by simp [gone]
theorem live_length (S : Sent) : (live S).length + gone S = S.length := by
  induction S with
  | nil => rfl
  | cons x S ih =>
    obtain ⟨i, o⟩ := x
    cases o <;> simp [live, gone] at ih ⊢ <;> omega

/-- The k-th of what is in stands at a place of its own in the list; when it is marked, it is out. -/
theorem live_at {S : Sent} : ∀ {k : Nat} {q : Pkt}, (live S)[k]? = some q → ∃ m x, S[m]? = some (x, false) ∧ q = pktOf x ∧ live (S.set m (x, true)) = (live S).eraseIdx k ∧ gone (S.set m (x, true)) = gone S + 1 := by
  induction S with
  | nil => intro k q h; simp [live] at h
  | cons y S ih =>
    intro k q h
    obtain ⟨i, o⟩ := y
    cases o with
    | true =>
      have h' : (live S)[k]? = some q := by simpa [live] using h
      obtain ⟨m, x, h1, h2, h3, h4⟩ := ih h'
      refine ⟨m + 1, x, by simpa using h1, h2, ?_, ?_⟩
      · simpa [live] using h3
      · simp [gone] at h4 ⊢; omega
    | false =>
      cases k with
      | zero =>
        have h' : q = pktOf i := by simpa [live] using h.symm
        exact ⟨0, i, rfl, h', by simp [live], by simp [gone]⟩
      | succ k =>
        have h' : (live S)[k]? = some q := by simpa [live] using h
        obtain ⟨m, x, h1, h2, h3, h4⟩ := ih h'
        refine ⟨m + 1, x, by simpa using h1, h2, ?_, ?_⟩
        · simpa [live] using h3
        · simp [gone] at h4 ⊢; omega

/-- Marking leaves the numbers. -/
theorem Rise.set {S : Sent} {j m x : Nat} {o o' : Bool} (h : Rise S j) (hm : S[m]? = some (x, o)) : Rise (S.set m (x, o')) j := by
  have e : (S.set m (x, o')).map Prod.fst = S.map Prod.fst := by
    rw [List.map_set]
    apply List.ext_getElem?
    intro i
    rw [List.getElem?_set]
    split
    · subst_vars
      obtain ⟨l1, e1⟩ := List.getElem?_eq_some_iff.1 hm
      simp [l1, e1]
    · rfl
  have hp : (S.map Prod.fst).Pairwise (· < ·) := List.pairwise_map.2 h.1
  refine ⟨List.pairwise_map.1 (e ▸ hp), fun y hy => ?_⟩
  have : y.1 ∈ S.map Prod.fst := e ▸ List.mem_map_of_mem hy
  obtain ⟨z, hz, e⟩ := List.mem_map.1 this
  rw [← e]
  exact h.2 z hz
/-- Two places bear two numbers. -/
theorem Rise.ne {S : Sent} {j m m' x x' : Nat} {o o' : Bool} (h : Rise S j) (h1 : S[m]? = some (x, o)) (h2 : S[m']? = some (x', o')) (hne : m ≠ m') : x ≠ x' := by
  obtain ⟨l1, e1⟩ := List.getElem?_eq_some_iff.1 h1
  obtain ⟨l2, e2⟩ := List.getElem?_eq_some_iff.1 h2
  have hp := List.pairwise_iff_getElem.1 h.1
  rcases Nat.lt_or_gt_of_ne hne with hlt | hlt
  · have := hp m m' l1 l2 hlt; rw [e1, e2] at this; simp at this; omega
  · have := hp m' m l2 l1 hlt; rw [e1, e2] at this; simp at this; omega
theorem Rise.lt {S : Sent} {j m x : Nat} {o : Bool} (h : Rise S j) (h1 : S[m]? = some (x, o)) : x < j := h.2 _ (List.mem_of_getElem? h1)

/-- What is left behind the first k of the list. -/
theorem live_drop_out {S : Sent} {k x : Nat} (h : S[k]? = some (x, true)) : live (S.drop k) = live (S.drop (k + 1)) := by
  obtain ⟨l1, e1⟩ := List.getElem?_eq_some_iff.1 h
  rw [List.drop_eq_getElem_cons l1, e1]; simp [live]
theorem live_drop_in {S : Sent} {k x : Nat} (h : S[k]? = some (x, false)) : live (S.drop k) = pktOf x :: live (S.drop (k + 1)) := by
  obtain ⟨l1, e1⟩ := List.getElem?_eq_some_iff.1 h
  rw [List.drop_eq_getElem_cons l1, e1]; simp [live]
end Go.Proofs.Ytdjgmgppghipkaa
