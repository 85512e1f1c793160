/- Many cells of a block are written. -/
import Derived.Test.YtchdfogifhfclaaGreatDoorMem
namespace Go.Proofs.YtchdfogifhfclaaGreatDoor
open Go.RowKit

/-- Many cells of a block. -/
def setL (cs : Array Value) (o : Nat) : List Value → Array Value
  | [] => cs
  | v :: l => setL (cs.setIfInBounds o v) (o + 1) l
theorem setL_size : ∀ (l : List Value) (cs : Array Value) (o : Nat), (setL cs o l).size = cs.size
  | [], _, _ => rfl
  | v :: l, cs, o => by rw [setL, setL_size l]; simp
theorem setL_out : ∀ (l : List Value) (cs : Array Value) (o i : Nat), i < o ∨ o + l.length ≤ i → (setL cs o l)[i]? = cs[i]?
  | [], _, _, _, _ => rfl
  | v :: l, cs, o, i, h => by
    rw [setL, setL_out l _ _ i (by simp at h; omega), Array.getElem?_setIfInBounds, if_neg (by simp at h; omega)]
theorem setL_in : ∀ (l : List Value) (cs : Array Value) (o j : Nat), o + l.length ≤ cs.size → j < l.length → (setL cs o l)[o + j]? = l[j]?
  | [], _, _, _, _, h => by simp at h
  | v :: l, cs, o, j, hs, hj => by
    rw [setL]
    cases j with
    | zero =>
      simp only [List.length_cons] at hs
      show (setL (cs.setIfInBounds o v) (o + 1) l)[o]? = _
      rw [setL_out l (cs.setIfInBounds o v) (o + 1) o (.inl (Nat.lt_succ_self o)), Array.getElem?_setIfInBounds, if_pos rfl, if_pos (by omega)]
      simp
    | succ j =>
      simp only [List.length_cons] at hs hj
      rw [show o + (j + 1) = (o + 1) + j from by omega, setL_in l _ _ j (by simp; omega) (by omega)]
      simp
theorem setCells_heap : ∀ (l : List Value) (w : World) (p o : Nat) (cs : Array Value) (t : TypeId) (fr : Nat × Nat), w.heap[p]? = some (.cells cs t fr) → (w.setCells p o l).heap[p]? = some (.cells (setL cs o l) t fr)
  | [], _, _, _, _, _, _, h => h
  | v :: l, w, p, o, cs, t, fr, h => by
    rw [World.setCells, setL]
    exact setCells_heap l _ p (o + 1) _ t fr (blk_set h o v)
theorem setCells_other : ∀ (l : List Value) (w : World) (p o k : Nat), k ≠ p → (w.setCells p o l).heap[k]? = w.heap[k]?
  | [], _, _, _, _, _ => rfl
  | v :: l, w, p, o, k, h => by
    rw [World.setCells, setCells_other l _ p (o + 1) k h]
    exact Below.heap_setCell _ _ _ k h
theorem setCells_mod : ∀ (l : List Value) (w : World) (p o : Nat), (w.setCells p o l).os = w.os ∧ (w.setCells p o l).tape = w.tape ∧ (w.setCells p o l).output = w.output ∧ (w.setCells p o l).heap.size = w.heap.size
  | [], _, _, _ => ⟨rfl, rfl, rfl, rfl⟩
  | v :: l, w, p, o => by
    obtain ⟨h1, h2, h3, h4⟩ := setCells_mod l (w.setCell ⟨p, o, none⟩ v) p (o + 1)
    rw [World.setCells]
    exact ⟨h1, h2, h3, by rw [h4]; simp [World.setCell]⟩
theorem Mod.setCells {F : Nat → Prop} {w w' : World} (h : Mod F w w') {p : Nat} (hp : p < w.heap.size → F p) (o : Nat) (l : List Value) : Mod F w (w'.setCells p o l) := by
  obtain ⟨h1, h2, h3, h4⟩ := setCells_mod l w' p o
  exact ⟨h1.trans h.os, h2.trans h.tape, h3.trans h.output, by rw [h4]; exact h.size, fun k hk hF => (setCells_other l w' p o k (fun e => hF (e ▸ hp (e ▸ hk)))).trans (h.block k hk hF)⟩
end Go.Proofs.YtchdfogifhfclaaGreatDoor

