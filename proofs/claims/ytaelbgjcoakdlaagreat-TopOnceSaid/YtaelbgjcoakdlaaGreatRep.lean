/- The kept answers: the state, the memory. -/
import Derived.Test.YtaelbgjcoakdlaaGreatListM
namespace Go.Proofs.YtaelbgjcoakdlaaGreat
open Go.RowKit Go.Maps

/-- An answer. -/
def repM (boot seq id : Nat) : Ms := ⟨2, 0, 1, boot, seq, 0, 0, 0, id, 0⟩
structure Sl where
  s : Nat
  id : Nat
def Sl.msg (boot : Nat) (q : Sl) : Ms := if q.s = 0 then zeroM else repM boot q.s q.id
def Sl.zero : Sl := ⟨0, 0⟩
/-- What is kept of the one asker. -/
structure Rep where
  boot : Nat
  low : Nat
  slots : Nat → Sl
/-- Its cells. -/
def slotCells (boot : Nat) (q : Sl) : List Value := .int .i64 (q.s : Int) :: (q.msg boot).cells.toList
theorem slotCells_len (boot : Nat) (q : Sl) : (slotCells boot q).length = 17 := rfl
structure RepAt (w : World) (p : Nat) (r : Rep) : Prop where
  h : ∃ cs, w.heap[p]? = some (.cells cs 68 (0, 0)) ∧ cs.size = 1104 ∧ cs[138]? = some (.int .i64 (r.boot : Int)) ∧ cs[139]? = some (.int .i64 (r.low : Int)) ∧ ∀ k, k < 8 → ∀ i, i < 17 → cs[140 + k * 17 + i]? = (slotCells r.boot (r.slots k))[i]?
theorem RepAt.lt {w : World} {p : Nat} {r : Rep} (h : RepAt w p r) : p < w.heap.size := by obtain ⟨cs, h1, _⟩ := h.h; exact lt_of_heap h1
theorem RepAt.keep {w w' : World} {p : Nat} {r : Rep} (h : RepAt w p r) (hk : w'.heap[p]? = w.heap[p]?) : RepAt w' p r := by obtain ⟨cs, h1, h2⟩ := h.h; exact ⟨⟨cs, hk.trans h1, h2⟩⟩
theorem RepAt.below {w w' : World} {p : Nat} {r : Rep} (h : RepAt w p r) (hb : Below w.heap.size w w') : RepAt w' p r := h.keep (hb.block p h.lt)
theorem RepAt.boot {w : World} {p : Nat} {r : Rep} (h : RepAt w p r) : w.cell? ⟨p, 138, none⟩ = some (.int .i64 (r.boot : Int)) := by obtain ⟨cs, h1, h2, h3, h4, h5⟩ := h.h; rw [blk_cell h1]; exact h3
theorem RepAt.low {w : World} {p : Nat} {r : Rep} (h : RepAt w p r) : w.cell? ⟨p, 139, none⟩ = some (.int .i64 (r.low : Int)) := by obtain ⟨cs, h1, h2, h3, h4, h5⟩ := h.h; rw [blk_cell h1]; exact h4
theorem RepAt.slot {w : World} {p : Nat} {r : Rep} (h : RepAt w p r) {k i : Nat} (hk : k < 8) (hi : i < 17) : w.cell? ⟨p, 140 + k * 17 + i, none⟩ = (slotCells r.boot (r.slots k))[i]? := by obtain ⟨cs, h1, h2, h3, h4, h5⟩ := h.h; rw [blk_cell h1]; exact h5 k hk i hi
theorem RepAt.free {w : World} {p : Nat} {r : Rep} (h : RepAt w p r) (i : Nat) : w.frozen? ⟨p, i, none⟩ = false := by obtain ⟨cs, h1, _⟩ := h.h; exact blk_free h1 i
/-- A cell is written. -/
theorem RepAt.set {w : World} {p : Nat} {r r' : Rep} (h : RepAt w p r) {cs' : Array Value → Array Value} {w' : World} (hw : ∀ cs, w.heap[p]? = some (.cells cs 68 (0, 0)) → w'.heap[p]? = some (.cells (cs' cs) 68 (0, 0)))
    (hc : ∀ cs, cs.size = 1104 → cs[138]? = some (.int .i64 (r.boot : Int)) → cs[139]? = some (.int .i64 (r.low : Int)) → (∀ k, k < 8 → ∀ i, i < 17 → cs[140 + k * 17 + i]? = (slotCells r.boot (r.slots k))[i]?) →
      (cs' cs).size = 1104 ∧ (cs' cs)[138]? = some (.int .i64 (r'.boot : Int)) ∧ (cs' cs)[139]? = some (.int .i64 (r'.low : Int)) ∧ ∀ k, k < 8 → ∀ i, i < 17 → (cs' cs)[140 + k * 17 + i]? = (slotCells r'.boot (r'.slots k))[i]?) : RepAt w' p r' := by
  obtain ⟨cs, h1, h2, h3, h4, h5⟩ := h.h
  exact ⟨⟨cs' cs, hw cs h1, hc cs h2 h3 h4 h5⟩⟩
/-- Many cells of a block. -/
def setL (cs : Array Value) (o : Nat) : List Value → Array Value
  | [] => cs
  | v :: l => setL (cs.setIfInBounds o v) (o + 1) l
theorem setL_size : ∀ (l : List Value) (cs : Array Value) (o : Nat), (setL cs o l).size = cs.size
  | [], _, _ => rfl
  | v :: l, cs, o => by rw [setL, setL_size l]; simp
theorem setL_out : ∀ (l : List Value) (cs : Array Value) (o i : Nat), i < o ∨ o + l.length ≤ i → (setL cs o l)[i]? = cs[i]?
  | [], _, _, _, _ => rfl
  | v :: l, cs, o, i, h => by
    rw [setL, setL_out l _ _ i (by simp at h; omega), Array.getElem?_setIfInBounds, if_neg (by simp at h; omega)]
theorem setL_in : ∀ (l : List Value) (cs : Array Value) (o j : Nat), o + l.length ≤ cs.size → j < l.length → (setL cs o l)[o + j]? = l[j]?
  | [], _, _, _, _, h => by simp at h
  | v :: l, cs, o, j, hs, hj => by
    rw [setL]
    cases j with
    | zero =>
      simp only [List.length_cons] at hs
      show (setL (cs.setIfInBounds o v) (o + 1) l)[o]? = _
      rw [setL_out l (cs.setIfInBounds o v) (o + 1) o (.inl (Nat.lt_succ_self o)), Array.getElem?_setIfInBounds, if_pos rfl, if_pos (by omega)]
      simp
    | succ j =>
      simp only [List.length_cons] at hs hj
      rw [show o + (j + 1) = (o + 1) + j from by omega, setL_in l _ _ j (by simp; omega) (by omega)]
      simp
theorem setCells_heap : ∀ (l : List Value) (w : World) (p o : Nat) (cs : Array Value) (t : TypeId) (fr : Nat × Nat), w.heap[p]? = some (.cells cs t fr) → (w.setCells p o l).heap[p]? = some (.cells (setL cs o l) t fr)
  | [], _, _, _, _, _, _, h => h
  | v :: l, w, p, o, cs, t, fr, h => by
    rw [World.setCells, setL]
    exact setCells_heap l _ p (o + 1) _ t fr (blk_set h o v)
theorem setCells_other : ∀ (l : List Value) (w : World) (p o k : Nat), k ≠ p → (w.setCells p o l).heap[k]? = w.heap[k]?
  | [], _, _, _, _, _ => rfl
  | v :: l, w, p, o, k, h => by
    rw [World.setCells, setCells_other l _ p (o + 1) k h]
    exact Below.heap_setCell _ _ _ k h
theorem setCells_mod : ∀ (l : List Value) (w : World) (p o : Nat), (w.setCells p o l).os = w.os ∧ (w.setCells p o l).tape = w.tape ∧ (w.setCells p o l).output = w.output ∧ (w.setCells p o l).heap.size = w.heap.size
  | [], _, _, _ => ⟨rfl, rfl, rfl, rfl⟩
  | v :: l, w, p, o => by
    obtain ⟨h1, h2, h3, h4⟩ := setCells_mod l (w.setCell ⟨p, o, none⟩ v) p (o + 1)
    rw [World.setCells]
    exact ⟨h1, h2, h3, by rw [h4]; simp [World.setCell]⟩
theorem Mod.setCells {F : Nat → Prop} {w w' : World} (h : Mod F w w') {p : Nat} (hp : p < w.heap.size → F p) (o : Nat) (l : List Value) : Mod F w (w'.setCells p o l) := by
  obtain ⟨h1, h2, h3, h4⟩ := setCells_mod l w' p o
  exact ⟨h1.trans h.os, h2.trans h.tape, h3.trans h.output, by rw [h4]; exact h.size, fun k hk hF => (setCells_other l w' p o k (fun e => hF (e ▸ hp (e ▸ hk)))).trans (h.block k hk hF)⟩
/-- A slot is written whole. -/
theorem RepAt.setSlot {w : World} {p : Nat} {r : Rep} (h : RepAt w p r) {k : Nat} (hk : k < 8) (q : Sl) : RepAt (w.setCells p (140 + k * 17) (slotCells r.boot q)) p { r with slots := fun j => if j = k then q else r.slots j } := by
  refine h.set (cs' := fun cs => setL cs (140 + k * 17) (slotCells r.boot q)) (fun cs hc => setCells_heap _ _ _ _ _ _ _ hc) (fun cs h1 h2 h3 h4 => ⟨by rw [setL_size]; exact h1, ?_, ?_, fun j hj i hi => ?_⟩)
  · rw [setL_out _ _ _ _ (.inl (by omega))]; exact h2
  · rw [setL_out _ _ _ _ (.inl (by omega))]; exact h3
  · by_cases e : j = k
    · subst e
      rw [setL_in _ _ _ _ (by rw [slotCells_len]; omega) (by rw [slotCells_len]; omega)]
      simp
    · rw [setL_out _ _ _ _ (by rw [slotCells_len]; omega), h4 j hj i hi]
      simp [e]
/-- Number and window are written. -/
theorem RepAt.setEra {w : World} {p : Nat} {r : Rep} (h : RepAt w p r) (boot low : Nat) (hz : boot = r.boot ∨ ∀ k, k < 8 → (r.slots k).s = 0) : RepAt ((w.setCell ⟨p, 138, none⟩ (.int .i64 (boot : Int))).setCell ⟨p, 139, none⟩ (.int .i64 (low : Int))) p { r with boot := boot, low := low } := by
  refine h.set (cs' := fun cs => (cs.setIfInBounds 138 (.int .i64 (boot : Int))).setIfInBounds 139 (.int .i64 (low : Int))) (fun cs hc => blk_set (blk_set hc 138 _) 139 _) (fun cs h1 h2 h3 h4 => ⟨by simp [h1], ?_, ?_, fun j hj i hi => ?_⟩)
  · simp [Array.getElem?_setIfInBounds, h1]
  · simp [Array.getElem?_setIfInBounds, h1]
  · rw [Array.getElem?_setIfInBounds, if_neg (by omega), Array.getElem?_setIfInBounds, if_neg (by omega), h4 j hj i hi]
    rcases hz with rfl | hz
    · rfl
    · simp [slotCells, Sl.msg, hz j hj]
/-- All slots are emptied. -/
theorem RepAt.wipe {w : World} {p : Nat} {r : Rep} (h : RepAt w p r) (zl : List Value) (hl : zl.length = 136) (hz : ∀ k, k < 8 → ∀ i, i < 17 → zl[k * 17 + i]? = (slotCells 0 Sl.zero)[i]?) : RepAt (w.setCells p 140 zl) p { r with slots := fun _ => Sl.zero } := by
  refine h.set (cs' := fun cs => setL cs 140 zl) (fun cs hc => setCells_heap _ _ _ _ _ _ _ hc) (fun cs h1 h2 h3 h4 => ⟨by rw [setL_size]; exact h1, ?_, ?_, fun j hj i hi => ?_⟩)
  · rw [setL_out _ _ _ _ (.inl (by omega))]; exact h2
  · rw [setL_out _ _ _ _ (.inl (by omega))]; exact h3
  · rw [Nat.add_assoc, setL_in zl cs 140 (j * 17 + i) (by omega) (by omega), hz j hj i hi]
    rfl
theorem RepAt.there {w : World} {p : Nat} {r : Rep} (h : RepAt w p r) {o n : Nat} (ho : o + n ≤ 1104) : w.there p o n := by
  intro j hj
  obtain ⟨cs, h1, h2, _⟩ := h.h
  refine ⟨?_, blk_free h1 _⟩
  rw [blk_cell h1, Array.getElem?_eq_getElem (by omega)]
  rfl
/-- The two eras. -/
def Rep.turn (r : Rep) (boot low : Nat) : Rep :=
  if boot = r.boot then (if low ≤ r.low then r else { boot := boot, low := low, slots := fun k => if (r.slots k).s < low then Sl.zero else r.slots k })
  else { boot := boot, low := low, slots := fun _ => Sl.zero }
end Go.Proofs.YtaelbgjcoakdlaaGreat
