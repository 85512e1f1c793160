/- MEMORY, for whatever program: what a call may have written ('Mod'), bytes that a slice reads as ('BytesV'), a slice's cells. No law of the program in sight. -/
import Derived.Test.YtphfekkllibphaaGreatDoorRows
import Derived.WalkKit
import Derived.Lib.Hide
import Derived.Laws.BytesString
import Derived.Laws.IdiomStrings
import Derived.Deep.Draws
import Derived.Deep.MidRow
import Derived.Laws.MakeOwn
import Derived.Laws.Entries
namespace Go.Proofs.YtphfekkllibphaaGreatDoor
open Go.RowKit

/-- What is in F may have been written, and new blocks laid; all else is as it was. -/
structure Mod (F : Nat → Prop) (w w' : World) : Prop where
  os : w'.os = w.os
  tape : w'.tape = w.tape
  output : w'.output = w.output
  size : w.heap.size ≤ w'.heap.size
  block : ∀ k, k < w.heap.size → ¬ F k → w'.heap[k]? = w.heap[k]?

theorem Mod.refl (F : Nat → Prop) (w : World) : Mod F w w := ⟨rfl, rfl, rfl, Nat.le_refl _, fun _ _ _ => rfl⟩
theorem Mod.of_below {F : Nat → Prop} {w w' : World} (h : Below w.heap.size w w') : Mod F w w' := ⟨h.os, h.tape, h.output, h.size, fun k hk _ => h.block k hk⟩
theorem Mod.trans {F G : Nat → Prop} {w w1 w2 : World} (h : Mod F w w1) (h' : Mod G w1 w2) (hG : ∀ k, k < w.heap.size → G k → F k) : Mod F w w2 :=
  ⟨h'.os.trans h.os, h'.tape.trans h.tape, h'.output.trans h.output, Nat.le_trans h.size h'.size, fun k hk hF => (h'.block k (Nat.lt_of_lt_of_le hk h.size) (fun g => hF (hG k hk g))).trans (h.block k hk hF)⟩
theorem Mod.mono {F G : Nat → Prop} {w w' : World} (h : Mod F w w') (hG : ∀ k, k < w.heap.size → F k → G k) : Mod G w w' :=
  ⟨h.os, h.tape, h.output, h.size, fun k hk g => h.block k hk (fun f => g (hG k hk f))⟩
theorem Mod.drew {F : Nat → Prop} {w w' : World} (h : Mod F w w') : Mod F w w'.drew := ⟨h.os, h.tape, h.output, h.size, h.block⟩
theorem Mod.drewN {F : Nat → Prop} {w w' : World} (h : Mod F w w') (n : Nat) : Mod F w (w'.drewN n) := ⟨h.os, h.tape, h.output, h.size, h.block⟩
theorem Mod.alloc {F : Nat → Prop} {w w' : World} (h : Mod F w w') (o : Obj) : Mod F w (w'.alloc o) :=
  ⟨h.os, h.tape, h.output, Nat.le_trans h.size (by simp), fun k hk hF => (Below.heap_alloc w' o k (Nat.lt_of_lt_of_le hk h.size)).trans (h.block k hk hF)⟩
theorem Mod.setCell {F : Nat → Prop} {w w' : World} (h : Mod F w w') {p : Addr} (hp : p.block < w.heap.size → F p.block) (u : Value) : Mod F w (w'.setCell p u) :=
  ⟨h.os, h.tape, h.output, by simpa [World.setCell] using h.size, fun k hk hF => (Below.heap_setCell w' p u k (fun e => hF (e ▸ hp (e ▸ hk)))).trans (h.block k hk hF)⟩
theorem Mod.below {F : Nat → Prop} {w w1 w2 : World} (h : Mod F w w1) (h' : Below w1.heap.size w1 w2) : Mod F w w2 := h.trans (Mod.of_below (F := F) h') (fun _ _ f => f)
theorem Mod.grown {F : Nat → Prop} {w w1 w2 : World} {row : Option Nat} (h : Mod F w w1) (hg : w1.grownBy w2 row) (hr : ∀ k, row = some k → k < w.heap.size → F k) : Mod F w w2 :=
  ⟨hg.os.trans h.os, hg.tape.trans h.tape, hg.output.trans h.output, Nat.le_trans h.size hg.size, fun k hk hF => (hg.block k (Nat.lt_of_lt_of_le hk h.size) (fun e => hF (hr k e.symm hk))).trans (h.block k hk hF)⟩
theorem Mod.cell {F : Nat → Prop} {w w' : World} (h : Mod F w w') {p : Addr} (hp : p.block < w.heap.size) (hF : ¬ F p.block) : w'.cell? p = w.cell? p := World.cell?_of_block (h.block p.block hp hF)
/-- Nothing old may have been written: 'Below'. -/
theorem Mod.toBelow {F : Nat → Prop} {w w' : World} {B : Nat} (h : Mod F w w') (hB : B ≤ w.heap.size) (hF : ∀ k, F k → B ≤ k) : Below B w w' :=
  ⟨h.os, h.tape, h.output, h.size, fun k hk => h.block k (Nat.lt_of_lt_of_le hk hB) (fun f => by have := hF k f; omega)⟩

/-! ### Bytes -/
def B8 (c : UInt8) : Value := .int .u8 (c.toNat : Int)
/-- v is a slice that reads as these bytes, in blocks of G. -/
def BytesV (G : Nat → Prop) (w : World) (v : Value) (l : List UInt8) : Prop :=
  ∃ (a : Option Addr) (c : Nat), v = .slice a l.length c ∧ l.length ≤ c ∧ c ≤ maxLen ∧ (a = none → c = 0) ∧
    (0 < l.length → ∃ b o, a = some ⟨b, o, none⟩ ∧ b < w.heap.size ∧ G b ∧ ∀ (j : Nat) (x : UInt8), l[j]? = some x → w.cell? ⟨b, o + j, none⟩ = some (B8 x))

theorem BytesV.keep {G : Nat → Prop} {w w' : World} {v : Value} {l : List UInt8} (h : BytesV G w v l) (hk : ∀ k, k < w.heap.size → G k → w'.heap[k]? = w.heap[k]?) (hs : w.heap.size ≤ w'.heap.size) : BytesV G w' v l := by
  obtain ⟨a, c, h1, h2, h3, h4, h5⟩ := h
  refine ⟨a, c, h1, h2, h3, h4, fun hl => ?_⟩
  obtain ⟨b, o, e, hb, hG, hc⟩ := h5 hl
  exact ⟨b, o, e, Nat.lt_of_lt_of_le hb hs, hG, fun j x hx => (World.cell?_of_block (w := w) (a := ⟨b, o + j, none⟩) (hk b hb hG)).trans (hc j x hx)⟩
theorem BytesV.mono {G G' : Nat → Prop} {w : World} {v : Value} {l : List UInt8} (h : BytesV G w v l) (hG : ∀ k, k < w.heap.size → G k → G' k) : BytesV G' w v l := by
  obtain ⟨a, c, h1, h2, h3, h4, h5⟩ := h
  refine ⟨a, c, h1, h2, h3, h4, fun hl => ?_⟩
  obtain ⟨b, o, e, hb, hg, hc⟩ := h5 hl
  exact ⟨b, o, e, hb, hG b hb hg, hc⟩
theorem BytesV.mod {F G : Nat → Prop} {w w' : World} {v : Value} {l : List UInt8} (h : BytesV G w v l) (hm : Mod F w w') (hd : ∀ k, k < w.heap.size → G k → ¬ F k) : BytesV G w' v l :=
  h.keep (fun k hk hG => hm.block k hk (hd k hk hG)) hm.size
theorem BytesV.below {G : Nat → Prop} {w w' : World} {v : Value} {l : List UInt8} (h : BytesV G w v l) (hm : Below w.heap.size w w') : BytesV G w' v l :=
  h.keep (fun k hk _ => hm.block k hk) hm.size
theorem BytesV.nil (G : Nat → Prop) (w : World) : BytesV G w (.slice none 0 0) [] := ⟨none, 0, rfl, Nat.le_refl _, Nat.zero_le _, fun _ => rfl, fun h => by simp at h⟩

theorem lt_of_heap {w : World} {d : Nat} {o : Obj} (h : w.heap[d]? = some o) : d < w.heap.size := by
  rcases Nat.lt_or_ge d w.heap.size with h' | h'
  · exact h'
  · rw [Array.getElem?_eq_none h'] at h; cases h
/-- A block of its own that holds just these bytes. -/
theorem BytesV.of_block {w : World} {d : Nat} {t : TypeId} {fr : Nat × Nat} {l : List UInt8} {c : Nat} {cs : Array Value} (h : w.heap[d]? = some (.cells cs t fr)) (hcs : ∀ (j : Nat) (x : UInt8), l[j]? = some x → cs[j]? = some (B8 x)) (hc : l.length ≤ c) (hm : c ≤ maxLen) :
    BytesV (fun k => k = d) w (.slice (some ⟨d, 0, none⟩) l.length c) l := by
  refine ⟨_, c, rfl, hc, hm, fun h => (by cases h), fun _ => ⟨d, 0, rfl, lt_of_heap h, rfl, fun j x hx => ?_⟩⟩
  rw [Nat.zero_add]
  simp [World.cell?, h, hcs j x hx]

theorem BytesV.length_le {G : Nat → Prop} {w : World} {v : Value} {l : List UInt8} (h : BytesV G w v l) : l.length ≤ maxLen := by
  obtain ⟨a, c, _, h2, h3, _⟩ := h; omega

/-- string(b) -/
def strOf (l : List UInt8) : ByteArray := ⟨l.toArray⟩
theorem BytesV.string {P : Program} {G : Nat → Prop} {w : World} {v : Value} {l : List UInt8} (h : BytesV G w v l) (src dst e : TypeId) (hs : P.underlying src = some (.slice e)) (he : P.underlying e = some (.int .u8)) (hd : P.underlying dst = some .string)
    {w' : World} (hk : ∀ k, k < w.heap.size → G k → w'.heap[k]? = w.heap[k]?) : (convert src dst v).run P w' = .ok (.string (strOf l)) w' := by
  obtain ⟨a, c, rfl, h2, h3, h4, h5⟩ := h
  by_cases hl : 0 < l.length
  · obtain ⟨b, o, rfl, hb, hG, hc⟩ := h5 hl
    refine run_convert_bytes_back w' src dst e ⟨b, o, none⟩ c l hs he hd (fun j hj => ?_)
    rw [Addr.add_mid]
    have := (World.cell?_of_block (w := w) (a := ⟨b, o + j, none⟩) (hk b hb hG)).trans (hc j l[j] (List.getElem?_eq_getElem hj))
    exact this
  · obtain rfl : l = [] := List.eq_nil_of_length_eq_zero (by omega)
    cases a with
    | none =>
      have hc0 := h4 rfl
      subst hc0
      rw [run_convert_bytes_string w' src dst e _ _ _ hs he hd]
      simp [Conv.bytesToString, strOf, Sem.run_pure]; rfl
    | some ad =>
      refine run_convert_bytes_back w' src dst e ad c [] hs he hd (fun j hj => by simp at hj)


theorem heap_at (w : World) (o : Obj) (n : Nat) (h : n = w.heap.size) : (w.alloc o).heap[n]? = some o := by
  subst h
  show (w.heap.push o)[w.heap.size]? = _
  simp
theorem heap_past (w : World) (o : Obj) (n : Nat) (h : n < w.heap.size) : (w.alloc o).heap[n]? = w.heap[n]? := Below.heap_alloc w o n h

/-- A block that is known whole: its cells, its marks. -/
theorem blk_cell {w : World} {g : Nat} {cs : Array Value} {t : TypeId} {fr : Nat × Nat} (h : w.heap[g]? = some (.cells cs t fr)) (i : Nat) : w.cell? ⟨g, i, none⟩ = cs[i]? := by simp [World.cell?, h]
theorem blk_free {w : World} {g : Nat} {cs : Array Value} {t : TypeId} (h : w.heap[g]? = some (.cells cs t (0, 0))) (i : Nat) : w.frozen? ⟨g, i, none⟩ = false := by simp [World.frozen?, h]
theorem blk3 {w : World} {g : Nat} {a b c : Value} {t : TypeId} (h : w.heap[g]? = some (.cells #[a, b, c] t (0, 0))) :
    w.cell? ⟨g, 0, none⟩ = some a ∧ w.cell? ⟨g, 1, none⟩ = some b ∧ w.cell? ⟨g, 2, none⟩ = some c ∧ w.frozen? ⟨g, 0, none⟩ = false ∧ w.frozen? ⟨g, 1, none⟩ = false ∧ w.frozen? ⟨g, 2, none⟩ = false :=
  ⟨blk_cell h 0, blk_cell h 1, blk_cell h 2, blk_free h 0, blk_free h 1, blk_free h 2⟩
theorem blk_set {w : World} {g : Nat} {cs : Array Value} {t : TypeId} {fr : Nat × Nat} (h : w.heap[g]? = some (.cells cs t fr)) (i : Nat) (u : Value) : (w.setCell ⟨g, i, none⟩ u).heap[g]? = some (.cells (cs.setIfInBounds i u) t fr) := by
  simp [World.setCell, Array.getElem?_modify, h]
theorem blk_far {w : World} {g : Nat} {o : Obj} (h : w.heap[g]? = some o) {p : Addr} (hp : g ≠ p.block) (u : Value) : (w.setCell p u).heap[g]? = some o := (Below.heap_setCell w p u g hp).trans h
theorem blk_alloc {w : World} {g : Nat} {o : Obj} (h : w.heap[g]? = some o) (o' : Obj) : (w.alloc o').heap[g]? = some o := (Below.heap_alloc w o' g (lt_of_heap h)).trans h

/-- make([]T, n, c), for every world. (Turned from the kit's small lemmas.) -/
theorem run_make_rowN {P : Program} (t e : TypeId) (i : TypeInfo) (z : Value) (ht : P.underlying t = some (.slice e)) (hi : P.info? e = some i) (hz : i.zero = some z)
    (kl kc : IntKind) (n c : Nat) (hnc : n ≤ c) (hbytes : i.bytes * c ≤ 281474976710656) (h63 : c ≤ 9223372036854775807) (w : World) :
    (Instr.makeSlice t (.int kl (n : Int)) (.int kc (c : Int))).run P w = .ok (.slice (some ⟨w.heap.size, 0, none⟩) n c) (w.alloc (.cells (madeCells z.cells (c * i.size)) e)) := by
  have hb : (i.bytes : Int) * (c : Int) ≤ 281474976710656 := by
    have h : ((i.bytes * c : Nat) : Int) ≤ 281474976710656 := by omega
    rwa [Int.natCast_mul] at h
  have hr := run_make (P := P) w t e i z ht hi hz kl kc n c (by omega) (by omega) hb (by omega)
  simp only [Int.toNat_natCast] at hr
  exact hr
theorem madeCells_one (z : Value) (n : Nat) : madeCells #[z] n = (List.replicate n z).toArray := by
  apply Array.toList_inj.1
  rw [toList_madeCells_one]
end Go.Proofs.YtphfekkllibphaaGreatDoor

