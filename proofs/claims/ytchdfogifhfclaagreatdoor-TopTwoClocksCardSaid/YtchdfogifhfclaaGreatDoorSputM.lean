/- Maps of no entry and of one: look-up, update, len, as run equations.  The path set: its tree; grown, New.  The path set: Put into an empty set. -/
import Derived.Test.YtchdfogifhfclaaGreatDoorSegs
import Derived.Maps.Own
import Derived.Maps.RangeWalk
import Derived.Maps.OwnOps
namespace Go.Proofs.YtchdfogifhfclaaGreatDoor
open Go.RowKit Go.Maps Go.MapKept
open Go.ChangeMaps (setBlock)

section
variable {P : Program} {k e t : TypeId} {w : World} {b c n : Nat} {key v z : Value} {kl : Lit}
theorem mlook_none (K : Keyed P k) (ht : P.underlying t = some (.map k e)) (hz : (zeroValue e).run P w = .ok z w) (hb : w.heap[b]? = some (.map #[] c)) (hkey : keyOf P k key = some kl) (ok : Bool) : (Instr.lookup t (.map (some b)) key ok).run P w = .ok (if ok then .tuple #[z, .bool false] else z) w := by
  rcases K.find w hkey [] (by simp) with ⟨h1, _⟩ | ⟨j, e0, _, h2, _⟩
  · simp [Instr.lookup, run_underlying ht, MapKept.run_getObj_map hb, K.check w _ hkey, h1, hz, Result.andThen]
  · simp at h2
theorem mlook_one (K : Keyed P k) (ht : P.underlying t = some (.map k e)) (hb : w.heap[b]? = some (.map #[⟨key, v, n⟩] c)) (hkey : keyOf P k key = some kl) (ok : Bool) : (Instr.lookup t (.map (some b)) key ok).run P w = .ok (if ok then .tuple #[v, .bool true] else v) w := by
  rcases K.find w hkey [⟨key, v, n⟩] (by simp [hkey]) with ⟨_, h2⟩ | ⟨j, e0, h1, h2, h3⟩
  · exact absurd rfl (h2 _ List.mem_cons_self)
  · have hj : j = 0 ∧ e0 = ⟨key, v, n⟩ := by
      cases j with
      | zero => simp at h2; exact ⟨rfl, h2.symm⟩
      | succ j => simp at h2
    obtain ⟨rfl, rfl⟩ := hj
    simp [Instr.lookup, run_underlying ht, MapKept.run_getObj_map hb, K.check w _ hkey, h1, Result.andThen]
theorem mupd_none (K : Keyed P k) (ht : P.underlying t = some (.map k e)) (hb : w.heap[b]? = some (.map #[] c)) (hkey : keyOf P k key = some kl) : (Instr.mapUpdate t (.map (some b)) key v).run P w = .ok () (setBlock w b (.map #[⟨key, v, c⟩] (c + 1))) := by
  rcases K.find w hkey [] (by simp) with ⟨h1, _⟩ | ⟨j, e0, _, h2, _⟩
  · simp [Instr.mapUpdate, run_underlying ht, MapKept.run_getObj_map hb, K.check w _ hkey, h1, run_setObj_map _ hb, Result.andThen, setBlock]
  · simp at h2
theorem mupd_one {v0 : Value} (K : Keyed P k) (ht : P.underlying t = some (.map k e)) (hb : w.heap[b]? = some (.map #[⟨key, v0, n⟩] c)) (hkey : keyOf P k key = some kl) : (Instr.mapUpdate t (.map (some b)) key v).run P w = .ok () (setBlock w b (.map #[⟨key, v, n⟩] c)) := by
  rcases K.find w hkey [⟨key, v0, n⟩] (by simp [hkey]) with ⟨_, h2⟩ | ⟨j, e0, h1, h2, h3⟩
  · exact absurd rfl (h2 _ List.mem_cons_self)
  · have hj : j = 0 ∧ e0 = ⟨key, v0, n⟩ := by
      cases j with
      | zero => simp at h2; exact ⟨rfl, h2.symm⟩
      | succ j => simp at h2
    obtain ⟨rfl, rfl⟩ := hj
    simp [Instr.mapUpdate, run_underlying ht, MapKept.run_getObj_map hb, K.check w _ hkey, h1, K.stays w hkey, run_setObj_map _ hb, Result.andThen, setBlock]
theorem mlen {es : Array MapEntry} (ht : P.underlying t = some (.map k e)) (hb : w.heap[b]? = some (.map es c)) (ty : TypeId) : (Builtin.len_ #[t] ty #[.map (some b)]).run P w = .ok (.int .i64 (es.size : Int)) w := by
  simp [Builtin.len_, run_underlying ht, MapKept.run_getObj_map hb, Result.andThen, goInt]
theorem set_same {o o' : Obj} (h : w.heap[b]? = some o) : (setBlock w b o').heap[b]? = some o' := by
  have := lt_of_heap h
  simp [setBlock, this]
theorem set_other {o' : Obj} {j : Nat} (h : j ≠ b) : (setBlock w b o').heap[j]? = w.heap[j]? := by
  simp [setBlock, Array.getElem?_setIfInBounds, Ne.symm h]
theorem set_size {o' : Obj} : (setBlock w b o').heap.size = w.heap.size := by simp [setBlock]
theorem Mod.set {F : Nat → Prop} {w0 : World} (h : Mod F w0 w) (hb : b < w0.heap.size → F b) (o' : Obj) : Mod F w0 (setBlock w b o') :=
  ⟨h.os, h.tape, h.output, by rw [set_size]; exact h.size, fun j hj hF => (set_other (b := b) (j := j) (fun e => hF (by subst e; exact hb hj))).trans (h.block j hj hF)⟩
end
theorem keyI {x : Int} (h : -9223372036854775808 ≤ x ∧ x ≤ 9223372036854775807) : keyOf Tryz.prog 3 (.int .i64 x) = some (.int .i64 x) := keyOf_int_mk Tryz.underlying3 (WalkArith.wf_i64 h)
theorem keyS {s : ByteArray} (h : s.size ≤ 140737488355328) : keyOf Tryz.prog 9 (.string s) = some (.string s.data.toList) := by
  have hs : s.size ≤ maxLen := by unfold maxLen; omega
  have hu := Tryz.underlying9
  simp [keyOf, hu, mapKey, hs]
end Go.Proofs.YtchdfogifhfclaaGreatDoor
namespace Go.Proofs.YtchdfogifhfclaaGreatDoor
open Go.RowKit Go.Maps Go.MapKept
open Go.ChangeMaps (setBlock)

/-- A path and a mode: the one entry. -/
structure Ent where
  p : ByteArray
  m : Int
def entC (e : Ent) : Array Value := #[.int .i64 1, .string e.p, .int .i64 e.m, .int .i64 1]
def entries : Option Ent → Array MapEntry
  | none => #[]
  | some e => #[⟨.int .i64 1, .agg (entC e), 0⟩]
/-- A branch without children. -/
def Leaf (G : Nat → Prop) (w : World) (b : Nat) (o : Option Ent) : Prop := ∃ em cm c, w.heap[b]? = some (.cells #[.map (some em), .map (some cm)] 207 (0, 0)) ∧ w.heap[em]? = some (.map (entries o) (entries o).size) ∧ w.heap[cm]? = some (.map #[] c) ∧ G b ∧ G em ∧ G cm ∧ em ≠ cm
/-- The way down. -/
def Chain (G : Nat → Prop) (w : World) : List ByteArray → Nat → Nat → Prop
  | [], b, b' => b = b'
  | s :: r, b, b' => ∃ em cm n c' x, w.heap[b]? = some (.cells #[.map (some em), .map (some cm)] 207 (0, 0)) ∧ w.heap[em]? = some (.map #[] 0) ∧ w.heap[cm]? = some (.map #[⟨.string s, .pointer (some ⟨x, 0, none⟩), n⟩] c') ∧ (G b ∧ G em ∧ G cm) ∧ Chain G w r x b'
theorem Leaf.keep {G : Nat → Prop} {w w' : World} {b : Nat} {o : Option Ent} (h : Leaf G w b o) (hk : ∀ k, k < w.heap.size → G k → w'.heap[k]? = w.heap[k]?) : Leaf G w' b o := by
  obtain ⟨em, cm, c, h1, h2, h3, h4, h5, h6, h7⟩ := h
  exact ⟨em, cm, c, (hk _ (lt_of_heap h1) h4).trans h1, (hk _ (lt_of_heap h2) h5).trans h2, (hk _ (lt_of_heap h3) h6).trans h3, h4, h5, h6, h7⟩
theorem Leaf.mono {G G' : Nat → Prop} {w : World} {b : Nat} {o : Option Ent} (h : Leaf G w b o) (hG : ∀ k, k < w.heap.size → G k → G' k) : Leaf G' w b o := by
  obtain ⟨em, cm, c, h1, h2, h3, h4, h5, h6, h7⟩ := h
  exact ⟨em, cm, c, h1, h2, h3, hG _ (lt_of_heap h1) h4, hG _ (lt_of_heap h2) h5, hG _ (lt_of_heap h3) h6, h7⟩
theorem Chain.keep {G : Nat → Prop} {w w' : World} (hk : ∀ k, k < w.heap.size → G k → w'.heap[k]? = w.heap[k]?) : ∀ {l : List ByteArray} {b b' : Nat}, Chain G w l b b' → Chain G w' l b b'
  | [], _, _, h => h
  | _ :: _, _, _, ⟨em, cm, n, c', x, h1, h2, h3, h4, h5⟩ => ⟨em, cm, n, c', x, (hk _ (lt_of_heap h1) h4.1).trans h1, (hk _ (lt_of_heap h2) h4.2.1).trans h2, (hk _ (lt_of_heap h3) h4.2.2).trans h3, h4, Chain.keep hk h5⟩
theorem Chain.mono {G G' : Nat → Prop} {w : World} (hG : ∀ k, k < w.heap.size → G k → G' k) : ∀ {l : List ByteArray} {b b' : Nat}, Chain G w l b b' → Chain G' w l b b'
  | [], _, _, h => h
  | _ :: _, _, _, ⟨em, cm, n, c', x, h1, h2, h3, h4, h5⟩ => ⟨em, cm, n, c', x, h1, h2, h3, ⟨hG _ (lt_of_heap h1) h4.1, hG _ (lt_of_heap h2) h4.2.1, hG _ (lt_of_heap h3) h4.2.2⟩, Chain.mono hG h5⟩
theorem Chain.snoc {G : Nat → Prop} {w : World} {s : ByteArray} {b' x em cm n c' : Nat} (h1 : w.heap[b']? = some (.cells #[.map (some em), .map (some cm)] 207 (0, 0))) (h2 : w.heap[em]? = some (.map #[] 0)) (h3 : w.heap[cm]? = some (.map #[⟨.string s, .pointer (some ⟨x, 0, none⟩), n⟩] c')) (hG : G b' ∧ G em ∧ G cm) :
    ∀ {l : List ByteArray} {b : Nat}, Chain G w l b b' → Chain G w (l ++ [s]) b x
  | [], _, h => by
    have h : _ = b' := h
    subst h
    exact ⟨em, cm, n, c', x, h1, h2, h3, hG, rfl⟩
  | _ :: _, _, ⟨em', cm', n', d', y, g1, g2, g3, g4, g5⟩ => ⟨em', cm', n', d', y, g1, g2, g3, g4, Chain.snoc h1 h2 h3 hG g5⟩
def grownW (w : World) : World := ((w.alloc (.map #[] 0)).alloc (.map #[] 0)).alloc (.cells #[.map (some w.heap.size), .map (some (w.heap.size + 1))] 207)
def GrownP (w : World) (e : Ending) (w' : World) : Prop := e = .returned (.pointer (some ⟨w.heap.size + 2, 0, none⟩)) ∧ w' = grownW w
theorem grown_any (w : World) : Calls Tryz.prog 83 #[] w (GrownP w) := by
  have hmm := @run_makeMap Tryz.prog
  go_enter Tryz.func83, Tryz.ntmps83
  go_wp2_with fail
  go_ret
  exact ⟨by simp, by simp [grownW]⟩
theorem grownW_size (w : World) : (grownW w).heap.size = w.heap.size + 3 := by simp [grownW]
theorem grownW_below (w : World) : Below w.heap.size w (grownW w) := (((Below.refl _ _).alloc (Nat.le_refl _) _).alloc (by simp) _).alloc (by simp; omega) _
theorem grownW_leaf (w : World) : Leaf (fun k => w.heap.size ≤ k) (grownW w) (w.heap.size + 2) none := by
  refine ⟨w.heap.size, w.heap.size + 1, 0, heap_at _ _ _ (by simp), ?_, ?_, by omega, by omega, by omega, by omega⟩
  · unfold grownW
    rw [heap_past _ _ _ (by simp; omega), heap_past _ _ _ (by simp), heap_at _ _ _ rfl]
    rfl
  · unfold grownW
    rw [heap_past _ _ _ (by simp), heap_at _ _ _ (by simp)]
/-- A set at p, in blocks of F: empty, or of the one entry. -/
structure SetAt (F : Nat → Prop) (p : Nat) (o : Option Ent) (w : World) : Prop where
  head : ∃ root wm es c, w.heap[p]? = some (.cells #[.pointer (some ⟨root, 0, none⟩), .map (some wm)] 148 (0, 0)) ∧ w.heap[wm]? = some (.map es c) ∧ (F p ∧ F wm) ∧
    (match o with
      | none => es = #[] ∧ Leaf (fun k => F k ∧ k ≠ p ∧ k ≠ wm) w root none
      | some e => ∃ b, Chain F w (segs e.p) root b ∧ Leaf F w b (some e))
theorem SetAt.keep {F : Nat → Prop} {p : Nat} {o : Option Ent} {w w' : World} (h : SetAt F p o w) (hk : ∀ k, k < w.heap.size → F k → w'.heap[k]? = w.heap[k]?) : SetAt F p o w' := by
  obtain ⟨root, wm, es, c, h1, h2, h3, h4⟩ := h.head
  refine ⟨root, wm, es, c, (hk _ (lt_of_heap h1) h3.1).trans h1, (hk _ (lt_of_heap h2) h3.2).trans h2, h3, ?_⟩
  cases o with
  | none => exact ⟨h4.1, h4.2.keep (fun k hl hf => hk k hl hf.1)⟩
  | some e => obtain ⟨b, h5, h6⟩ := h4; exact ⟨b, h5.keep hk, h6.keep hk⟩
theorem SetAt.below {F : Nat → Prop} {p : Nat} {o : Option Ent} {w w' : World} (h : SetAt F p o w) (hb : Below w.heap.size w w') : SetAt F p o w' := h.keep (fun k hk _ => hb.block k hk)
theorem SetAt.mono {F F' : Nat → Prop} {p : Nat} {o : Option Ent} {w : World} (h : SetAt F p o w) (hF : ∀ k, k < w.heap.size → F k → F' k) : SetAt F' p o w := by
  obtain ⟨root, wm, es, c, h1, h2, h3, h4⟩ := h.head
  refine ⟨root, wm, es, c, h1, h2, ⟨hF _ (lt_of_heap h1) h3.1, hF _ (lt_of_heap h2) h3.2⟩, ?_⟩
  cases o with
  | none => exact ⟨h4.1, h4.2.mono (fun k hl hf => ⟨hF k hl hf.1, hf.2⟩)⟩
  | some e => obtain ⟨b, h5, h6⟩ := h4; exact ⟨b, h5.mono hF, h6.mono hF⟩
def NewSet (w : World) (e : Ending) (w' : World) : Prop := ∃ p, e = .returned (.pointer (some ⟨p, 0, none⟩)) ∧ SetAt (fun k => w.heap.size ≤ k) p none w' ∧ Below w.heap.size w w'
theorem newSet_any (w : World) : Calls Tryz.prog 27 #[] w (NewSet w) := by
  have hmm := @run_makeMap Tryz.prog
  go_enter Tryz.func27, Tryz.ntmps27
  go_wp2_with fail
  refine (grown_any _).mono ?_
  rintro e w1 ⟨rfl, hw1⟩
  have HL := Lib.hid (show Leaf (fun k => w.heap.size ≤ k) w1 (w.heap.size + 2) none by rw [hw1]; exact grownW_leaf w)
  have HB := Lib.hid (show Below w.heap.size w w1 by rw [hw1]; exact grownW_below w)
  have HZ := Lib.hid (show w1.heap.size = w.heap.size + 3 by rw [hw1]; exact grownW_size w)
  clear hw1
  go_wp2_with fail
  go_ret
  have hb2 : Below w1.heap.size w1 ((w1.alloc (.map #[] 0)).alloc (.cells #[.pointer (some ⟨w.heap.size + 2, 0, none⟩), .map (some w1.heap.size)] 148)) := ((Below.refl _ _).alloc (Nat.le_refl _) _).alloc (by simp) _
  have hz := HZ.out
  refine ⟨w1.heap.size + 1, rfl, ⟨w.heap.size + 2, w1.heap.size, #[], 0, heap_at _ _ _ (by simp), ?_, ⟨by omega, by omega⟩, rfl, ?_⟩, below_step HB.out hb2⟩
  · rw [heap_past _ _ _ (by simp), heap_at _ _ _ rfl]
  · refine Leaf.mono (G := fun k => w.heap.size ≤ k ∧ k < w1.heap.size) ?_ (fun k hk hf => ⟨hf.1, by omega, by omega⟩)
    exact (HL.out.mono (fun k hk hf => ⟨hf, hk⟩)).keep (fun k hk _ => hb2.block k hk)
end Go.Proofs.YtchdfogifhfclaaGreatDoor
namespace Go.Proofs.YtchdfogifhfclaaGreatDoor
open Go.RowKit Go.Maps Go.MapKept
open Go.ChangeMaps (setBlock)

theorem extract_size_le (s : ByteArray) (a b : Nat) : (s.extract a b).size ≤ s.size := by simp; omega
theorem segsN_size : ∀ (k : Nat) (s : ByteArray), ∀ x ∈ segsN k s, x.size ≤ s.size
  | 0, s, x, hx => by simp [segsN] at hx; subst hx; exact Nat.le_refl _
  | k + 1, s, x, hx => by
    unfold segsN at hx
    split at hx
    · simp at hx; subst hx; exact Nat.le_refl _
    · rcases List.mem_cons.1 hx with rfl | hx
      · exact extract_size_le _ _ _
      · exact Nat.le_trans (segsN_size k _ x hx) (extract_size_le _ _ _)
theorem segs_size (p : ByteArray) : ∀ x ∈ segs p, x.size ≤ p.size := by
  intro x hx
  unfold segs at hx
  split at hx
  · cases hx
  · exact segsN_size _ _ x hx
theorem psplit_form {l : List ByteArray} {w w' : World} {v : Value} (h : l = [] ∧ v = .slice none 0 0 ∨ StrsV (fun k => w.heap.size ≤ k) w' v l) : ∃ a c, v = .slice a l.length c ∧ l.length ≤ c ∧ c ≤ 1000 ∧ ∀ (j : Nat) (x : ByteArray), l[j]? = some x → ∃ b, a = some ⟨b, 0, none⟩ ∧ w.heap.size ≤ b ∧ b < w'.heap.size ∧ w'.cell? ⟨b, j, none⟩ = some (.string x) := by
  rcases h with ⟨rfl, rfl⟩ | ⟨b, c, rfl, h2, h3, h4, h5, h6⟩
  · exact ⟨none, 0, rfl, Nat.le_refl _, by omega, fun j x hx => by simp at hx⟩
  · exact ⟨_, c, rfl, h2, h3, fun j x hx => ⟨b, rfl, h5, h4, h6 j x hx⟩⟩
theorem cell_set {w : World} {b cm i : Nat} {o : Obj} (h : b ≠ cm) : (setBlock w cm o).cell? ⟨b, i, none⟩ = w.cell? ⟨b, i, none⟩ := World.cell?_of_block (set_other h)
/-- What the way down keeps. -/
structure PInv (T : Nat → Prop) (W1 : World) (root : Nat) (l : List ByteArray) (k b : Nat) (wr : World) : Prop where
  mod : Mod T W1 wr
  way : ∃ e0, Chain (fun j => T j ∧ j < e0) wr (l.take k) root b ∧ Leaf (fun j => T j ∧ e0 ≤ j) wr b none
theorem PInv.drew {T : Nat → Prop} {W1 wr : World} {root k b : Nat} {l : List ByteArray} (h : PInv T W1 root l k b wr) : PInv T W1 root l k b wr.drew := by
  obtain ⟨h1, e0, h2, h3⟩ := h
  exact ⟨h1.drew, e0, Chain.keep (w := wr) (w' := wr.drew) (fun _ _ _ => rfl) h2, h3.keep (fun _ _ _ => rfl)⟩
theorem PInv.step {T : Nat → Prop} {W1 wr : World} {root k b em cm c : Nat} {l : List ByteArray} {s : ByteArray} (hmod : Mod T W1 wr) (e0 : Nat) (hch : Chain (fun j => T j ∧ j < e0) wr (l.take k) root b) (h1 : wr.heap[b]? = some (.cells #[.map (some em), .map (some cm)] 207 (0, 0))) (h2 : wr.heap[em]? = some (.map #[] 0)) (h3 : wr.heap[cm]? = some (.map #[] c))
    (hG : (T b ∧ e0 ≤ b) ∧ (T em ∧ e0 ≤ em) ∧ (T cm ∧ e0 ≤ cm)) (hecm : em ≠ cm) (hT : ∀ j, W1.heap.size ≤ j → T j) (hs : l[k]? = some s) :
    PInv T W1 root l (k + 1) (wr.heap.size + 2) (setBlock (grownW wr) cm (.map #[⟨.string s, .pointer (some ⟨wr.heap.size + 2, 0, none⟩), c⟩] (c + 1))) := by
  have l1 := lt_of_heap h1
  have l2 := lt_of_heap h2
  have l3 := lt_of_heap h3
  have hb := grownW_below wr
  have hz := grownW_size wr
  have hbcm : b ≠ cm := by
    rintro rfl
    rw [h1] at h3
    cases h3
  have hold : ∀ j, j < wr.heap.size → j ≠ cm → (setBlock (grownW wr) cm (.map #[⟨.string s, .pointer (some ⟨wr.heap.size + 2, 0, none⟩), c⟩] (c + 1))).heap[j]? = wr.heap[j]? := fun j hj hne => (set_other hne).trans (hb.block j hj)
  refine ⟨((hmod.below hb).set (fun _ => hG.2.2.1) _), wr.heap.size, ?_, ?_⟩
  · rw [List.take_add_one, hs]
    refine Chain.snoc (em := em) (cm := cm) (n := c) (c' := c + 1) ((hold b l1 hbcm).trans h1) ((hold em l2 hecm).trans h2) (set_same ((hb.block _ l3).trans h3)) ⟨⟨hG.1.1, l1⟩, ⟨hG.2.1.1, l2⟩, ⟨hG.2.2.1, l3⟩⟩ ?_
    exact (hch.keep (fun j hj hg => hold j hj (by have := hG.2.2.2; have := hg.2; omega))).mono (fun j hj hg => by
      have := hG.1.2
      exact ⟨hg.1, by have := hg.2; omega⟩)
  · refine ((grownW_leaf wr).keep (fun j hj hg => set_other (by have hg : wr.heap.size ≤ j := hg; omega))).mono (fun j hj hg => ?_)
    have hg : wr.heap.size ≤ j := hg
    exact ⟨hT j (Nat.le_trans hmod.size hg), hg⟩
/-- The entry laid at the end of the way; the path noted. -/
theorem PInv.done {F T : Nat → Prop} {w w1 wr : World} {root p b wm em cm c cw : Nat} {en : Ent} {a : Nat} (hmod : Mod T w1 wr) (e0 : Nat) (hch : Chain (fun j => T j ∧ j < e0) wr (segs en.p) root b) (h1 : wr.heap[b]? = some (.cells #[.map (some em), .map (some cm)] 207 (0, 0))) (h2 : wr.heap[em]? = some (.map #[] 0)) (h3 : wr.heap[cm]? = some (.map #[] c))
    (hG : (T b ∧ e0 ≤ b) ∧ (T em ∧ e0 ≤ em) ∧ (T cm ∧ e0 ≤ cm)) (hecm : em ≠ cm) (hTo : ∀ j, j < w1.heap.size → T j → F j ∧ j < w.heap.size ∧ j ≠ p ∧ j ≠ wm) (hb : Below w.heap.size w w1) (hF : F p ∧ F wm) (hp : w.heap[p]? = some (.cells #[.pointer (some ⟨root, 0, none⟩), .map (some wm)] 148 (0, 0))) (hwm : w.heap[wm]? = some (.map #[] cw)) (ew : MapEntry) :
    SetAt (Up F w) p (some en) (setBlock (setBlock wr em (.map #[⟨.int .i64 1, .agg (entC en), 0⟩] 1)) wm (.map #[ew] a)) ∧ Mod F w (setBlock (setBlock wr em (.map #[⟨.int .i64 1, .agg (entC en), 0⟩] 1)) wm (.map #[ew] a)) := by
  have lp := lt_of_heap hp
  have lw := lt_of_heap hwm
  have hTw : ∀ j, T j → j ≠ wm ∧ j ≠ p := fun j hj => by
    by_cases hl : j < w1.heap.size
    · have := hTo j hl hj; exact ⟨this.2.2.2, this.2.2.1⟩
    · have := hb.size; exact ⟨by omega, by omega⟩
  have hTU : ∀ j, T j → Up F w j := fun j hj => by
    by_cases hl : j < w1.heap.size
    · exact .inl (hTo j hl hj).1
    · have := hb.size; exact .inr (by omega)
  have hTF : ∀ j, j < w.heap.size → T j → F j := fun j hl hj => (hTo j (Nat.lt_of_lt_of_le hl hb.size) hj).1
  have hnp : ¬ T p := fun h => (hTw p h).2 rfl
  have hnw : ¬ T wm := fun h => (hTw wm h).1 rfl
  have hpwm : p ≠ wm := by
    rintro rfl
    rw [hp] at hwm
    cases hwm
  have hmw : Mod F w wr := (Mod.of_below (F := F) hb).trans (hmod.mono (G := fun j => F j ∨ w.heap.size ≤ j) (fun j hj h => (hTU j h))) (fun j hj h => by rcases h with h | h; exact h; omega)
  have hprr : wr.heap[p]? = _ := (hmod.block p (Nat.lt_of_lt_of_le lp hb.size) hnp).trans ((hb.block p lp).trans hp)
  have hwr : wr.heap[wm]? = _ := (hmod.block wm (Nat.lt_of_lt_of_le lw hb.size) hnw).trans ((hb.block wm lw).trans hwm)
  have hbem : b ≠ em := by
    rintro rfl
    rw [h1] at h2
    cases h2
  have hpem : p ≠ em := fun e => hnp (e ▸ hG.2.1.1)
  have hwem : wm ≠ em := fun e => hnw (e ▸ hG.2.1.1)
  refine ⟨⟨root, wm, #[ew], a, (set_other hpwm).trans ((set_other hpem).trans hprr), set_same ((set_other hwem).trans hwr), ⟨.inl hF.1, .inl hF.2⟩, ?_⟩, ?_⟩
  · show ∃ b', Chain (Up F w) _ (segs en.p) root b' ∧ Leaf (Up F w) _ b' (some en)
    refine ⟨b, ?_, em, cm, c, (set_other (hTw b hG.1.1).1).trans ((set_other hbem).trans h1), (set_other (Ne.symm hwem)).trans (set_same h2), (set_other (hTw cm hG.2.2.1).1).trans ((set_other (Ne.symm hecm)).trans h3), hTU _ hG.1.1, hTU _ hG.2.1.1, hTU _ hG.2.2.1, hecm⟩
    refine (hch.keep (fun j hj hg => ?_)).mono (fun j _ hg => hTU j hg.1)
    have := hG.2.1.2
    exact (set_other (hTw j hg.1).1).trans (set_other (by have := hg.2; omega))
  · exact ((hmw.set (fun hl => hTF em hl hG.2.1.1) _).set (fun _ => hF.2) _)
def PutP (F : Nat → Prop) (p : Nat) (en : Ent) (w : World) (e : Ending) (w' : World) : Prop := e = .returned (.int .i64 0) ∧ SetAt (Up F w) p (some en) w' ∧ Mod F w w'
theorem Tryz.zeroStr (w : World) : (zeroValue 9).run Tryz.prog w = .ok (.string ⟨#[]⟩) w := by kernel_rfl
theorem Tryz.zeroBr (w : World) : (zeroValue 144).run Tryz.prog w = .ok (.pointer none) w := by kernel_rfl
set_option maxRecDepth 100000 in
set_option maxHeartbeats 4000000 in
theorem setPut_any (F : Nat → Prop) (p : Nat) (en : Ent) (w : World) (h : SetAt F p none w) (hp : pathOK en.p = true) (hm : en.m = 1 ∨ en.m = 2) : Calls Tryz.prog 84 #[.pointer (some ⟨p, 0, none⟩), .agg (entC en)] w (PutP F p en w) := by
  obtain ⟨root, wm, es, cw, h1, h2, h3, rfl, h4⟩ := h.head
  obtain ⟨pa, m⟩ := en
  simp only at hp hm
  have HP := Lib.hid hp
  have lp := lt_of_heap h1
  have lw := lt_of_heap h2
  obtain ⟨w0, hw0⟩ : ∃ w0, w0 = w.alloc (.cells (entC ⟨pa, m⟩) 151) := ⟨_, rfl⟩
  have hB0 : Below w.heap.size w w0 := by rw [hw0]; exact (Below.refl _ _).alloc (Nat.le_refl _) _
  have hx0 : w0.heap[w.heap.size]? = some (.cells (entC ⟨pa, m⟩) 151 (0, 0)) := by rw [hw0, heap_at _ _ _ rfl]
  have HB0 := Lib.hid hB0
  have HX0 := Lib.hid hx0
  have H1 := Lib.hid h1
  have H2 := Lib.hid h2
  have H3 := Lib.hid h3
  have H4 := Lib.hid h4
  have HSZ := Lib.hid (show w0.heap.size = w.heap.size + 1 by rw [hw0]; simp)
  clear h h1 h2 h3 h4 hB0 hx0 hp
  unfold entC at hw0
  have dm : (m != 1) = false ∨ ((m != 1) = true ∧ (m != 2) = false) := by
    rcases hm with rfl | rfl
    · exact .inl rfl
    · exact .inr ⟨rfl, rfl⟩
  clear hm
  unfold entC
  go_enter Tryz.func84, Tryz.ntmps84
  go_wp2_with fail
  rw [← hw0]
  clear hw0
  refine (psplit_any pa _ HP.out).mono ?_
  rintro e w1 ⟨v, rfl, hv, hb1⟩
  obtain ⟨sa, sc, rfl, hsc, hsc2, hcells⟩ := psplit_form hv
  have HB1 := Lib.hid (HB0.out.trans (hb1.mono HB0.out.size))
  have HX1 := Lib.hid ((hb1.block _ (lt_of_heap HX0.out)).trans HX0.out)
  have HC := Lib.hid hcells
  have hs1 := hb1.size
  have HS1 := Lib.hid hs1
  clear hv hcells hb1 hs1
  have hp1 := (HB1.out.block _ lp).trans H1.out
  have hw1 := (HB1.out.block _ lw).trans H2.out
  have HP1 := Lib.hid hp1
  have HW1 := Lib.hid hw1
  have c0 := blk_cell HX1.out
  have s0 := blk_cell hp1
  have hl := fun n => mlook_none (w := w1.drewN n) (b := wm) (c := cw) (int_keyed Tryz.underlying3) Tryz.underlying146 (Tryz.zeroStr _) hw1 (keyI (x := 1) (by omega)) true
  have hn : ∀ n ty, (Builtin.len_ #[146] ty #[.map (some wm)]).run Tryz.prog (w1.drewN n) = .ok (.int .i64 0) (w1.drewN n) := fun n ty => mlen (P := Tryz.prog) (w := w1.drewN n) Tryz.underlying146 hw1 ty
  clear hp1 hw1
  unfold entC at c0
  go_wp2_with fail
  go_quiet (fail)
  obtain ⟨n1, rfl⟩ : ∃ n1 : Nat, n1 = nq := ⟨_, rfl⟩
  have HSS := Lib.hid (fun x hx => Nat.le_trans (segs_size pa x hx) (pathOK_size HP.out))
  obtain ⟨T, hT⟩ : ∃ T : Nat → Prop, T = fun j => (F j ∧ j < w.heap.size ∧ j ≠ p ∧ j ≠ wm) ∨ w1.heap.size ≤ j := ⟨_, rfl⟩
  have hTn : ∀ j, w1.heap.size ≤ j → T j := fun j hj => by rw [hT]; exact .inr hj
  have hTo : ∀ j, j < w1.heap.size → T j → F j ∧ j < w.heap.size ∧ j ≠ p ∧ j ≠ wm := fun j hj h => by
    rw [hT] at h
    rcases h with h | h
    · exact h
    · omega
  have hlf : Leaf (fun k => (F k ∧ k ≠ p ∧ k ≠ wm) ∧ k < w.heap.size) w root none := H4.out.mono (fun k hk hf => ⟨hf, hk⟩)
  have hlf1 : Leaf (fun k => (F k ∧ k ≠ p ∧ k ≠ wm) ∧ k < w.heap.size) w1 root none := hlf.keep (fun k hk _ => HB1.out.block k hk)
  have hlf2 : Leaf (fun k => (F k ∧ k ≠ p ∧ k ≠ wm) ∧ k < w.heap.size) (w1.drewN n1) root none := Leaf.keep (w := w1) (w' := w1.drewN n1) hlf1 (fun _ _ _ => rfl)
  have hst : PInv T w1 root (segs pa) 0 root (w1.drewN n1) := ⟨(Mod.refl T w1).drewN n1, 0, by rw [List.take_zero]; exact rfl, hlf2.mono (fun k hk hf => ⟨by rw [hT]; exact .inl ⟨hf.1.1, hf.2, hf.1.2.1, hf.1.2.2⟩, Nat.zero_le _⟩)⟩
  have HST := Lib.hid hst
  have HTN := Lib.hid hTn
  have HTO := Lib.hid hTo
  clear hst hTn hTo hT hlf hlf1 hlf2
  have hlen : ((segs pa).length : Int) ≤ 1000 := by omega
  rcases dm with d1 | ⟨d1, d2⟩
  all_goals
    go_wp2_with fail
    go_loopw [9, 58] (fun sb i wr => ∃ k b : Nat, k ≤ (segs pa).length ∧ i = .int .i64 (k : Int) ∧ sb = .pointer (some ⟨b, 0, none⟩) ∧ Hid (PInv T w1 root (segs pa) k b wr)) (fun _ i _ => (segs pa).length - (intOf i).toNat)
    case atStart => exact ⟨0, root, Nat.zero_le _, rfl, rfl, HST⟩
    case round =>
      obtain ⟨k, b, hk, rfl, rfl, HI⟩ := hrel
      have k0 : (0 : Int) ≤ (k : Int) := by omega
      by_cases hlt : k < (segs pa).length
      · obtain ⟨x, hx⟩ : ∃ x, (segs pa)[k]? = some x := ⟨_, List.getElem?_eq_getElem hlt⟩
        obtain ⟨sb, rfl, hsb, hsbl, hsc0⟩ := HC.out k x hx
        have hk1 : (k : Int) < ((segs pa).length : Int) := by omega
        have hxs := HSS.out x (List.mem_of_getElem? hx)
        have HXX := Lib.hid hx
        obtain ⟨e0, hch, em, cm, c, l1, l2, l3, g1, g2, g3, hne⟩ := HI.out.way
        have l2 : wr.heap[em]? = some (.map #[] 0) := l2
        have HCH := Lib.hid hch
        have HL1 := Lib.hid l1
        have HL2 := Lib.hid l2
        have HL3 := Lib.hid l3
        have HG := Lib.hid (And.intro g1 (And.intro g2 g3))
        have HNE := Lib.hid hne
        have b1 := blk_cell l1 1
        have hbcm : b ≠ cm := by
          intro e
          rw [e, l3] at l1
          cases l1
        have hbl := lt_of_heap l1
        have hcml := lt_of_heap l3
        have hstr : wr.cell? ⟨sb, k, none⟩ = some (.string x) := (HI.out.mod.cell (p := ⟨sb, k, none⟩) hsbl (fun ht => by have := (HTO.out sb hsbl ht).2.1; have := HSZ.out; omega)).trans hsc0
        have hkx := keyS (s := x) (by omega)
        have hlk := mlook_none (w := wr) (b := cm) (c := c) (string_keyed Tryz.underlying9) Tryz.underlying205 (Tryz.zeroBr _) l3 hkx false
        have HKX := Lib.hid hkx
        clear hch l1 l2 l3 g1 g2 g3 hne hsc0 hx hkx
        go_wp2_with fail
        have hw2 : wr.drew.heap[cm]? = some (.map #[] c) := HL3.out
        have hu := mupd_none (w := grownW wr.drew) (v := .pointer (some ⟨wr.heap.size + 2, 0, none⟩)) (string_keyed Tryz.underlying9) Tryz.underlying205 (((grownW_below wr.drew).block cm hcml).trans hw2) HKX.out
        have HU := Lib.hid hu
        clear hu hw2
        go_region_held_law (fun u => u.cell? ⟨b, 1, none⟩ = some (.map (some cm))) (first | (with_reducible assumption) | exact b1 | exact q3 _) (first
          | (go_at_call 83; (refine (grown_any _).mono ?_); rintro e w2 ⟨rfl, hw2⟩; have hu := HU.out; rw [← show w2 = grownW wr.drew from hw2] at hu; have q1 : w2.cell? ⟨b, 1, none⟩ = some (.map (some cm)) := (by rw [hw2]; exact ((grownW_below wr.drew).cell (p := ⟨b, 1, none⟩) hbl).trans b1); have q3 : ∀ o, (setBlock w2 cm o).cell? ⟨b, 1, none⟩ = some (.map (some cm)) := (fun o => (cell_set hbcm).trans q1); have HW2 := Lib.hid hw2; clear hw2))
        have hp9 := PInv.step HI.out.mod.drew e0 (Chain.keep (w := wr) (w' := wr.drew) (fun _ _ _ => rfl) HCH.out) (show wr.drew.heap[b]? = _ from HL1.out) (show wr.drew.heap[em]? = _ from HL2.out) (show wr.drew.heap[cm]? = _ from HL3.out) ⟨HG.out.1, HG.out.2.1, HG.out.2.2⟩ HNE.out HTN.out HXX.out
        have hb9 : (grownW wr.drew).heap[cm]? = some (.map #[] c) := ((grownW_below wr.drew).block cm hcml).trans HL3.out
        rw [← show w2 = grownW wr.drew from HW2.out] at hp9 hb9
        have q4 := q3 (.map #[⟨.string x, .pointer (some ⟨wr.heap.size + 2, 0, none⟩), c⟩] (c + 1))
        have hlk2 := mlook_one (string_keyed Tryz.underlying9) Tryz.underlying205 (set_same (o' := .map #[⟨.string x, .pointer (some ⟨wr.heap.size + 2, 0, none⟩), c⟩] (c + 1)) hb9) HKX.out false
        have HP9 := Lib.hid hp9
        clear hp9 hb9 q3 hlk hu q1
        go_wp2_with fail
        exact ⟨⟨k + 1, wr.heap.size + 2, by omega, by push_cast; rfl, rfl, HP9⟩, by simp only [intOf]; omega⟩
      · obtain rfl : k = (segs pa).length := by omega
        obtain ⟨e0, hch, em, cm, c, l1, l2, l3, g1, g2, g3, hne⟩ := HI.out.way
        have l2 : wr.heap[em]? = some (.map #[] 0) := l2
        rw [List.take_of_length_le (Nat.le_refl _)] at hch
        have b1 := blk_cell l1 0
        have hX9 := (HI.out.mod.block w.heap.size (lt_of_heap HX1.out) (fun ht => by have := (HTO.out _ (lt_of_heap HX1.out) ht).2.1; omega)).trans HX1.out
        have hP9 := (HI.out.mod.block p (lt_of_heap HP1.out) (fun ht => (HTO.out _ (lt_of_heap HP1.out) ht).2.2.1 rfl)).trans HP1.out
        have hW9 := (HI.out.mod.block wm (lt_of_heap HW1.out) (fun ht => (HTO.out _ (lt_of_heap HW1.out) ht).2.2.2 rfl)).trans HW1.out
        have hwe : wm ≠ em := by
          rintro rfl
          by_cases hl : wm < w1.heap.size
          · exact (HTO.out _ hl g2.1).2.2.2 rfl
          · exact hl (lt_of_heap HW1.out)
        have hXe : w.heap.size ≠ em := by
          intro e
          rw [← e, hX9] at l2
          cases l2
        have hPe : p ≠ em := by
          intro e
          rw [← e, hP9] at l2
          cases l2
        have hup : (Instr.mapUpdate 204 (.map (some em)) (.int .i64 1) (.agg (entC ⟨pa, m⟩))).run Tryz.prog wr.drew = .ok () (setBlock wr.drew em (.map #[⟨.int .i64 1, .agg (entC ⟨pa, m⟩), 0⟩] 1)) := mupd_none (w := wr.drew) (v := .agg (entC ⟨pa, m⟩)) (int_keyed Tryz.underlying3) Tryz.underlying204 (show wr.drew.heap[em]? = _ from l2) (keyI (x := 1) (by omega))
        have hup2 : (Instr.mapUpdate 146 (.map (some wm)) (.int .i64 1) (.string pa)).run Tryz.prog (setBlock wr.drew em (.map #[⟨.int .i64 1, .agg (entC ⟨pa, m⟩), 0⟩] 1)).drew = .ok () (setBlock (setBlock wr.drew em (.map #[⟨.int .i64 1, .agg (entC ⟨pa, m⟩), 0⟩] 1)).drew wm (.map #[⟨.int .i64 1, .string pa, cw⟩] (cw + 1))) := mupd_none (w := (setBlock wr.drew em (.map #[⟨.int .i64 1, .agg (entC ⟨pa, m⟩), 0⟩] 1)).drew) (int_keyed Tryz.underlying3) Tryz.underlying146 ((set_other hwe).trans hW9) (keyI (x := 1) (by omega))
        have x0 := blk_cell hX9
        have y0 := blk_cell hP9 1
        have hbem : b ≠ em := by
          rintro rfl
          rw [l1] at l2
          cases l2
        have b2 : ∀ o, (setBlock wr.drew em o).cell? ⟨b, 0, none⟩ = _ := fun o => (cell_set hbem).trans b1
        have b3 : wr.drew.cell? ⟨b, 0, none⟩ = some (.map (some em)) := b1
        have x1 : ∀ o i, (setBlock wr.drew em o).cell? ⟨w.heap.size, i, none⟩ = _ := fun o i => (cell_set hXe).trans (x0 i)
        have y1 : ∀ o, (setBlock wr.drew em o).cell? ⟨p, 1, none⟩ = _ := fun o => (cell_set hPe).trans y0
        have HCH := Lib.hid hch
        have HL1 := Lib.hid l1
        have HL2 := Lib.hid l2
        have HL3 := Lib.hid l3
        have HG := Lib.hid (And.intro g1 (And.intro g2 g3))
        have HNE := Lib.hid hne
        clear hch l1 l2 l3 g1 g2 g3 hne hX9 hP9 hW9 hwe hXe hPe c0 s0 hl hn
        unfold entC at hup hup2 x0 x1
        have B2 := Lib.hid b2
        have X1 := Lib.hid x1
        have Y1 := Lib.hid y1
        have HUP2 := Lib.hid hup2
        clear b2 x1 y1 hup2
        go_wp2_with fail
        go_region_held_law (fun u => u.cell? ⟨b, 0, none⟩ = some (.map (some em)) ∧ (∀ i, u.cell? ⟨w.heap.size, i, none⟩ = #[.int .i64 1, .string pa, .int .i64 m, .int .i64 1][i]?)) ((go_split_ands; refine ⟨?_, ?_⟩ <;> (first | (with_reducible assumption) | exact b1 | exact x0 | exact B2.out _ | exact X1.out _))) (fail)
        obtain ⟨w5, hw5⟩ : ∃ w5, w5 = setBlock wr.drew em (.map #[⟨.int .i64 1, .agg #[.int .i64 1, .string pa, .int .i64 m, .int .i64 1], 0⟩] 1) := ⟨_, rfl⟩
        have x2 := X1.out (.map #[⟨.int .i64 1, .agg #[.int .i64 1, .string pa, .int .i64 m, .int .i64 1], 0⟩] 1)
        have y2 := Y1.out (.map #[⟨.int .i64 1, .agg #[.int .i64 1, .string pa, .int .i64 m, .int .i64 1], 0⟩] 1)
        have hup3 := HUP2.out
        rw [← hw5] at x2 y2 hup3
        rw [← hw5]
        have HW5 := Lib.hid hw5
        clear hw5
        have hpw : p ≠ wm := by
          intro e
          have h9 := H1.out
          rw [e, H2.out] at h9
          cases h9
        have y3 : ∀ o, (setBlock w5.drew wm o).cell? ⟨p, 1, none⟩ = some (.map (some wm)) := fun o => (cell_set hpw).trans y2
        have x3 : ∀ o i, (setBlock w5.drew wm o).cell? ⟨w.heap.size, i, none⟩ = _ := fun o i => (cell_set (Ne.symm (Nat.ne_of_lt lw))).trans (x2 i)
        have X3 := Lib.hid x3
        have Y3 := Lib.hid y3
        clear x3 y3
        go_wp2_with fail
        go_region_held_law (fun u => u.cell? ⟨p, 1, none⟩ = some (.map (some wm)) ∧ (∀ i, u.cell? ⟨w.heap.size, i, none⟩ = #[.int .i64 1, .string pa, .int .i64 m, .int .i64 1][i]?)) (first | exact ⟨y2, x2⟩ | exact ⟨Y3.out _, X3.out _⟩) (fail)
        go_wp2_with fail
        go_ret
        have hm9 : Mod T w1 wr := HI.out.mod
        have hd := PInv.done (F := F) (w := w) (p := p) (wm := wm) (en := ⟨pa, m⟩) (a := cw + 1) (wr := wr) hm9 e0 HCH.out HL1.out HL2.out HL3.out ⟨HG.out.1, HG.out.2.1, HG.out.2.2⟩ HNE.out HTO.out HB1.out H3.out H1.out H2.out ⟨.int .i64 1, .string pa, cw⟩
        rw [HW5.out]
        exact ⟨rfl, SetAt.keep hd.1 (fun _ _ _ => rfl), ⟨hd.2.os, hd.2.tape, hd.2.output, hd.2.size, hd.2.block⟩⟩
end Go.Proofs.YtchdfogifhfclaaGreatDoor
