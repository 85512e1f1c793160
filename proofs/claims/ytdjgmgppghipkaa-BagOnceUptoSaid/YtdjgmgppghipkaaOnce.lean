/- BagOnce's memory: a bag, the names that were sent, and whether they are out. -/
import Derived.Test.YtdjgmgppghipkaaOncep
import Derived.Test.YtdjgmgppghipkaaWake
import Derived.Test.YtdjgmgppghipkaaOpenOp
import Derived.Laws.OwnMore
import Derived.Lib.ConvBytes
namespace Go.Proofs.Ytdjgmgppghipkaa
open Go.RowKit

structure OnG (G : Nat → Prop) (w0 : World) (p : Nat) (b : Bg) (ss : List Value) (os : List Value) (sv ov : Value) (ks : List (Nat × Obj)) (w : World) : Prop where
  bag : BagAt G w p b
  names : w.ownsRow w0.heap.size 9 1 sv ss.length ss
  outs : w.ownsRow w0.heap.size 4 1 ov os.length os
  gs : ∀ k, G k → w0.heap.size ≤ k ∧ k < w.heap.size
  na : ∀ g, sv.ownBlock = some g → ¬ G g
  oa : ∀ g, ov.ownBlock = some g → ¬ G g
  kept : ∀ x ∈ ks, w.heap[x.1]? = some x.2 ∧ ¬ G x.1 ∧ sv.ownBlock ≠ some x.1 ∧ ov.ownBlock ≠ some x.1
  below : Below w0.heap.size w0 w
def On (w0 : World) (p : Nat) (b : Bg) (ss : List Value) (os : List Value) (sv ov : Value) (ks : List (Nat × Obj)) (w : World) : Prop := ∃ G, OnG G w0 p b ss os sv ov ks w

section
variable {w0 w w' : World} {p : Nat} {b b' : Bg} {ss os : List Value} {sv ov : Value} {ks : List (Nat × Obj)}
theorem On.out (h : On w0 p b ss os sv ov ks w) : Below w0.heap.size w0 w := by obtain ⟨G, h⟩ := h; exact h.below
theorem On.weaken (h : On w0 p b ss os sv ov ks w) : On w0 p b ss os sv ov [] w := by
  obtain ⟨G, h⟩ := h; exact ⟨G, { h with kept := fun _ h => (by cases h) }⟩
theorem On.small (h : On w0 p b ss os sv ov ks w) : b.l.length ≤ 48 := by obtain ⟨G, h⟩ := h; exact h.bag.small
theorem On.has (h : On w0 p b ss os sv ov ks w) {n : Nat} {o : Obj} (hn : (n, o) ∈ ks) : w.heap[n]? = some o := by obtain ⟨G, h⟩ := h; exact (h.kept _ hn).1
theorem On.keep (h : On w0 p b ss os sv ov ks w) (hb : Below w.heap.size w w') : On w0 p b ss os sv ov ks w' := by
  obtain ⟨G, h⟩ := h
  have hs := hb.size
  exact ⟨G, h.bag.below hb, ownsRow_keep h.names (fun g hg => hb.block g (h.names.lt g hg).2), ownsRow_keep h.outs (fun g hg => hb.block g (h.outs.lt g hg).2), fun k hk => by have := h.gs k hk; omega, h.na, h.oa, fun x hx => ⟨(hb.block x.1 (lt_of_heap (h.kept x hx).1)).trans (h.kept x hx).1, (h.kept x hx).2⟩, h.below.trans (hb.mono h.below.size)⟩
theorem On.drew (h : On w0 p b ss os sv ov ks w) : On w0 p b ss os sv ov ks w.drew := h.keep ⟨rfl, rfl, rfl, Nat.le_refl _, fun _ _ => rfl⟩
theorem On.drewN (h : On w0 p b ss os sv ov ks w) (n : Nat) : On w0 p b ss os sv ov ks (w.drewN n) := h.keep ⟨rfl, rfl, rfl, Nat.le_refl _, fun _ _ => rfl⟩
theorem On.box (h : On w0 p b ss os sv ov ks w) (o : Obj) : On w0 p b ss os sv ov ((w.heap.size, o) :: ks) (w.alloc o) := by
  have h0 := h
  obtain ⟨G, h⟩ := h
  have hb : Below w.heap.size w (w.alloc o) := (Below.refl _ _).alloc (Nat.le_refl _) o
  refine ⟨G, h.bag.below hb, h.names.alloc o, h.outs.alloc o, fun k hk => by have := h.gs k hk; simp; omega, h.na, h.oa, fun x hx => ?_, h.below.trans (hb.mono h.below.size)⟩
  rcases List.mem_cons.1 hx with rfl | hx
  · exact ⟨heap_at w o _ rfl, fun hg => by have := (h.gs _ hg).2; simp at this, fun e => by have := (h.names.lt _ e).2; simp at this, fun e => by have := (h.outs.lt _ e).2; simp at this⟩
  · exact ⟨(hb.block x.1 (lt_of_heap (h.kept x hx).1)).trans (h.kept x hx).1, (h.kept x hx).2⟩
theorem OnG.step {G : Nat → Prop} (h : OnG G w0 p b ss os sv ov ks w) (hb : BagAt (Up G w) w' p b') (hm : Mod G w w') : On w0 p b' ss os sv ov ks w' := by
  have hs := hm.size
  refine ⟨fun k => Up G w k ∧ k < w'.heap.size, hb.tight, ownsRow_keep h.names (fun g hg => hm.block g (h.names.lt g hg).2 (h.na g hg)), ownsRow_keep h.outs (fun g hg => hm.block g (h.outs.lt g hg).2 (h.oa g hg)), fun k hk => ?_, fun g hg => ?_, fun g hg => ?_, fun x hx => ?_, h.below.trans (hm.toBelow h.below.size (fun k hk => (h.gs k hk).1))⟩
  · have := h.below.size
    rcases hk.1 with hg | hg
    · have := h.gs k hg; omega
    · omega
  · have h1 := (h.names.lt g hg).2
    rintro ⟨h2 | h2, _⟩
    · exact h.na g hg h2
    · omega
  · have h1 := (h.outs.lt g hg).2
    rintro ⟨h2 | h2, _⟩
    · exact h.oa g hg h2
    · omega
  · obtain ⟨k1, k2, k3, k4⟩ := h.kept x hx
    have hlt := lt_of_heap k1
    refine ⟨(hm.block x.1 hlt k2).trans k1, ?_, k3, k4⟩
    rintro ⟨h2 | h2, _⟩
    · exact k2 h2
    · omega
theorem send_o (h : On w0 p b ss os sv ov ks w) (D : Nat → Prop) (q : Pkt) (dv : Value) (hd : BytesV D w dv q.data) (hD : ∀ k, k < w.heap.size → D k → k ≠ p) (hs : b.sent + 1 < 4611686018427387904) (hl : b.lost + 1 < 4611686018427387904) :
    Calls Try.prog 11 #[.pointer (some ⟨p, 0, none⟩), .agg #[.int .i64 q.src, .int .i64 q.dst, dv]] w fun e w' => e = .returned (.int .i64 (b.sendE q)) ∧ On w0 p (b.send q) ss os sv ov ks w' := by
  obtain ⟨G, h⟩ := h
  exact (send_any _ D p b q dv w h.bag hd hD hs hl).mono fun _ _ ⟨h1, h2, h3⟩ => ⟨h1, h.step h2 h3⟩
theorem len_o (h : On w0 p b ss os sv ov ks w) : Calls Try.prog 14 #[.pointer (some ⟨p, 0, none⟩)] w fun e w' => e = .returned (.int .i64 b.l.length) ∧ w = w' := by
  obtain ⟨G, h⟩ := h; exact len_any _ _ _ _ h.bag
theorem sent_o (h : On w0 p b ss os sv ov ks w) : Calls Try.prog 13 #[.pointer (some ⟨p, 0, none⟩)] w fun e w' => e = .returned (.int .i64 b.sent) ∧ w = w' := by
  obtain ⟨G, h⟩ := h; exact sent_any _ _ _ _ h.bag
/-- Take answers the packet, its bytes in a block that is kept. -/
def OTook (w0 : World) (p : Nat) (b : Bg) (ss os : List Value) (sv ov : Value) (ks : List (Nat × Obj)) (o : Option Pkt) (e : Ending) (w' : World) : Prop :=
  match o with
  | none => e = .returned (.tuple #[.agg #[.int .i64 0, .int .i64 0, .slice none 0 0], .bool false]) ∧ On w0 p b ss os sv ov ks w'
  | some q => ∃ d, e = .returned (.tuple #[.agg #[.int .i64 q.src, .int .i64 q.dst, .slice (some ⟨d, 0, none⟩) q.data.length q.data.length], .bool true]) ∧ On w0 p b ss os sv ov ((d, .cells (q.data.map B8).toArray 5 (0, 0)) :: ks) w'
theorem take_o (h : On w0 p b ss os sv ov ks w) (k : Int) :
    Calls Try.prog 12 #[.pointer (some ⟨p, 0, none⟩), .int .i64 k] w (OTook w0 p (b.drop k) ss os sv ov ks (b.at_ k)) := by
  obtain ⟨G, h⟩ := h
  refine (take_any2 _ p b k w h.bag).mono ?_
  rintro e w' ⟨hg, hb, hm⟩
  have hs := hm.size
  have T : OnG (fun k => G k ∧ k < w.heap.size) w0 p (b.drop k) ss os sv ov ks w' :=
    ⟨hb, ownsRow_keep h.names (fun g hg => hm.block g (h.names.lt g hg).2 (h.na g hg)), ownsRow_keep h.outs (fun g hg => hm.block g (h.outs.lt g hg).2 (h.oa g hg)), fun k hk => by have := h.gs k hk.1; omega, fun g hg hk => h.na g hg hk.1, fun g hg hk => h.oa g hg hk.1,
      fun x hx => by obtain ⟨k1, k2, k3, k4⟩ := h.kept x hx; exact ⟨(hm.block x.1 (lt_of_heap k1) k2).trans k1, fun hg => k2 hg.1, k3, k4⟩, h.below.trans (hm.toBelow h.below.size (fun k hk => (h.gs k hk).1))⟩
  cases hat : b.at_ k with
  | none =>
    rw [hat] at hg
    exact ⟨hg, _, T⟩
  | some q =>
    rw [hat] at hg
    obtain ⟨v, rfl, d, rfl, h1, h2⟩ := hg
    refine ⟨d, rfl, _, { T with kept := fun x hx => ?_ }⟩
    rcases List.mem_cons.1 hx with rfl | hx
    · exact ⟨h1, fun hg => by omega, fun e => by have := (h.names.lt _ e).2; omega, fun e => by have := (h.outs.lt _ e).2; omega⟩
    · exact T.kept x hx

/-- A name more, and that it is not out. -/
theorem On.push (h : On w0 p b ss os sv ov ks w) {w1 w2 w3 : World} {O1 O2 : Obj} {g1 c1 g2 c2 : Nat} {s u : Value}
    (hb : Below w.heap.size w w1)
    (h1 : w2.ownsRow w0.heap.size 9 1 (.slice (some ⟨g1, 0, none⟩) (ss.length + 1) c1) (ss.length + 1) (ss ++ [s])) (r1 : (w1.alloc O1).grownBy w2 sv.ownBlock) (t1 : sv.ownBlock = some g1 ∨ g1 = w1.heap.size + 1)
    (h2 : w3.ownsRow w0.heap.size 4 1 (.slice (some ⟨g2, 0, none⟩) (os.length + 1) c2) (os.length + 1) (os ++ [u])) (r2 : (w2.alloc O2).grownBy w3 ov.ownBlock) (t2 : ov.ownBlock = some g2 ∨ g2 = w2.heap.size + 1) :
    On w0 p b (ss ++ [s]) (os ++ [u]) (.slice (some ⟨g1, 0, none⟩) (ss.length + 1) c1) (.slice (some ⟨g2, 0, none⟩) (os.length + 1) c2) [] w3 := by
  obtain ⟨G, h⟩ := h
  have z1 := hb.size
  have z2 := r1.size
  have z3 := r2.size
  simp at z2 z3
  have hB0 := h.below.size
  have hG : ∀ k, G k → w3.heap[k]? = w.heap[k]? := fun k hk => by
    have hlt := (h.gs k hk).2
    have e1 : w2.heap[k]? = (w1.alloc O1).heap[k]? := r1.block k (by simp; omega) (fun e => h.na k e.symm hk)
    have e2 : w3.heap[k]? = (w2.alloc O2).heap[k]? := r2.block k (by simp; omega) (fun e => h.oa k e.symm hk)
    rw [e2, heap_past w2 O2 k (by omega), e1, heap_past w1 O1 k (by omega), hb.block k hlt]
  have n1 := (h1.lt g1 rfl).2
  have d1 : g1 ≠ g2 := by
    rcases h1.2 with ⟨e, _⟩ | ⟨g, cap, cur, e, _, hh, _⟩
    · cases e
    · obtain rfl : g1 = g := by injection e with e; injection e with e; injection e
      rcases h2.2 with ⟨e, _⟩ | ⟨g', cap', cur', e, _, hh', _⟩
      · cases e
      · obtain rfl : g2 = g' := by injection e with e; injection e with e; injection e
        rintro rfl
        rcases t2 with t2 | t2
        · rcases h.outs.2 with ⟨rfl, _⟩ | ⟨go, co, uo, rfl, _, ho, _⟩
          · cases t2
          · obtain rfl : go = g1 := by simpa [Value.ownBlock] using t2
            have hgo := lt_of_heap ho
            have e1 : w2.heap[go]? = (w1.alloc O1).heap[go]? := r1.block go (by simp; omega) (fun e => by
              have := own_ne (w := w) h.names ho (by decide)
              exact this e.symm)
            rw [heap_past w1 O1 go (by omega), hb.block go hgo, ho] at e1
            rw [e1] at hh
            injection hh with hh
            injection hh with _ ht
            exact absurd ht (by decide)
        · omega
  refine ⟨G, h.bag.keep (fun k _ hk => hG k hk) (by omega), ?_, by simpa using h2, fun k hk => by have := h.gs k hk; omega, fun g hg hk => ?_, fun g hg hk => ?_, fun _ h => (by cases h), ?_⟩
  · have h3 : w3.ownsRow w0.heap.size 9 1 (.slice (some ⟨g1, 0, none⟩) (ss.length + 1) c1) (ss.length + 1) (ss ++ [s]) := ownsRow_keep h1 (fun g hg => by
      obtain rfl : g1 = g := by simpa [Value.ownBlock] using hg
      rw [r2.block g1 (by simp; omega) (fun e => ?_), heap_past w2 O2 g1 n1]
      rcases t2 with t2 | t2
      · rw [t2] at e; injection e with e; exact d1 e
      · have := (h.outs.lt g1 e.symm).2
        rcases t1 with t1 | t1
        · rcases h.outs.2 with ⟨rfl, _⟩ | ⟨go, co, uo, rfl, _, ho, _⟩
          · cases e
          · obtain rfl : g1 = go := by simpa [Value.ownBlock] using e
            exact own_ne (w := w) h.names ho (by decide) t1
        · omega)
    simpa using h3
  · obtain rfl : g1 = g := by simpa [Value.ownBlock] using hg
    have := h.gs g1 hk
    rcases t1 with t1 | t1
    · exact h.na g1 t1 hk
    · omega
  · obtain rfl : g2 = g := by simpa [Value.ownBlock] using hg
    have := h.gs g2 hk
    rcases t2 with t2 | t2
    · exact h.oa g2 t2 hk
    · omega
  · have a1 : Below w0.heap.size w0 w2 := ((h.below.trans (hb.mono hB0)).alloc (by omega) O1).grown r1 (by simp; omega) (fun j hj => (h.names.lt j hj).1)
    exact (a1.alloc (by omega) O2).grown r2 (by simp; omega) (fun j hj => (h.outs.lt j hj).1)

/-- One of the names is marked. -/
theorem On.mark {g n cap : Nat} (h : On w0 p b ss os sv (.slice (some ⟨g, 0, none⟩) n cap) ks w) (k : Nat) (u : Value) : On w0 p b ss (os.set k u) sv (.slice (some ⟨g, 0, none⟩) n cap) ks (w.setCell ⟨g, k, none⟩ u) := by
  obtain ⟨G, h⟩ := h
  have hn : n = os.length := by
    rcases h.outs.2 with ⟨e, _⟩ | ⟨g', cap', cur, e, _⟩
    · cases e
    · injection e
  subst hn
  have hs : (w.setCell ⟨g, k, none⟩ u).heap.size = w.heap.size := by simp [World.setCell]
  have hh : ∀ j, j ≠ g → (w.setCell ⟨g, k, none⟩ u).heap[j]? = w.heap[j]? := fun j hj => Below.heap_setCell w ⟨g, k, none⟩ u j hj
  have hsv : sv.ownBlock ≠ some g := by
    rcases h.outs.2 with ⟨e, _⟩ | ⟨g', cap', cur, e, _, ho, _⟩
    · cases e
    · obtain rfl : g = g' := by injection e with e; injection e with e; injection e
      exact own_ne h.names ho (by decide)
  have ho := (h.outs.stored k u).1
  refine ⟨G, h.bag.keep (fun j _ hj => hh j (fun e => h.oa g rfl (e ▸ hj))) (by omega), ownsRow_keep h.names (fun j hj => hh j (fun e => hsv (e ▸ hj))), by simpa using ho, by rw [hs]; exact h.gs, h.na, h.oa, fun x hx => ?_, h.below.setCell (h.outs.lt g rfl).1 _⟩
  obtain ⟨k1, k2, k3, k4⟩ := h.kept x hx
  exact ⟨(hh x.1 (fun e => k4 (by simp [Value.ownBlock, e]))).trans k1, k2, k3, k4⟩
/-- The cells of the two rows. -/
theorem On.names_at (h : On w0 p b ss os sv ov ks w) {k : Nat} {s : Value} (hs : ss[k]? = some s) : ∃ g c, sv = .slice (some ⟨g, 0, none⟩) ss.length c ∧ ss.length ≤ c ∧ c ≤ maxLen ∧ g < w.heap.size ∧ w.cell? ⟨g, k, none⟩ = some s := by
  obtain ⟨G, h⟩ := h
  have hk := (List.getElem?_eq_some_iff.1 hs).1
  rcases id h.names.2 with ⟨_, e⟩ | ⟨g, c, cur, rfl, _, hh, h1, h2, _⟩
  · omega
  · exact ⟨g, c, rfl, h1, h2, lt_of_heap hh, (h.names.cellAt k (by omega)).trans hs⟩
theorem On.outs_at (h : On w0 p b ss os sv ov ks w) {k : Nat} {s : Value} (hs : os[k]? = some s) : ∃ g c, ov = .slice (some ⟨g, 0, none⟩) os.length c ∧ os.length ≤ c ∧ c ≤ maxLen ∧ g < w.heap.size ∧ w.cell? ⟨g, k, none⟩ = some s ∧ w.frozen? ⟨g, k, none⟩ = false := by
  obtain ⟨G, h⟩ := h
  have hk := (List.getElem?_eq_some_iff.1 hs).1
  rcases id h.outs.2 with ⟨_, e⟩ | ⟨g, c, cur, rfl, _, hh, h1, h2, _⟩
  · omega
  · exact ⟨g, c, rfl, h1, h2, lt_of_heap hh, (h.outs.cellAt k (by omega)).trans hs, h.outs.frozenAt k⟩
theorem On.start {w2 : World} (h : BS w0 p ⟨[], 0, 0⟩ w2) : On w0 p ⟨[], 0, 0⟩ [] [] (.slice none 0 0) (.slice none 0 0) [] w2 :=
  ⟨_, h.bag.tight, World.ownsRow_nil _ _ _ _, World.ownsRow_nil _ _ _ _, fun _ hk => hk, fun _ h => (by cases h), fun _ h => (by cases h), fun _ h => (by cases h), h.below⟩
theorem On.slices (h : On w0 p b ss os sv ov ks w) : (∃ a c, sv = .slice a ss.length c) ∧ ∃ a c, ov = .slice a os.length c := by
  obtain ⟨G, h⟩ := h
  refine ⟨?_, ?_⟩
  · rcases h.names.2 with ⟨h, h'⟩ | ⟨g, cap, cur, hv, _⟩
    · exact ⟨none, 0, by rw [h, h']⟩
    · exact ⟨_, _, hv⟩
  · rcases h.outs.2 with ⟨h, h'⟩ | ⟨g, cap, cur, hv, _⟩
    · exact ⟨none, 0, by rw [h, h']⟩
    · exact ⟨_, _, hv⟩
/-- The row of marks, behind the first append. -/
theorem On.outs2 (h : On w0 p b ss os sv ov ks w) {w2 : World} {O : Obj} (r : (w.alloc O).grownBy w2 sv.ownBlock) : w2.ownsRow w0.heap.size 4 1 ov os.length os := by
  obtain ⟨G, h⟩ := h
  refine (h.outs.alloc O).kept r ?_
  rcases h.outs.2 with ⟨rfl, _⟩ | ⟨go, co, uo, rfl, _, ho, _⟩
  · exact Or.inl rfl
  · right
    have := own_ne h.names ho (by decide)
    intro e
    exact this e.symm
theorem On.push' (h : On w0 p b ss os sv ov ks w) {w2 w3 : World} {O1 O2 : Obj} {n g1 c1 g2 c2 : Nat} {s u : Value} (hn : ss.length = n) (hm : os.length = n)
    (h1 : w2.ownsRow w0.heap.size 9 1 (.slice (some ⟨g1, 0, none⟩) (n + 1) c1) (n + 1) (ss ++ [s])) (r1 : (w.alloc O1).grownBy w2 sv.ownBlock) (t1 : sv.ownBlock = some g1 ∨ g1 = w.heap.size + 1)
    (h2 : w3.ownsRow w0.heap.size 4 1 (.slice (some ⟨g2, 0, none⟩) (n + 1) c2) (n + 1) (os ++ [u])) (r2 : (w2.alloc O2).grownBy w3 ov.ownBlock) (t2 : ov.ownBlock = some g2 ∨ g2 = w2.heap.size + 1) :
    On w0 p b (ss ++ [s]) (os ++ [u]) (.slice (some ⟨g1, 0, none⟩) (n + 1) c1) (.slice (some ⟨g2, 0, none⟩) (n + 1) c2) [] w3 := by
  subst hn
  have := h.push (Below.refl _ _) h1 r1 t1 (by rw [hm]; exact h2) r2 t2
  rw [hm] at this
  exact this
theorem On.names_row (h : On w0 p b ss os sv ov ks w) : w.ownsRow w0.heap.size 9 1 sv ss.length ss := by obtain ⟨G, h⟩ := h; exact h.names
end

/-- []byte of a string whose bytes are l. -/
theorem bytes_of_string (W : World) (l : List UInt8) (hl : l.length ≤ 140737488355328) : ∃ c, (convert 9 28 (.string (strOf l))).run Try.prog W = .ok (.slice (some ⟨W.heap.size, 0, none⟩) l.length c) (Lib.bytesWorld W 5 (strOf l)) ∧
    BytesV (fun k => k = W.heap.size) (Lib.bytesWorld W 5 (strOf l)) (.slice (some ⟨W.heap.size, 0, none⟩) l.length c) l ∧ Below W.heap.size W (Lib.bytesWorld W 5 (strOf l)) := by
  have hs : (strOf l).size = l.length := by simp [strOf, ByteArray.size]
  have hcv := Lib.run_convert_string_bytes (P := Try.prog) W 9 28 5 (strOf l) Try.underlying9 Try.underlying28 Try.underlying5
  rw [hs] at hcv
  refine ⟨_, hcv, ?_, ⟨rfl, rfl, rfl, by rw [Lib.bytesWorld_size]; omega, fun k hk => Lib.bytesWorld_at_old _ _ _ k hk⟩⟩
  refine BytesV.of_block (l := l) (Lib.bytesWorld_at_new W 5 (strOf l)) (fun j x hx => ?_) (grownCap_ge _ _ _ _) (grownCap_le_maxLen _ _ _ _ (by unfold maxLen; omega))
  unfold Lib.bytesCells
  have hj : j < l.length := (List.getElem?_eq_some_iff.1 hx).1
  rw [Array.getElem?_append_left (by simpa [strOf] using hj)]
  rw [Array.getElem?_map]
  simp [strOf, hx, B8]
theorem name_cells (j : Nat) (h : j ≤ 1048576) : (#[Value.int .u8 ((j : Int) % 256), .int .u8 ((j : Int) / 256 % 256), .int .u8 ((j : Int) / 65536), .int .u8 ((j : Int) / 16777216)] : Array Value) = ((nameOf j).map B8).toArray := by
  have e2 : j / 65536 % 256 = j / 65536 := Nat.mod_eq_of_lt (by omega)
  have e3 : j / 16777216 % 256 = j / 16777216 := Nat.mod_eq_of_lt (by omega)
  simp [nameOf, B8, e2, e3]
/-- string of a block that holds a name. -/
theorem name_back (W : World) (d j : Nat) (hd : W.heap[d]? = some (.cells ((nameOf j).map B8).toArray 5 (0, 0))) : (convert 28 9 (.slice (some ⟨d, 0, none⟩) 4 4)).run Try.prog W = .ok (.string (strOf (nameOf j))) W :=
  (BytesV.of_block (l := nameOf j) (c := 4) hd (fun j x hx => by simp [hx]) (by simp [nameOf]) (by decide)).string 28 9 5 Try.underlying28 Try.underlying5 Try.underlying9 (fun _ _ _ => rfl)
theorem strOf_inj {l m : List UInt8} (h : strOf l = strOf m) : l = m := by
  unfold strOf at h
  injection h with h
  exact Array.toList_inj.2 h |> fun e => by simpa using e
end Go.Proofs.Ytdjgmgppghipkaa
