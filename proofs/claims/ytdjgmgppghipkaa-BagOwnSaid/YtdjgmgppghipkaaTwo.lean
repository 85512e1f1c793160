/- The bag and the document's bag, side by side: what each call does to both. -/
import Derived.Test.YtdjgmgppghipkaaRefd
import Derived.Test.YtdjgmgppghipkaaOpenOp
namespace Go.Proofs.Ytdjgmgppghipkaa
open Go.RowKit

/-- A bag b at p, and the document's bag m in the cells of block mB; both behind w0, apart; besides, slices of packets ls and packets' bytes ps that have been answered. -/
structure TwoG (G R : Nat → Prop) (w0 : World) (p mB : Nat) (b m : Bg) (ls : List (Value × List Pkt)) (ps : List (Value × List UInt8)) (ks : List (Nat × Obj)) (w : World) : Prop where
  bag : BagAt G w p b
  ref : ∃ lv, w.heap[mB]? = some (.cells #[lv, .int .i64 m.sent, .int .i64 m.lost] 48 (0, 0)) ∧ RefB R w (.agg #[lv, .int .i64 m.sent, .int .i64 m.lost]) m
  lists : ∀ x ∈ ls, PktsV R w x.1 x.2
  pkts : ∀ x ∈ ps, BytesV R w x.1 x.2
  gs : ∀ k, G k → w0.heap.size ≤ k ∧ k < w.heap.size ∧ k ≠ mB
  rs : ∀ k, R k → ¬ G k ∧ k < w.heap.size ∧ k ≠ mB
  kept : ∀ x ∈ ks, w.heap[x.1]? = some x.2 ∧ ¬ G x.1 ∧ ¬ R x.1 ∧ x.1 ≠ mB ∧ w0.heap.size ≤ x.1
  mb : w0.heap.size ≤ mB
  below : Below w0.heap.size w0 w
def Two (w0 : World) (p mB : Nat) (b m : Bg) (ls : List (Value × List Pkt)) (ps : List (Value × List UInt8)) (ks : List (Nat × Obj)) (w : World) : Prop := ∃ G R, TwoG G R w0 p mB b m ls ps ks w

section
variable {w0 w w' : World} {p mB : Nat} {b b' m m' : Bg} {ls : List (Value × List Pkt)} {ps : List (Value × List UInt8)} {ks : List (Nat × Obj)} {f : FuncId} {args : Array Value} {c : Int}

theorem Two.size (h : Two w0 p mB b m ls ps ks w) : w0.heap.size ≤ mB ∧ mB < w.heap.size ∧ w0.heap.size ≤ p ∧ p < w.heap.size := by
  obtain ⟨G, R, h⟩ := h
  obtain ⟨lv, h1, _⟩ := h.ref
  exact ⟨h.mb, lt_of_heap h1, (h.gs p h.bag.head.1).1, h.bag.head.2⟩
theorem Two.lt (h : Two w0 p mB b m ls ps ks w) {x : Nat × Obj} (hx : x ∈ ks) : x.1 < w.heap.size ∧ x.1 ≠ mB := by
  obtain ⟨G, R, h⟩ := h
  obtain ⟨k1, k2, k3, k4, k5⟩ := h.kept x hx
  exact ⟨lt_of_heap k1, k4⟩
theorem Two.out (h : Two w0 p mB b m ls ps ks w) : Below w0.heap.size w0 w := by obtain ⟨G, R, h⟩ := h; exact h.below

theorem Two.keep (h : Two w0 p mB b m ls ps ks w) (hb : Below w.heap.size w w') : Two w0 p mB b m ls ps ks w' := by
  have hmB := h.size.2.1
  obtain ⟨G, R, h⟩ := h
  obtain ⟨lv, r1, r2⟩ := h.ref
  have hs := hb.size
  exact ⟨G, R, h.bag.below hb, ⟨lv, (hb.block mB hmB).trans r1, r2.keep (fun k hk _ => hb.block k hk) hb.size⟩, fun x hx => (h.lists x hx).below hb, fun x hx => (h.pkts x hx).below hb,
    fun k hk => by have := h.gs k hk; omega, fun k hk => by have := h.rs k hk; exact ⟨this.1, by omega, this.2.2⟩, fun x hx => ⟨(hb.block x.1 (lt_of_heap (h.kept x hx).1)).trans (h.kept x hx).1, (h.kept x hx).2⟩, h.mb, h.below.trans (hb.mono h.below.size)⟩
theorem Two.drew (h : Two w0 p mB b m ls ps ks w) : Two w0 p mB b m ls ps ks w.drew := h.keep ⟨rfl, rfl, rfl, Nat.le_refl _, fun _ _ => rfl⟩
theorem Two.drewN (h : Two w0 p mB b m ls ps ks w) (n : Nat) : Two w0 p mB b m ls ps ks (w.drewN n) := h.keep ⟨rfl, rfl, rfl, Nat.le_refl _, fun _ _ => rfl⟩
theorem Two.boxed (h : Two w0 p mB b m ls ps ks w) (o : Obj) : Two w0 p mB b m ls ps ks (w.alloc o) := h.keep ((Below.refl _ _).alloc (Nat.le_refl _) o)

/-- The cells of the document's bag. -/
theorem Two.cells (h : Two w0 p mB b m ls ps ks w) : ∃ a c, Two w0 p mB b m ((.slice a m.l.length c, m.l) :: ls) ps ks w ∧ w.cell? ⟨mB, 0, none⟩ = some (.slice a m.l.length c) ∧ w.cell? ⟨mB, 1, none⟩ = some (.int .i64 m.sent) ∧ w.cell? ⟨mB, 2, none⟩ = some (.int .i64 m.lost) ∧ w.frozen? ⟨mB, 0, none⟩ = false ∧ w.frozen? ⟨mB, 1, none⟩ = false ∧ w.frozen? ⟨mB, 2, none⟩ = false := by
  obtain ⟨G, R, h⟩ := h
  obtain ⟨lv, r1, r2⟩ := h.ref
  obtain ⟨lv', e, hl⟩ := r2.form
  injection e with e
  have e : lv = lv' := by simpa using e
  subst e
  have hl2 := hl
  obtain ⟨a, c, rfl, _⟩ := hl
  refine ⟨a, c, ⟨G, R, { h with lists := fun x hx => ?_ }⟩, blk3 r1⟩
  rcases List.mem_cons.1 hx with rfl | hx
  · exact hl2
  · exact h.lists x hx

/-- A call on the bag. -/
theorem TwoG.step {G R : Nat → Prop} (h : TwoG G R w0 p mB b m ls ps ks w) (hb : BagAt (Up G w) w' p b') (hm : Mod G w w') : Two w0 p mB b' m ls ps ks w' := by
  obtain ⟨lv, r1, r2⟩ := h.ref
  have hk : ∀ k, k < w.heap.size → R k → w'.heap[k]? = w.heap[k]? := fun k hk hR => hm.block k hk (h.rs k hR).1
  have hmB := lt_of_heap r1
  have hs := hm.size
  refine ⟨fun k => Up G w k ∧ k < w'.heap.size, R, hb.tight, ⟨lv, (hm.block mB hmB (fun hg => (h.gs mB hg).2.2 rfl)).trans r1, r2.keep hk hs⟩, fun x hx => (h.lists x hx).keep hk hs, fun x hx => (h.pkts x hx).keep hk hs, fun k hk => ?_, fun k hk => ?_, fun x hx => ?_, h.mb, h.below.trans (hm.toBelow h.below.size (fun k hk => (h.gs k hk).1))⟩
  · have := h.below.size
    rcases hk.1 with hg | hg
    · have := h.gs k hg; omega
    · omega
  · have := h.rs k hk
    refine ⟨?_, by omega, this.2.2⟩
    rintro ⟨hg | hg, _⟩
    · exact this.1 hg
    · omega
  · obtain ⟨k1, k2, k3, k4⟩ := h.kept x hx
    have hlt := lt_of_heap k1
    refine ⟨(hm.block x.1 hlt k2).trans k1, ?_, k3, k4⟩
    rintro ⟨hg | hg, _⟩
    · exact k2 hg
    · omega
/-- Answered memory: new behind w. -/
theorem TwoG.answer {G R : Nat → Prop} (h : TwoG G R w0 p mB b m ls ps ks w) (hb : Below w.heap.size w w') : ∃ R', TwoG G R' w0 p mB b m ls ps ks w' ∧ (∀ k, R k → R' k) ∧ ∀ k, w.heap.size ≤ k → k < w'.heap.size → R' k := by
  obtain ⟨lv, r1, r2⟩ := h.ref
  have hmB := lt_of_heap r1
  have hs := hb.size
  refine ⟨fun k => R k ∨ (w.heap.size ≤ k ∧ k < w'.heap.size), ⟨h.bag.below hb, ⟨lv, (hb.block mB hmB).trans r1, (r2.keep (fun k hk _ => hb.block k hk) hs).mono (fun k _ hk => Or.inl hk)⟩, fun x hx => ((h.lists x hx).below hb).mono (fun k _ hk => Or.inl hk), fun x hx => ((h.pkts x hx).below hb).mono (fun k _ hk => Or.inl hk),
    fun k hk => by have := h.gs k hk; omega, fun k hk => ?_, fun x hx => ?_, h.mb, h.below.trans (hb.mono h.below.size)⟩, fun k hk => Or.inl hk, fun k h1 h2 => Or.inr ⟨h1, h2⟩⟩
  · rcases hk with hk | hk
    · have := h.rs k hk; exact ⟨this.1, by omega, this.2.2⟩
    · exact ⟨fun hg => by have := h.gs k hg; omega, by omega, by omega⟩
  · obtain ⟨k1, k2, k3, k4⟩ := h.kept x hx
    have hlt := lt_of_heap k1
    exact ⟨(hb.block x.1 hlt).trans k1, k2, fun hk => hk.elim k3 (fun h => by omega), k4⟩
theorem TwoG.addList {G R : Nat → Prop} (h : TwoG G R w0 p mB b m ls ps ks w) {v : Value} {l : List Pkt} (hv : PktsV R w v l) : TwoG G R w0 p mB b m ((v, l) :: ls) ps ks w :=
  { h with lists := fun x hx => by rcases List.mem_cons.1 hx with rfl | hx; exact hv; exact h.lists x hx }
theorem TwoG.addPkt {G R : Nat → Prop} (h : TwoG G R w0 p mB b m ls ps ks w) {v : Value} {l : List UInt8} (hv : BytesV R w v l) : TwoG G R w0 p mB b m ls ((v, l) :: ps) ks w :=
  { h with pkts := fun x hx => by rcases List.mem_cons.1 hx with rfl | hx; exact hv; exact h.pkts x hx }

theorem TwoG.took {G R : Nat → Prop} (h : TwoG G R w0 p mB b m ls ps ks w) (hb : BagAt (fun k => G k ∧ k < w.heap.size) w' p b') (hm : Mod G w w') : TwoG (fun k => G k ∧ k < w.heap.size) (fun k => R k ∨ (w.heap.size ≤ k ∧ k < w'.heap.size)) w0 p mB b' m ls ps ks w' := by
  obtain ⟨lv, r1, r2⟩ := h.ref
  have hk : ∀ k, k < w.heap.size → R k → w'.heap[k]? = w.heap[k]? := fun k hk hR => hm.block k hk (h.rs k hR).1
  have hmB := lt_of_heap r1
  have hs := hm.size
  refine ⟨hb, ⟨lv, (hm.block mB hmB (fun hg => (h.gs mB hg).2.2 rfl)).trans r1, (r2.keep hk hs).mono (fun k _ hk => Or.inl hk)⟩, fun x hx => ((h.lists x hx).keep hk hs).mono (fun k _ hk => Or.inl hk), fun x hx => ((h.pkts x hx).keep hk hs).mono (fun k _ hk => Or.inl hk), fun k hk => ?_, fun k hk => ?_, fun x hx => ?_, h.mb, h.below.trans (hm.toBelow h.below.size (fun k hk => (h.gs k hk).1))⟩
  · have := h.gs k hk.1; omega
  · rcases hk with hk | hk
    · have := h.rs k hk
      exact ⟨fun hg => this.1 hg.1, by omega, this.2.2⟩
    · exact ⟨fun hg => by omega, hk.2, by omega⟩
  · obtain ⟨k1, k2, k3, k4⟩ := h.kept x hx
    have hlt := lt_of_heap k1
    exact ⟨(hm.block x.1 hlt k2).trans k1, fun hg => k2 hg.1, fun hk => hk.elim k3 (fun h => by omega), k4⟩
theorem own_t (T : Two w0 p mB b m ls ps ks w) (D : Nat → Prop) (q : Pkt) (dv : Value) (hd : BytesV D w dv q.data) (hl : q.data.length ≤ 140737488355328) :
    Calls Try.prog 15 #[.agg #[.int .i64 q.src, .int .i64 q.dst, dv]] w fun e w' => ∃ xa n xc, e = .returned (.agg #[.int .i64 q.src, .int .i64 q.dst, .slice xa n xc]) ∧ Below w.heap.size w w' ∧ Two w0 p mB b m ls ((.slice xa n xc, q.data) :: ps) ks w' := by
  obtain ⟨G, R, T⟩ := T
  refine (own_any D q dv w hd hl).mono ?_
  rintro e w' ⟨v, rfl, hv, hb⟩
  obtain ⟨R', T', _, hR⟩ := T.answer hb
  have hv2 := hv
  obtain ⟨xa, xc, rfl, _⟩ := hv
  exact ⟨_, _, _, rfl, hb, G, R', T'.addPkt (hv2.mono (fun k h1 h2 => hR k h2 h1))⟩
theorem send_t (T : Two w0 p mB b m ls ps ks w) (D : Nat → Prop) (q : Pkt) (dv : Value) (hd : BytesV D w dv q.data) (hD : ∀ k, k < w.heap.size → D k → k ≠ p) (hs : b.sent + 1 < 4611686018427387904) (hl : b.lost + 1 < 4611686018427387904) :
    Calls Try.prog 11 #[.pointer (some ⟨p, 0, none⟩), .agg #[.int .i64 q.src, .int .i64 q.dst, dv]] w fun e w' => e = .returned (.int .i64 (b.sendE q)) ∧ Two w0 p mB (b.send q) m ls ps ks w' := by
  obtain ⟨G, R, T⟩ := T
  exact (send_any _ D p b q dv w T.bag hd hD hs hl).mono fun _ _ ⟨h1, h2, h3⟩ => ⟨h1, T.step h2 h3⟩
theorem drop_t (T : Two w0 p mB b m ls ps ks w) (k : Int) :
    Calls Try.prog 26 #[.pointer (some ⟨p, 0, none⟩), .int .i64 k] w fun e w' => e = .returned (.bool (b.at_ k).isSome) ∧ Two w0 p mB (b.drop k) m ls ps ks w' := by
  obtain ⟨G, R, T⟩ := T
  exact (drop_any _ p b k w T.bag).mono fun _ _ ⟨h1, h2, h3⟩ => ⟨h1, T.step h2 h3⟩
theorem double_t (T : Two w0 p mB b m ls ps ks w) (k : Int) :
    Calls Try.prog 18 #[.pointer (some ⟨p, 0, none⟩), .int .i64 k] w fun e w' => e = .returned (.int .i64 (b.doubleE k)) ∧ Two w0 p mB (b.double k) m ls ps ks w' := by
  obtain ⟨G, R, T⟩ := T
  exact (double_any _ p b k w T.bag).mono fun _ _ ⟨h1, h2, h3⟩ => ⟨h1, T.step h2 h3⟩
theorem len_t (T : Two w0 p mB b m ls ps ks w) : Calls Try.prog 14 #[.pointer (some ⟨p, 0, none⟩)] w fun e w' => e = .returned (.int .i64 b.l.length) ∧ w = w' := by
  obtain ⟨G, R, T⟩ := T; exact len_any _ _ _ _ T.bag
theorem sent_t (T : Two w0 p mB b m ls ps ks w) : Calls Try.prog 13 #[.pointer (some ⟨p, 0, none⟩)] w fun e w' => e = .returned (.int .i64 b.sent) ∧ w = w' := by
  obtain ⟨G, R, T⟩ := T; exact sent_any _ _ _ _ T.bag
theorem lost_t (T : Two w0 p mB b m ls ps ks w) : Calls Try.prog 25 #[.pointer (some ⟨p, 0, none⟩)] w fun e w' => e = .returned (.int .i64 b.lost) ∧ w = w' := by
  obtain ⟨G, R, T⟩ := T; exact lost_any _ _ _ _ T.bag

theorem len_q (T : Two w0 p mB b m ls ps ks w) (n : Nat) : Calls Try.prog 14 #[.pointer (some ⟨p, 0, none⟩)] (w.drewN n) fun e w' => e = .returned (.int .i64 b.l.length) ∧ ∃ k, w' = w.drewN k :=
  (len_t (T.drewN n)).mono fun _ _ ⟨h1, h2⟩ => ⟨h1, n, h2.symm⟩
theorem sent_q (T : Two w0 p mB b m ls ps ks w) (n : Nat) : Calls Try.prog 13 #[.pointer (some ⟨p, 0, none⟩)] (w.drewN n) fun e w' => e = .returned (.int .i64 b.sent) ∧ ∃ k, w' = w.drewN k :=
  (sent_t (T.drewN n)).mono fun _ _ ⟨h1, h2⟩ => ⟨h1, n, h2.symm⟩
theorem lost_q (T : Two w0 p mB b m ls ps ks w) (n : Nat) : Calls Try.prog 25 #[.pointer (some ⟨p, 0, none⟩)] (w.drewN n) fun e w' => e = .returned (.int .i64 b.lost) ∧ ∃ k, w' = w.drewN k :=
  (lost_t (T.drewN n)).mono fun _ _ ⟨h1, h2⟩ => ⟨h1, n, h2.symm⟩

def zeroPkt : Pkt := ⟨0, 0, []⟩
/-- The packet that Look and Take answer, the zero packet where there is none. -/
def Bg.pk (b : Bg) (k : Int) : Pkt := (b.at_ k).getD zeroPkt

theorem look_t (T : Two w0 p mB b m ls ps ks w) (k : Int) :
    Calls Try.prog 17 #[.pointer (some ⟨p, 0, none⟩), .int .i64 k] w fun e w' => ∃ xa n xc, e = .returned (.tuple #[.agg #[.int .i64 (b.pk k).src, .int .i64 (b.pk k).dst, .slice xa n xc], .bool (b.at_ k).isSome]) ∧ Two w0 p mB b m ls ((.slice xa n xc, (b.pk k).data) :: ps) ks w' := by
  obtain ⟨G, R, T⟩ := T
  refine (look_any _ p b k w T.bag).mono ?_
  rintro e w' ⟨hg, hb⟩
  obtain ⟨R', T', _, hR⟩ := T.answer hb
  unfold Bg.pk
  cases hat : b.at_ k with
  | none =>
    rw [hat] at hg
    exact ⟨_, _, _, hg, ⟨G, R', T'.addPkt (BytesV.nil _ _)⟩⟩
  | some q =>
    rw [hat] at hg
    obtain ⟨v, rfl, d, rfl, h1, h2⟩ := hg
    obtain ⟨i, rfl, hi⟩ := Bg.at_some hat
    have hq := T.bag.data q (List.mem_of_getElem? hi)
    refine ⟨_, _, _, rfl, ⟨G, R', T'.addPkt ?_⟩⟩
    exact (BytesV.of_block (l := q.data) (c := q.data.length) h1 (fun j x hx => by simp [hx]) (Nat.le_refl _) (by unfold maxLen; omega)).mono (fun k hk e => hR k (e ▸ h2) hk)

theorem take_t (T : Two w0 p mB b m ls ps ks w) (k : Int) :
    Calls Try.prog 12 #[.pointer (some ⟨p, 0, none⟩), .int .i64 k] w fun e w' => ∃ xa n xc, e = .returned (.tuple #[.agg #[.int .i64 (b.pk k).src, .int .i64 (b.pk k).dst, .slice xa n xc], .bool (b.at_ k).isSome]) ∧ Two w0 p mB (b.drop k) m ls ((.slice xa n xc, (b.pk k).data) :: ps) ks w' := by
  obtain ⟨G, R, T⟩ := T
  refine (take_any2 _ p b k w T.bag).mono ?_
  rintro e w' ⟨hg, hb, hm⟩
  have T' := T.took hb hm
  unfold Bg.pk
  cases hat : b.at_ k with
  | none =>
    rw [hat] at hg
    exact ⟨_, _, _, hg, ⟨_, _, T'.addPkt (BytesV.nil _ _)⟩⟩
  | some q =>
    rw [hat] at hg
    obtain ⟨v, rfl, d, rfl, h1, h2⟩ := hg
    obtain ⟨i, rfl, hi⟩ := Bg.at_some hat
    have hq := T.bag.data q (List.mem_of_getElem? hi)
    refine ⟨_, _, _, rfl, ⟨_, _, T'.addPkt ?_⟩⟩
    exact (BytesV.of_block (l := q.data) (c := q.data.length) h1 (fun j x hx => by simp [hx]) (Nat.le_refl _) (by unfold maxLen; omega)).mono (fun k hk e => Or.inr ⟨e ▸ h2, hk⟩)

theorem list_t (T : Two w0 p mB b m ls ps ks w) :
    Calls Try.prog 16 #[.pointer (some ⟨p, 0, none⟩)] w fun e w' => ∃ a c, e = .returned (.slice a b.l.length c) ∧ Two w0 p mB b m ((.slice a b.l.length c, b.l) :: ls) ps ks w' := by
  obtain ⟨G, R, T⟩ := T
  refine (list_any _ p b w T.bag).mono ?_
  rintro e w' ⟨lv, rfl, hn, hb⟩
  obtain ⟨R', T', _, hR⟩ := T.answer hb
  have hv := PktsV.of_new hn
  have hv2 := hv
  obtain ⟨a, c, rfl, _⟩ := hv
  exact ⟨a, c, rfl, G, R', T'.addList (hv2.mono (fun k h1 h2 => hR k h2 h1))⟩

theorem rlook_t (T : Two w0 p mB b m ls ps ks w) (k : Int) {a : Option Addr} {c : Nat} (hx : (Value.slice a m.l.length c, m.l) ∈ ls) :
    Calls Try.prog 27 #[.agg #[.slice a m.l.length c, .int .i64 m.sent, .int .i64 m.lost], .int .i64 k] w fun e w' => ∃ xa n xc, e = .returned (.tuple #[.agg #[.int .i64 (m.pk k).src, .int .i64 (m.pk k).dst, .slice xa n xc], .bool (m.at_ k).isSome]) ∧ Two w0 p mB b m ls ((.slice xa n xc, (m.pk k).data) :: ps) ks w' := by
  obtain ⟨G, R, T⟩ := T
  obtain ⟨lv, r1, r2⟩ := T.ref
  refine (rlook_any R m _ k w ⟨⟨_, rfl, T.lists _ hx⟩, r2.small, r2.lows, r2.low⟩).mono ?_
  rintro e w' ⟨hg, hb⟩
  obtain ⟨R', T', hR0, hR⟩ := T.answer hb
  unfold Bg.pk
  cases hat : m.at_ k with
  | none =>
    rw [hat] at hg
    exact ⟨_, _, _, hg, ⟨G, R', T'.addPkt (BytesV.nil _ _)⟩⟩
  | some q =>
    rw [hat] at hg
    obtain ⟨dv, rfl, h1⟩ := hg
    have h2 := h1
    obtain ⟨xa, xc, rfl, _⟩ := h1
    exact ⟨_, _, _, rfl, ⟨G, R', T'.addPkt (h2.mono (fun k _ hk => hR0 k hk))⟩⟩

/-- What the document's calls answer that change the bag. -/
def TSent (w0 : World) (p mB : Nat) (b m m' : Bg) (ls : List (Value × List Pkt)) (ps : List (Value × List UInt8)) (ks : List (Nat × Obj)) (c : Int) (e : Ending) (w' : World) : Prop :=
  ∃ a n, e = .returned (.tuple #[.agg #[.slice a m'.l.length n, .int .i64 m'.sent, .int .i64 m'.lost], .int .i64 c]) ∧ Two w0 p mB b m ((.slice a m'.l.length n, m'.l) :: ls) ps ks w' ∧ m'.l.length ≤ 48 ∧ m'.sent < 4611686018427387904 ∧ m'.lost < 4611686018427387904
theorem tsent_of (T : Two w0 p mB b m ls ps ks w) (hR : ∀ G R, TwoG G R w0 p mB b m ls ps ks w → Calls Try.prog f args w (RSent R w m' c)) : Calls Try.prog f args w (TSent w0 p mB b m m' ls ps ks c) := by
  obtain ⟨G, R, T⟩ := T
  refine (hR G R T).mono ?_
  rintro e w' ⟨v', rfl, hv, hb⟩
  obtain ⟨R', T', hR0, hR⟩ := T.answer hb
  obtain ⟨⟨lv, rfl, hl⟩, h1, h2, h3⟩ := hv
  have hl2 := hl
  obtain ⟨a, n, rfl, _⟩ := hl
  exact ⟨a, n, rfl, ⟨G, R', T'.addList (hl2.mono (fun k hk hk' => hk'.elim (hR0 k) (fun h => hR k h hk)))⟩, h1, h2, h3⟩
theorem rsend_t (T : Two w0 p mB b m ls ps ks w) (q : Pkt) {a xa : Option Addr} {c n xc : Nat} (hx : (Value.slice a m.l.length c, m.l) ∈ ls) (hy : (Value.slice xa n xc, q.data) ∈ ps) (hs : m.sent + 1 < 4611686018427387904) (hl : m.lost + 1 < 4611686018427387904) :
    Calls Try.prog 21 #[.agg #[.slice a m.l.length c, .int .i64 m.sent, .int .i64 m.lost], .agg #[.int .i64 q.src, .int .i64 q.dst, .slice xa n xc]] w (TSent w0 p mB b m (m.send q) ls ps ks (m.sendE q)) :=
  tsent_of T fun G R T => by
    obtain ⟨lv, r1, r2⟩ := T.ref
    exact rsend_any R m q _ _ w ⟨⟨_, rfl, T.lists _ hx⟩, r2.small, r2.lows, r2.low⟩ (T.pkts _ hy) hs hl
theorem rdouble_t (T : Two w0 p mB b m ls ps ks w) (k : Int) {a : Option Addr} {c : Nat} (hx : (Value.slice a m.l.length c, m.l) ∈ ls) :
    Calls Try.prog 22 #[.agg #[.slice a m.l.length c, .int .i64 m.sent, .int .i64 m.lost], .int .i64 k] w (TSent w0 p mB b m (m.double k) ls ps ks (m.doubleE k)) :=
  tsent_of T fun G R T => by
    obtain ⟨lv, r1, r2⟩ := T.ref
    exact rdouble_any R m _ k w ⟨⟨_, rfl, T.lists _ hx⟩, r2.small, r2.lows, r2.low⟩
def TTook (w0 : World) (p mB : Nat) (b m m' : Bg) (ls : List (Value × List Pkt)) (ps : List (Value × List UInt8)) (ks : List (Nat × Obj)) (ok : Bool) (e : Ending) (w' : World) : Prop :=
  ∃ a n x y xa xn xc, e = .returned (.tuple #[.agg #[.slice a m'.l.length n, .int .i64 m'.sent, .int .i64 m'.lost], .agg #[.int .i64 x, .int .i64 y, .slice xa xn xc], .bool ok]) ∧ Two w0 p mB b m ((.slice a m'.l.length n, m'.l) :: ls) ps ks w' ∧ m'.l.length ≤ 48 ∧ m'.sent < 4611686018427387904 ∧ m'.lost < 4611686018427387904
theorem rtake_t (T : Two w0 p mB b m ls ps ks w) (k : Int) {a : Option Addr} {c : Nat} (hx : (Value.slice a m.l.length c, m.l) ∈ ls) :
    Calls Try.prog 23 #[.agg #[.slice a m.l.length c, .int .i64 m.sent, .int .i64 m.lost], .int .i64 k] w (TTook w0 p mB b m (m.drop k) ls ps ks (m.at_ k).isSome) := by
  obtain ⟨G, R, T⟩ := T
  obtain ⟨lv, r1, r2⟩ := T.ref
  refine (rtake_any R m _ k w ⟨⟨_, rfl, T.lists _ hx⟩, r2.small, r2.lows, r2.low⟩).mono ?_
  rintro e w' ⟨v', x, y, xa, xn, xc, rfl, hv, hb⟩
  obtain ⟨R', T', hR0, hR⟩ := T.answer hb
  obtain ⟨⟨lv, rfl, hl⟩, h1, h2, h3⟩ := hv
  have hl2 := hl
  obtain ⟨a, n, rfl, _⟩ := hl
  exact ⟨a, n, x, y, xa, xn, xc, rfl, ⟨G, R', T'.addList (hl2.mono (fun k hk hk' => hk'.elim (hR0 k) (fun h => hR k h hk)))⟩, h1, h2, h3⟩

/-- The document's bag is written anew. -/
theorem Two.store (T : Two w0 p mB b m ls ps ks w) {lv : Value} (hx : (lv, m'.l) ∈ ls) (h1 : m'.l.length ≤ 48) (h2 : m'.sent < 4611686018427387904) (h3 : m'.lost < 4611686018427387904) :
    Two w0 p mB b m' ls ps ks (((w.setCell ⟨mB, 0, none⟩ lv).setCell ⟨mB, 1, none⟩ (.int .i64 m'.sent)).setCell ⟨mB, 2, none⟩ (.int .i64 m'.lost)) := by
  obtain ⟨G, R, T⟩ := T
  obtain ⟨lv', r1, r2⟩ := T.ref
  have hmB := lt_of_heap r1
  have hk : ∀ k, k ≠ mB → (((w.setCell ⟨mB, 0, none⟩ lv).setCell ⟨mB, 1, none⟩ (.int .i64 m'.sent)).setCell ⟨mB, 2, none⟩ (.int .i64 m'.lost)).heap[k]? = w.heap[k]? := fun k hk => keep_set (keep_set (keep_set rfl hk) hk) hk
  have hs : (((w.setCell ⟨mB, 0, none⟩ lv).setCell ⟨mB, 1, none⟩ (.int .i64 m'.sent)).setCell ⟨mB, 2, none⟩ (.int .i64 m'.lost)).heap.size = w.heap.size := by simp [World.setCell]
  have hl := (T.lists _ hx).keep (fun k _ hR => hk k (T.rs k hR).2.2) (Nat.le_of_eq hs.symm)
  refine ⟨G, R, T.bag.keep (fun k _ hg => hk k (T.gs k hg).2.2) (Nat.le_of_eq hs.symm), ⟨lv, ?_, ⟨_, rfl, hl⟩, h1, h2, h3⟩, fun x hx => (T.lists x hx).keep (fun k _ hR => hk k (T.rs k hR).2.2) (Nat.le_of_eq hs.symm), fun x hx => (T.pkts x hx).keep (fun k _ hR => hk k (T.rs k hR).2.2) (Nat.le_of_eq hs.symm), by rw [hs]; exact T.gs, by rw [hs]; exact T.rs, fun x hx => ⟨(hk x.1 (T.kept x hx).2.2.2.1).trans (T.kept x hx).1, (T.kept x hx).2⟩, T.mb, ((T.below.setCell (by have := T.mb; simpa using this) _).setCell (by have := T.mb; simpa using this) _).setCell (by have := T.mb; simpa using this) _⟩
  rw [blk_set (blk_set (blk_set r1 0 _) 1 _) 2 _]; rfl
theorem Two.weaken (T : Two w0 p mB b m ls ps ks w) : Two w0 p mB b m [] [] [] w := by
  obtain ⟨G, R, T⟩ := T
  exact ⟨G, R, { T with lists := fun _ h => (by cases h), pkts := fun _ h => (by cases h), kept := fun _ h => (by cases h) }⟩
/-- A new block, kept. -/
theorem Two.box (T : Two w0 p mB b m ls ps ks w) (o : Obj) : Two w0 p mB b m ls ps ((w.heap.size, o) :: ks) (w.alloc o) := by
  have hz := T.size
  have T0 := T.boxed o
  obtain ⟨G, R, T⟩ := T
  have hB : Below w.heap.size w (w.alloc o) := (Below.refl _ _).alloc (Nat.le_refl _) o
  obtain ⟨lv, r1, r2⟩ := T.ref
  exact ⟨G, R, T.bag.below hB, ⟨lv, (hB.block mB hz.2.1).trans r1, r2.keep (fun k hk _ => hB.block k hk) hB.size⟩, fun x hx => (T.lists x hx).below hB, fun x hx => (T.pkts x hx).below hB,
    fun k hk => by have := T.gs k hk; simp; omega, fun k hk => by have := T.rs k hk; refine ⟨this.1, ?_, this.2.2⟩; simp; omega, fun x hx => by
      rcases List.mem_cons.1 hx with rfl | hx
      · exact ⟨heap_at w o _ rfl, fun hg => by have := T.gs _ hg; simp at this, fun hg => by have := T.rs _ hg; simp at this, by simp; omega, T.below.size⟩
      · exact ⟨(hB.block x.1 (lt_of_heap (T.kept x hx).1)).trans (T.kept x hx).1, (T.kept x hx).2⟩, T.mb, T.below.trans (hB.mono T.below.size)⟩
/-- A store into a kept block. -/
theorem Two.set (T : Two w0 p mB b m ls ps ks w) {n i : Nat} {u : Value} {cs : Array Value} {t : TypeId} {fr : Nat × Nat} (hn : (n, .cells cs t fr) ∈ ks) (ks' : List (Nat × Obj)) (hk : ∀ x ∈ ks', x ∈ ks ∧ x.1 ≠ n) : Two w0 p mB b m ls ps ((n, .cells (cs.setIfInBounds i u) t fr) :: ks') (w.setCell ⟨n, i, none⟩ u) := by
  obtain ⟨G, R, T⟩ := T
  obtain ⟨lv, r1, r2⟩ := T.ref
  obtain ⟨n1, n2, n3, n4, n5⟩ := T.kept _ hn
  have hh : ∀ k, k ≠ n → (w.setCell ⟨n, i, none⟩ u).heap[k]? = w.heap[k]? := fun k hk => keep_set rfl hk
  have hs : (w.setCell ⟨n, i, none⟩ u).heap.size = w.heap.size := by simp [World.setCell]
  have hR : ∀ k, k < w.heap.size → R k → (w.setCell ⟨n, i, none⟩ u).heap[k]? = w.heap[k]? := fun k _ h => hh k (fun e => n3 (e ▸ h))
  have hs' := Nat.le_of_eq hs.symm
  refine ⟨G, R, T.bag.keep (fun k _ hg => hh k (fun e => n2 (e ▸ hg))) hs', ⟨lv, (hh mB (Ne.symm n4)).trans r1, r2.keep hR hs'⟩, fun x hx => (T.lists x hx).keep hR hs', fun x hx => (T.pkts x hx).keep hR hs', by rw [hs]; exact T.gs, by rw [hs]; exact T.rs, fun x hx => ?_, T.mb, T.below.setCell n5 _⟩
  rcases List.mem_cons.1 hx with rfl | hx
  · exact ⟨blk_set n1 i u, n2, n3, n4, n5⟩
  · obtain ⟨hx, hne⟩ := hk x hx
    exact ⟨(hh x.1 hne).trans (T.kept x hx).1, (T.kept x hx).2⟩
theorem Two.set3 (T : Two w0 p mB b m ls ps ks w) {n : Nat} {x y z x' y' z' : Value} {t : TypeId} {fr : Nat × Nat} (hn : (n, Obj.cells #[x, y, z] t fr) ∈ ks) (ks' : List (Nat × Obj)) (hk : ∀ x ∈ ks', x ∈ ks ∧ x.1 ≠ n) : Two w0 p mB b m ls ps ((n, .cells #[x', y', z'] t fr) :: ks') (((w.setCell ⟨n, 0, none⟩ x').setCell ⟨n, 1, none⟩ y').setCell ⟨n, 2, none⟩ z') :=
  ((T.set (i := 0) (u := x') hn ks' hk).set (i := 1) (u := y') List.mem_cons_self ks' (fun x hx => ⟨List.mem_cons_of_mem _ hx, (hk x hx).2⟩)).set (i := 2) (u := z') List.mem_cons_self ks' (fun x hx => ⟨List.mem_cons_of_mem _ hx, (hk x hx).2⟩)
theorem Two.has5 (T : Two w0 p mB b m ls ps ks w) {n : Nat} {x0 x1 x2 x3 x4 : Value} {t : TypeId} {fr : Nat × Nat} (hn : (n, Obj.cells #[x0, x1, x2, x3, x4] t fr) ∈ ks) :
    w.cell? ⟨n, 0, none⟩ = some x0 ∧ w.cell? ⟨n, 1, none⟩ = some x1 ∧ w.cell? ⟨n, 2, none⟩ = some x2 ∧ w.cell? ⟨n, 3, none⟩ = some x3 ∧ w.cell? ⟨n, 4, none⟩ = some x4 := by
  obtain ⟨G, R, T⟩ := T
  have h := (T.kept _ hn).1
  exact ⟨blk_cell h 0, blk_cell h 1, blk_cell h 2, blk_cell h 3, blk_cell h 4⟩
theorem Two.has3 (T : Two w0 p mB b m ls ps ks w) {n : Nat} {x0 x1 x2 : Value} {t : TypeId} (hn : (n, Obj.cells #[x0, x1, x2] t (0, 0)) ∈ ks) :
    w.cell? ⟨n, 0, none⟩ = some x0 ∧ w.cell? ⟨n, 1, none⟩ = some x1 ∧ w.cell? ⟨n, 2, none⟩ = some x2 ∧ w.frozen? ⟨n, 0, none⟩ = false ∧ w.frozen? ⟨n, 1, none⟩ = false ∧ w.frozen? ⟨n, 2, none⟩ = false := by
  obtain ⟨G, R, T⟩ := T
  exact blk3 (T.kept _ hn).1
theorem Two.has (T : Two w0 p mB b m ls ps ks w) {n : Nat} {o : Obj} (hn : (n, o) ∈ ks) : w.heap[n]? = some o := by
  obtain ⟨G, R, T⟩ := T
  exact (T.kept _ hn).1
theorem same_t (T : Two w0 p mB b m ls ps ks w) (q : Pkt) {x y : Value} (hx : (x, q.data) ∈ ps) (hy : (y, q.data) ∈ ps) :
    Calls Try.prog 20 #[.agg #[.int .i64 q.src, .int .i64 q.dst, x], .agg #[.int .i64 q.src, .int .i64 q.dst, y]] w fun e w' => e = .returned (.bool true) ∧ Two w0 p mB b m ls ps ks w' := by
  have T0 := T
  obtain ⟨G, R, T⟩ := T
  exact (same_true _ _ q _ _ w (T.pkts _ hx) (T.pkts _ hy)).mono fun _ _ ⟨h1, h2⟩ => ⟨h1, T0.keep h2⟩
theorem sameAll_t (T : Two w0 p mB b m ls ps ks w) (l : List Pkt) {x y : Value} (hx : (x, l) ∈ ls) (hy : (y, l) ∈ ls) :
    Calls Try.prog 19 #[x, y] w fun e w' => e = .returned (.bool true) ∧ Two w0 p mB b m ls ps ks w' := by
  have T0 := T
  obtain ⟨G, R, T⟩ := T
  exact (sameAll_any _ _ l _ _ w (T.lists _ hx) (T.lists _ hy)).mono fun _ _ ⟨h1, h2⟩ => ⟨h1, T0.keep h2⟩
theorem send_u (T : Two w0 p mB b m ls ps ks w) (q : Pkt) {x : Value} (hx : (x, q.data) ∈ ps) (hs : b.sent + 1 < 4611686018427387904) (hl : b.lost + 1 < 4611686018427387904) :
    Calls Try.prog 11 #[.pointer (some ⟨p, 0, none⟩), .agg #[.int .i64 q.src, .int .i64 q.dst, x]] w fun e w' => e = .returned (.int .i64 (b.sendE q)) ∧ Two w0 p mB (b.send q) m ls ps ks w' := by
  have T0 := T
  obtain ⟨G, R, T⟩ := T
  exact send_t T0 R q x (T.pkts _ hx) (fun k _ hR e => (T.rs k hR).1 (e ▸ T.bag.head.1)) hs hl
theorem Two.start {w2 : World} (h : BS w0 p ⟨[], 0, 0⟩ w2) : Two w0 p w2.heap.size ⟨[], 0, 0⟩ ⟨[], 0, 0⟩ [] [] [] (w2.alloc (.cells #[.slice none 0 0, .int .i64 0, .int .i64 0] 48)) := by
  refine ⟨_, fun _ => False, (h.bag.tight).below ((Below.refl _ _).alloc (Nat.le_refl _) _), ⟨_, heap_at w2 _ _ rfl, ⟨_, rfl, PktsV.nil _ _⟩, by simp, by decide, by decide⟩, fun _ h => (by cases h), fun _ h => (by cases h), fun k hk => ⟨hk.1, by simp; omega, by omega⟩, fun _ h => h.elim, fun _ h => (by cases h), h.below.size, h.below.alloc h.below.size _⟩
theorem _root_.Go.Proofs.Ytdjgmgppghipkaa.Bg.drop_counts (b : Bg) (k : Int) : (b.drop k).sent = b.sent ∧ (b.drop k).lost = b.lost := by unfold Bg.drop; split <;> exact ⟨rfl, rfl⟩
theorem _root_.Go.Proofs.Ytdjgmgppghipkaa.Bg.double_counts (b : Bg) (k : Int) : (b.double k).sent = b.sent ∧ (b.double k).lost = b.lost := by
  unfold Bg.double
  split
  · exact ⟨rfl, rfl⟩
  · split <;> exact ⟨rfl, rfl⟩
end
end Go.Proofs.Ytdjgmgppghipkaa
