/- As Ok, and blocks that are kept besides; the document's reader's calls. -/
import Derived.Test.YtflacchpgcggnaaOc
import Derived.Test.YtflacchpgcggnaaRefc
namespace Go.Proofs.Ytflacchpgcggnaa
open Go.RowKit

structure OH (Gw Gr K : Nat → Prop) (w0 : World) (pw : Option (Nat × List UInt8)) (pr pm : Option (Nat × Rd)) (ps : List (Value × List UInt8)) (ks : List (Nat × Obj)) (w : World) : Prop where
  wr : ∀ x, pw = some x → WrAt Gw w x.1 x.2
  rd : ∀ x, pr = some x → RdAt Gr w x.1 x.2
  rf : ∀ x, pm = some x → (∃ lv, w.heap[x.1]? = some (.cells #[lv, .int .i64 x.2.err] 42 (0, 0)) ∧ BytesV K w lv x.2.left) ∧ ¬ Gw x.1 ∧ ¬ Gr x.1 ∧ ¬ K x.1 ∧ w0.heap.size ≤ x.1
  ps : ∀ x ∈ ps, BytesV K w x.1 x.2
  gw : ∀ k, Gw k → w0.heap.size ≤ k ∧ k < w.heap.size
  gr : ∀ k, Gr k → w0.heap.size ≤ k ∧ k < w.heap.size ∧ ¬ Gw k
  kk : ∀ k, K k → k < w.heap.size ∧ ¬ Gw k ∧ ¬ Gr k
  kept : ∀ x ∈ ks, w.heap[x.1]? = some x.2 ∧ ¬ Gw x.1 ∧ ¬ Gr x.1 ∧ ∀ y, pm = some y → x.1 ≠ y.1
  below : Below w0.heap.size w0 w
def Ok (w0 : World) (pw : Option (Nat × List UInt8)) (pr pm : Option (Nat × Rd)) (ps : List (Value × List UInt8)) (ks : List (Nat × Obj)) (w : World) : Prop := ∃ Gw Gr K, OH Gw Gr K w0 pw pr pm ps ks w

section
variable {w0 w w' : World} {pw : Option (Nat × List UInt8)} {pr pm : Option (Nat × Rd)} {ps : List (Value × List UInt8)} {ks : List (Nat × Obj)}

theorem Ok.out (h : Ok w0 pw pr pm ps ks w) : Below w0.heap.size w0 w := by obtain ⟨_, _, _, h⟩ := h; exact h.below
theorem Ok.start (w : World) : Ok w none none none [] [] w :=
  ⟨fun _ => False, fun _ => False, fun _ => False, fun _ h => (by cases h), fun _ h => (by cases h), fun _ h => (by cases h), fun _ h => (by cases h), fun _ h => h.elim, fun _ h => h.elim, fun _ h => h.elim, fun _ h => (by cases h), Below.refl _ _⟩
theorem Ok.keep (h : Ok w0 pw pr pm ps ks w) (hb : Below w.heap.size w w') : Ok w0 pw pr pm ps ks w' := by
  obtain ⟨Gw, Gr, K, h⟩ := h
  have hs := hb.size
  refine ⟨Gw, Gr, K, fun x hx => (h.wr x hx).below hb, fun x hx => (h.rd x hx).below hb, fun x hx => ?_, fun x hx => (h.ps x hx).below hb, fun k hk => by have := h.gw k hk; omega, fun k hk => by have := h.gr k hk; exact ⟨this.1, by omega, this.2.2⟩, fun k hk => by have := h.kk k hk; exact ⟨by omega, this.2⟩, fun x hx => ⟨(hb.block x.1 (lt_of_heap (h.kept x hx).1)).trans (h.kept x hx).1, (h.kept x hx).2⟩, h.below.trans (hb.mono h.below.size)⟩
  obtain ⟨⟨lv, h1, h2⟩, h3⟩ := h.rf x hx
  exact ⟨⟨lv, (hb.block x.1 (lt_of_heap h1)).trans h1, h2.below hb⟩, h3⟩
theorem Ok.drew (h : Ok w0 pw pr pm ps ks w) : Ok w0 pw pr pm ps ks w.drew := h.keep ⟨rfl, rfl, rfl, Nat.le_refl _, fun _ _ => rfl⟩
theorem Ok.drewN (h : Ok w0 pw pr pm ps ks w) (n : Nat) : Ok w0 pw pr pm ps ks (w.drewN n) := h.keep ⟨rfl, rfl, rfl, Nat.le_refl _, fun _ _ => rfl⟩
theorem Ok.box (h : Ok w0 pw pr pm ps ks w) (o : Obj) : Ok w0 pw pr pm ps ks (w.alloc o) := h.keep ((Below.refl _ _).alloc (Nat.le_refl _) o)

/-- What is new behind w is kept. -/
theorem OH.answer {Gw Gr K : Nat → Prop} (h : OH Gw Gr K w0 pw pr pm ps ks w) (hb : Below w.heap.size w w') : OH Gw Gr (fun k => K k ∨ (w.heap.size ≤ k ∧ k < w'.heap.size)) w0 pw pr pm ps ks w' := by
  have hs := hb.size
  refine ⟨fun x hx => (h.wr x hx).below hb, fun x hx => (h.rd x hx).below hb, fun x hx => ?_, fun x hx => ((h.ps x hx).below hb).mono (fun _ _ hk => Or.inl hk), fun k hk => by have := h.gw k hk; omega, fun k hk => by have := h.gr k hk; exact ⟨this.1, by omega, this.2.2⟩, fun k hk => ?_, fun x hx => ⟨(hb.block x.1 (lt_of_heap (h.kept x hx).1)).trans (h.kept x hx).1, (h.kept x hx).2⟩, h.below.trans (hb.mono h.below.size)⟩
  · obtain ⟨⟨lv, h1, h2⟩, h3, h4, h5, h6⟩ := h.rf x hx
    have hlt := lt_of_heap h1
    exact ⟨⟨lv, (hb.block x.1 hlt).trans h1, (h2.below hb).mono (fun _ _ hk => Or.inl hk)⟩, h3, h4, fun hk => hk.elim h5 (fun h => by omega), h6⟩
  · rcases hk with hk | hk
    · have := h.kk k hk; exact ⟨by omega, this.2⟩
    · exact ⟨hk.2, fun hg => by have := h.gw k hg; omega, fun hg => by have := h.gr k hg; omega⟩
theorem OH.add {Gw Gr K : Nat → Prop} (h : OH Gw Gr K w0 pw pr pm ps ks w) {v : Value} {l : List UInt8} (hv : BytesV K w v l) : OH Gw Gr K w0 pw pr pm ((v, l) :: ps) ks w :=
  { h with ps := fun x hx => by rcases List.mem_cons.1 hx with rfl | hx; exact hv; exact h.ps x hx }
/-- Old memory reads on. -/
theorem Ok.old {D : Nat → Prop} {v : Value} {l : List UInt8} (h : Ok w0 pw pr pm ps ks w) (hv : BytesV D w0 v l) : Ok w0 pw pr pm ((v, l) :: ps) ks w := by
  obtain ⟨Gw, Gr, K, h⟩ := h
  have hs := h.below.size
  refine ⟨Gw, Gr, fun k => K k ∨ k < w0.heap.size, h.wr, h.rd, fun x hx => ?_, fun x hx => ?_, h.gw, h.gr, fun k hk => ?_, h.kept, h.below⟩
  · obtain ⟨⟨lv, h1, h2⟩, h3, h4, h5, h6⟩ := h.rf x hx
    exact ⟨⟨lv, h1, h2.mono (fun _ _ hk => Or.inl hk)⟩, h3, h4, fun hk => hk.elim h5 (fun h => by omega), h6⟩
  · rcases List.mem_cons.1 hx with rfl | hx
    · exact (hv.mono (fun k hk _ => Or.inr hk)).below h.below
    · exact (h.ps x hx).mono (fun _ _ hk => Or.inl hk)
  · rcases hk with hk | hk
    · exact h.kk k hk
    · exact ⟨by omega, fun hg => by have := h.gw k hg; omega, fun hg => by have := h.gr k hg; omega⟩
theorem Ok.weaken (h : Ok w0 pw pr pm ps ks w) : Ok w0 pw pr pm [] ks w := by
  obtain ⟨Gw, Gr, K, h⟩ := h; exact ⟨Gw, Gr, K, { h with ps := fun _ h => (by cases h) }⟩
theorem Ok.bytes (h : Ok w0 pw pr pm ps ks w) {v : Value} {l : List UInt8} (hv : (v, l) ∈ ps) : ∃ K, BytesV K w v l := by obtain ⟨_, _, K, h⟩ := h; exact ⟨K, h.ps _ hv⟩

/-- A call on the writer. -/
theorem Ok.wstep {p : Nat} {l l' : List UInt8} {Gw Gr K : Nat → Prop} (h : OH Gw Gr K w0 (some (p, l)) pr pm ps ks w) (hw : WrAt (Up Gw w) w' p l') (hm : Mod Gw w w') : Ok w0 (some (p, l')) pr pm ps ks w' := by
  have hs := hm.size
  have hB := h.below.size
  refine ⟨fun k => Up Gw w k ∧ k < w'.heap.size, Gr, K, fun x hx => by injection hx with hx; subst hx; exact hw.tight, fun x hx => (h.rd x hx).mod hm (fun k _ hk => (h.gr k hk).2.2), fun x hx => ?_, fun x hx => (h.ps x hx).mod hm (fun k _ hk => (h.kk k hk).2.1), fun k hk => ?_, fun k hk => ?_, fun k hk => ?_, fun x hx => ?_, h.below.trans (hm.toBelow hB (fun k hk => (h.gw k hk).1))⟩
  · obtain ⟨⟨lv, h1, h2⟩, h3, h4, h5, h6⟩ := h.rf x hx
    have hlt := lt_of_heap h1
    refine ⟨⟨lv, (hm.block x.1 hlt h3).trans h1, h2.mod hm (fun k _ hk => (h.kk k hk).2.1)⟩, ?_, h4, h5, h6⟩
    rintro ⟨hg | hg, _⟩
    · exact h3 hg
    · omega
  · rcases hk.1 with hg | hg
    · have := h.gw k hg; omega
    · omega
  · have := h.gr k hk
    refine ⟨this.1, by omega, ?_⟩
    rintro ⟨hg | hg, _⟩
    · exact this.2.2 hg
    · omega
  · have := h.kk k hk
    refine ⟨by omega, ?_, this.2.2⟩
    rintro ⟨hg | hg, _⟩
    · exact this.2.1 hg
    · omega
  · obtain ⟨k1, k2, k3, k4⟩ := h.kept x hx
    have hlt := lt_of_heap k1
    refine ⟨(hm.block x.1 hlt k2).trans k1, ?_, k3, k4⟩
    rintro ⟨hg | hg, _⟩
    · exact k2 hg
    · omega
theorem wnum_k {p : Nat} {l : List UInt8} (h : Ok w0 (some (p, l)) pr pm ps ks w) (n : Int) (hn : n ≤ 9223372036854775807) (hl : l.length + 9 ≤ 140737488355328) :
    Calls Try.prog 11 #[.pointer (some ⟨p, 0, none⟩), .int .i64 n] w fun e w' => e = .returned (.tuple #[]) ∧ Ok w0 (some (p, l ++ enc n.toNat)) pr pm ps ks w' := by
  obtain ⟨Gw, Gr, K, h⟩ := h
  exact (wnum_any Gw p l n w (h.wr _ rfl) hn hl).mono fun _ _ ⟨h1, h2, h3⟩ => ⟨h1, Ok.wstep h h2 h3⟩
theorem wtext_k {p : Nat} {l : List UInt8} (h : Ok w0 (some (p, l)) pr pm ps ks w) (s : ByteArray) (hl : l.length + 9 + s.size ≤ 140737488355328) :
    Calls Try.prog 24 #[.pointer (some ⟨p, 0, none⟩), .string s] w fun e w' => e = .returned (.tuple #[]) ∧ Ok w0 (some (p, l ++ encText s.data.toList)) pr pm ps ks w' := by
  obtain ⟨Gw, Gr, K, h⟩ := h
  exact (text_any Gw p l s w (h.wr _ rfl) hl).mono fun _ _ ⟨h1, h2, h3⟩ => ⟨h1, Ok.wstep h h2 h3⟩
theorem wbytes_k {p : Nat} {l : List UInt8} (h : Ok w0 (some (p, l)) pr pm ps ks w) (hl : l.length ≤ 140737488355328) :
    Calls Try.prog 13 #[.pointer (some ⟨p, 0, none⟩)] w fun e w' => ∃ a c, e = .returned (.slice a l.length c) ∧ Ok w0 (some (p, l)) pr pm ((.slice a l.length c, l) :: ps) ks w' := by
  obtain ⟨Gw, Gr, K, h⟩ := h
  refine (bytes_any Gw p l w (h.wr _ rfl) hl).mono ?_
  rintro e w' ⟨v, rfl, ⟨n, hn⟩, hb⟩
  have hv := BytesV.of_own hn
  have hv2 := hv
  obtain ⟨a, c, rfl, _⟩ := hv
  exact ⟨a, c, rfl, _, _, _, (h.answer hb).add (hv2.mono (fun k hk hk' => Or.inr ⟨hk', hk⟩))⟩
/-- A new writer: its block has just been laid. -/
theorem Ok.writer (h : Ok w0 none pr pm ps ks w) : Ok w0 (some (w.heap.size, [])) pr pm ps ks (w.alloc (.cells #[.slice none 0 0] 24)) := by
  obtain ⟨Gw, Gr, K, h⟩ := h
  have hb : Below w.heap.size w (w.alloc (.cells #[.slice none 0 0] 24)) := (Below.refl _ _).alloc (Nat.le_refl _) _
  refine ⟨fun k => k = w.heap.size, Gr, K, fun x hx => ?_, fun x hx => (h.rd x hx).below hb, fun x hx => ?_, fun x hx => (h.ps x hx).below hb, fun k hk => by subst hk; exact ⟨h.below.size, by simp⟩, fun k hk => ?_, fun k hk => ?_, fun x hx => ?_, h.below.alloc h.below.size _⟩
  · injection hx with hx; subst hx
    exact ⟨⟨rfl, by simp⟩, _, heap_at w _ _ rfl, World.ownsRow_nil _ _ _ _, fun g hg => by simp [Value.ownBlock] at hg⟩
  · obtain ⟨⟨lv, h1, h2⟩, h3, h4⟩ := h.rf x hx
    have hlt := lt_of_heap h1
    exact ⟨⟨lv, (hb.block x.1 hlt).trans h1, h2.below hb⟩, by omega, h4⟩
  · have := h.gr k hk; exact ⟨this.1, by simp; omega, by omega⟩
  · have := h.kk k hk; exact ⟨by simp; omega, by omega, this.2.2⟩
  · obtain ⟨k1, k2, k3, k4⟩ := h.kept x hx
    have hlt := lt_of_heap k1
    exact ⟨(hb.block x.1 hlt).trans k1, by omega, k3, k4⟩

/-- A call on the reader. -/
theorem Ok.rstep {p : Nat} {r r' : Rd} {Gw Gr K : Nat → Prop} (h : OH Gw Gr K w0 pw (some (p, r)) pm ps ks w) (hw : RdAt Gr w' p r') (hm : Mod Gr w w') : Ok w0 pw (some (p, r')) pm ps ks w' := by
  have hs := hm.size
  have hB := h.below.size
  refine ⟨Gw, Gr, K, fun x hx => (h.wr x hx).mod hm (fun k _ hk hr => (h.gr k hr).2.2 hk), fun x hx => by injection hx with hx; subst hx; exact hw, fun x hx => ?_, fun x hx => (h.ps x hx).mod hm (fun k _ hk => (h.kk k hk).2.2), fun k hk => by have := h.gw k hk; omega, fun k hk => by have := h.gr k hk; exact ⟨this.1, by omega, this.2.2⟩, fun k hk => by have := h.kk k hk; exact ⟨by omega, this.2⟩, fun x hx => ⟨(hm.block x.1 (lt_of_heap (h.kept x hx).1) (h.kept x hx).2.2.1).trans (h.kept x hx).1, (h.kept x hx).2⟩, h.below.trans (hm.toBelow hB (fun k hk => (h.gr k hk).1))⟩
  obtain ⟨⟨lv, h1, h2⟩, h3, h4, h5, h6⟩ := h.rf x hx
  exact ⟨⟨lv, (hm.block x.1 (lt_of_heap h1) h4).trans h1, h2.mod hm (fun k _ hk => (h.kk k hk).2.2)⟩, h3, h4, h5, h6⟩
theorem rnum_k {p : Nat} {r : Rd} (h : Ok w0 pw (some (p, r)) pm ps ks w) :
    Calls Try.prog 15 #[.pointer (some ⟨p, 0, none⟩)] w fun e w' => e = .returned (.int .i64 r.num) ∧ Ok w0 pw (some (p, r.numR)) pm ps ks w' := by
  obtain ⟨Gw, Gr, K, h⟩ := h
  exact (rnum_any Gr p r w (h.rd _ rfl)).mono fun _ _ ⟨h1, h2, h3⟩ => ⟨h1, Ok.rstep h h2 h3⟩
theorem rtext_k {p : Nat} {r : Rd} (h : Ok w0 pw (some (p, r)) pm ps ks w) (m : Int) :
    Calls Try.prog 21 #[.pointer (some ⟨p, 0, none⟩), .int .i64 m] w fun e w' => e = .returned (.string (strOf (r.text m))) ∧ Ok w0 pw (some (p, r.textR m)) pm ps ks w' := by
  obtain ⟨Gw, Gr, K, h⟩ := h
  exact (rtext_any Gr p r m w (h.rd _ rfl)).mono fun _ _ ⟨h1, h2, h3⟩ => ⟨h1, Ok.rstep h h2 h3⟩
theorem left_k {p : Nat} {r : Rd} (h : Ok w0 pw (some (p, r)) pm ps ks w) : Calls Try.prog 20 #[.pointer (some ⟨p, 0, none⟩)] w fun e w' => e = .returned (.int .i64 r.left.length) ∧ w = w' := by
  obtain ⟨Gw, Gr, K, h⟩ := h; exact left_any _ _ _ _ (h.rd _ rfl)
theorem err_k {p : Nat} {r : Rd} (h : Ok w0 pw (some (p, r)) pm ps ks w) : Calls Try.prog 16 #[.pointer (some ⟨p, 0, none⟩)] w fun e w' => e = .returned (.int .i64 r.err) ∧ w = w' := by
  obtain ⟨Gw, Gr, K, h⟩ := h; exact err_any _ _ _ _ (h.rd _ rfl)
theorem newReader_k (h : Ok w0 pw none pm ps ks w) {v : Value} {l : List UInt8} (hv : (v, l) ∈ ps) (hl : l.length ≤ 140737488355328) :
    Calls Try.prog 12 #[v] w fun e w' => ∃ q, e = .returned (.pointer (some ⟨q, 0, none⟩)) ∧ Ok w0 pw (some (q, ⟨l, 0⟩)) pm ps ks w' := by
  obtain ⟨Gw, Gr, K, h⟩ := h
  refine (newReader_any K l v w (h.ps _ hv) hl).mono ?_
  rintro e w' ⟨q, rfl, hr, hb⟩
  have hs := hb.size
  refine ⟨q, rfl, Gw, fun k => w.heap.size ≤ k ∧ k < w'.heap.size, K, fun x hx => (h.wr x hx).below hb, fun x hx => by injection hx with hx; subst hx; exact hr.mono (fun k hk h => ⟨h, hk⟩), fun x hx => ?_, fun x hx => (h.ps x hx).below hb, fun k hk => by have := h.gw k hk; omega, fun k hk => ⟨by have := h.below.size; omega, hk.2, fun hg => by have := h.gw k hg; omega⟩, fun k hk => ?_, fun x hx => ?_, h.below.trans (hb.mono h.below.size)⟩
  · obtain ⟨⟨lv, h1, h2⟩, h3, h4, h5⟩ := h.rf x hx
    have hlt := lt_of_heap h1
    exact ⟨⟨lv, (hb.block x.1 hlt).trans h1, h2.below hb⟩, h3, by omega, h5⟩
  · have := h.kk k hk
    exact ⟨by omega, this.2.1, by omega⟩
  · obtain ⟨k1, k2, k3, k4⟩ := h.kept x hx
    have hlt := lt_of_heap k1
    exact ⟨(hb.block x.1 hlt).trans k1, k2, by omega, k4⟩
theorem sum_k (h : Ok w0 pw pr pm ps ks w) {v : Value} {l : List UInt8} (hv : (v, l) ∈ ps) :
    Calls Try.prog 28 #[v] w fun e w' => e = .returned (.int .u32 (sumOf l)) ∧ w = w' := by
  obtain ⟨Gw, Gr, K, h⟩ := h; exact sum_any K l v w (h.ps _ hv)
theorem ofFour_k (h : Ok w0 pw pr pm ps ks w) {v : Value} {l : List UInt8} (hv : (v, l) ∈ ps) :
    Calls Try.prog 25 #[v] w fun e w' => e = .returned (.tuple #[.int .u32 (ofFour l), .bool (decide (4 ≤ l.length))]) ∧ Ok w0 pw pr pm ps ks w' := by
  have h0 := h
  obtain ⟨Gw, Gr, K, h⟩ := h
  exact (ofFour_any K l v w (h.ps _ hv)).mono fun _ _ ⟨h1, n, h2⟩ => ⟨h1, h2 ▸ h0.drewN n⟩
theorem four_k (h : Ok w0 pw pr pm ps ks w) (x : Nat) (hx : x < 4294967296) :
    Calls Try.prog 27 #[.int .u32 x] w fun e w' => ∃ a, e = .returned (.slice a 4 4) ∧ Ok w0 pw pr pm ((.slice a 4 4, four x) :: ps) ks w' := by
  obtain ⟨Gw, Gr, K, h⟩ := h
  refine (four_any x w hx).mono ?_
  rintro e w' ⟨rfl, rfl⟩
  have hb : Below w.heap.size w (w.alloc (.cells ((four x).map B8).toArray 5)) := (Below.refl _ _).alloc (Nat.le_refl _) _
  exact ⟨_, rfl, _, _, _, (h.answer hb).add ((BytesV.of_block (l := four x) (c := 4) (heap_at w _ _ rfl) (fun j x hx => by simp [hx]) (by simp [four]) (by decide)).mono (fun k hk e => Or.inr ⟨Nat.le_of_eq e.symm, hk⟩))⟩
/-- A block of bytes that has just been laid. -/
theorem Ok.lit (h : Ok w0 pw pr pm ps ks w) (l : List UInt8) (fr : Nat × Nat) (cs : Array Value) (hcs : cs = (l.map B8).toArray) (n : Nat) (hn : n = l.length) (hl : n ≤ maxLen) : Ok w0 pw pr pm ((.slice (some ⟨w.heap.size, 0, none⟩) n n, l) :: ps) ks (w.alloc (.cells cs 5 fr)) := by
  subst hcs hn
  obtain ⟨Gw, Gr, K, h⟩ := h
  have hb : Below w.heap.size w (w.alloc (.cells (l.map B8).toArray 5 fr)) := (Below.refl _ _).alloc (Nat.le_refl _) _
  exact ⟨_, _, _, (h.answer hb).add ((BytesV.of_block (l := l) (c := l.length) (heap_at w _ _ rfl) (fun j x hx => by simp [hx]) (Nat.le_refl _) hl).mono (fun k hk e => Or.inr ⟨Nat.le_of_eq e.symm, hk⟩))⟩
theorem Ok.str (h : Ok w0 pw pr pm ps ks w) {v : Value} {l : List UInt8} (hv : (v, l) ∈ ps) : (convert 22 9 v).run Try.prog w = .ok (.string (strOf l)) w := by
  obtain ⟨Gw, Gr, K, h⟩ := h
  exact (h.ps _ hv).string 22 9 5 Try.underlying22 Try.underlying5 Try.underlying9 (fun _ _ _ => rfl)
theorem Ok.clean (h : Ok w0 pw pr pm ps ks w) : Ok w0 pw pr pm [] [] w := by
  obtain ⟨Gw, Gr, K, h⟩ := h; exact ⟨Gw, Gr, K, { h with ps := fun _ h => (by cases h), kept := fun _ h => (by cases h) }⟩
theorem Ok.has (h : Ok w0 pw pr pm ps ks w) {n : Nat} {o : Obj} (hn : (n, o) ∈ ks) : w.heap[n]? = some o := by obtain ⟨_, _, _, h⟩ := h; exact (h.kept _ hn).1
theorem Ok.ne {m : Nat × Rd} (h : Ok w0 pw pr (some m) ps ks w) {n : Nat} {o : Obj} (hn : (n, o) ∈ ks) : n ≠ m.1 := by obtain ⟨_, _, _, h⟩ := h; exact (h.kept _ hn).2.2.2 _ rfl
/-- A new block, kept. -/
theorem Ok.boxk (h : Ok w0 pw pr pm ps ks w) (o : Obj) : Ok w0 pw pr pm ps ((w.heap.size, o) :: ks) (w.alloc o) := by
  have h' := h.box o
  obtain ⟨Gw, Gr, K, h⟩ := h
  have hb : Below w.heap.size w (w.alloc o) := (Below.refl _ _).alloc (Nat.le_refl _) o
  refine ⟨Gw, Gr, K, fun x hx => (h.wr x hx).below hb, fun x hx => (h.rd x hx).below hb, fun x hx => ?_, fun x hx => (h.ps x hx).below hb, fun k hk => by have := h.gw k hk; simp; omega, fun k hk => by have := h.gr k hk; exact ⟨this.1, by simp; omega, this.2.2⟩, fun k hk => by have := h.kk k hk; exact ⟨by simp; omega, this.2⟩, fun x hx => ?_, h.below.trans (hb.mono h.below.size)⟩
  · obtain ⟨⟨lv, h1, h2⟩, h3⟩ := h.rf x hx
    exact ⟨⟨lv, (hb.block x.1 (lt_of_heap h1)).trans h1, h2.below hb⟩, h3⟩
  · rcases List.mem_cons.1 hx with rfl | hx
    · refine ⟨heap_at w o _ rfl, fun hg => by have := (h.gw _ hg).2; simp at this, fun hg => by have := (h.gr _ hg).2.1; simp at this, fun y hy e => ?_⟩
      obtain ⟨⟨lv, h1, _⟩, _⟩ := h.rf y hy
      have := lt_of_heap h1
      simp at e
      omega
    · exact ⟨(hb.block x.1 (lt_of_heap (h.kept x hx).1)).trans (h.kept x hx).1, (h.kept x hx).2⟩
/-- The document's reader is laid. -/
theorem Ok.reader (h : Ok w0 pw pr none ps ks w) {a : Option Addr} {n c : Nat} {l : List UInt8} (hx : (Value.slice a n c, l) ∈ ps) : Ok w0 pw pr (some (w.heap.size, ⟨l, 0⟩)) ps ks (w.alloc (.cells #[.slice a n c, .int .i64 0] 42)) := by
  obtain ⟨Gw, Gr, K, h⟩ := h
  have hb : Below w.heap.size w (w.alloc (.cells #[.slice a n c, .int .i64 0] 42)) := (Below.refl _ _).alloc (Nat.le_refl _) _
  refine ⟨Gw, Gr, K, fun x hx => (h.wr x hx).below hb, fun x hx => (h.rd x hx).below hb, fun x hx' => ?_, fun x hx => (h.ps x hx).below hb, fun k hk => by have := h.gw k hk; simp; omega, fun k hk => by have := h.gr k hk; exact ⟨this.1, by simp; omega, this.2.2⟩, fun k hk => by have := h.kk k hk; exact ⟨by simp; omega, this.2⟩, fun x hx => ⟨(hb.block x.1 (lt_of_heap (h.kept x hx).1)).trans (h.kept x hx).1, (h.kept x hx).2.1, (h.kept x hx).2.2.1, fun y hy e => ?_⟩, h.below.trans (hb.mono h.below.size)⟩
  · injection hx' with hx'
    subst hx'
    exact ⟨⟨_, heap_at w _ _ rfl, (h.ps _ hx).below hb⟩, fun hg => by have := (h.gw _ hg).2; simp at this, fun hg => by have := (h.gr _ hg).2.1; simp at this, fun hg => by have := (h.kk _ hg).1; simp at this, h.below.size⟩
  · injection hy with hy
    subst hy
    have := lt_of_heap (h.kept x hx).1
    simp at e
    omega
/-- The document's reader's cells. -/
theorem Ok.cells {m : Nat × Rd} (h : Ok w0 pw pr (some m) ps ks w) : ∃ a c, Ok w0 pw pr (some m) ((.slice a m.2.left.length c, m.2.left) :: ps) ks w ∧ w.cell? ⟨m.1, 0, none⟩ = some (.slice a m.2.left.length c) ∧ w.cell? ⟨m.1, 1, none⟩ = some (.int .i64 m.2.err) ∧ w.frozen? ⟨m.1, 0, none⟩ = false ∧ w.frozen? ⟨m.1, 1, none⟩ = false ∧ m.1 < w.heap.size := by
  obtain ⟨Gw, Gr, K, h⟩ := h
  obtain ⟨⟨lv, h1, h2⟩, _⟩ := h.rf _ rfl
  have h3 := h2
  obtain ⟨a, c, rfl, _⟩ := h2
  obtain ⟨b1, b2, b3, b4⟩ := blk2 h1
  exact ⟨a, c, ⟨Gw, Gr, K, { h with ps := fun x hx => by rcases List.mem_cons.1 hx with rfl | hx; exact h3; exact h.ps x hx }⟩, b1, b2, b3, b4, lt_of_heap h1⟩
/-- .. are written anew. -/
theorem Ok.mstore {q : Nat} {r r' : Rd} {v : Value} (h : Ok w0 pw pr (some (q, r)) ps ks w) (hx : (v, r'.left) ∈ ps) : Ok w0 pw pr (some (q, r')) ps ks ((w.setCell ⟨q, 0, none⟩ v).setCell ⟨q, 1, none⟩ (.int .i64 r'.err)) := by
  obtain ⟨Gw, Gr, K, h⟩ := h
  obtain ⟨⟨lv, h1, h2⟩, h3, h4, h5, h6⟩ := h.rf _ rfl
  have hk : ∀ k, k ≠ q → ((w.setCell ⟨q, 0, none⟩ v).setCell ⟨q, 1, none⟩ (.int .i64 r'.err)).heap[k]? = w.heap[k]? := fun k hk => (Below.heap_setCell _ ⟨q, 1, none⟩ _ k hk).trans (Below.heap_setCell _ ⟨q, 0, none⟩ _ k hk)
  have hs : ((w.setCell ⟨q, 0, none⟩ v).setCell ⟨q, 1, none⟩ (.int .i64 r'.err)).heap.size = w.heap.size := by simp [World.setCell]
  have hs' := Nat.le_of_eq hs.symm
  have hK : ∀ k, k < w.heap.size → K k → ((w.setCell ⟨q, 0, none⟩ v).setCell ⟨q, 1, none⟩ (.int .i64 r'.err)).heap[k]? = w.heap[k]? := fun k _ hk' => hk k (fun e => h5 (e ▸ hk'))
  refine ⟨Gw, Gr, K, fun x hx => (h.wr x hx).keep (fun k _ hg => hk k (fun e => h3 (e ▸ hg))) hs', fun x hx => (h.rd x hx).keep (fun k _ hg => hk k (fun e => h4 (e ▸ hg))) hs', fun x hx' => ?_, fun x hx => (h.ps x hx).keep hK hs', by rw [hs]; exact h.gw, by rw [hs]; exact h.gr, by rw [hs]; exact h.kk, fun x hx => ?_, (h.below.setCell h6 _).setCell h6 _⟩
  · injection hx' with hx'
    subst hx'
    exact ⟨⟨v, by rw [blk_set (blk_set h1 0 _) 1 _]; rfl, (h.ps _ hx).keep hK hs'⟩, h3, h4, h5, h6⟩
  · obtain ⟨k1, k2, k3, k4⟩ := h.kept x hx
    refine ⟨(hk x.1 (k4 _ rfl)).trans k1, k2, k3, fun y hy => ?_⟩
    injection hy with hy
    subst hy
    exact k4 (q, r) rfl
theorem Ok.read {v0 : Value} {f : FuncId} {args : Array Value} {r' : Rd} (h : Ok w0 pw pr pm ps ks w) (hR : ∀ D, (∀ x ∈ ps, BytesV D w x.1 x.2) → Calls Try.prog f args w (RRead D w v0 r')) :
    Calls Try.prog f args w fun e w' => ∃ a n c, e = .returned (.tuple #[v0, .agg #[.slice a n c, .int .i64 r'.err]]) ∧ Ok w0 pw pr pm ((.slice a n c, r'.left) :: ps) ks w' := by
  have h0 := h
  obtain ⟨Gw, Gr, K, h⟩ := h
  refine (hR K h.ps).mono ?_
  rintro e w' ⟨a, n, c, rfl, hb, hB⟩
  have h1 := h.answer hB
  exact ⟨a, n, c, rfl, _, _, _, h1.add (hb.mono (fun _ _ hk => Or.inl hk))⟩
theorem readNum_k (h : Ok w0 pw pr pm ps ks w) (r : Rd) {v : Value} (hx : (v, r.left) ∈ ps) :
    Calls Try.prog 23 #[.agg #[v, .int .i64 r.err]] w fun e w' => ∃ a n c, e = .returned (.tuple #[.int .i64 r.num, .agg #[.slice a n c, .int .i64 r.numR.err]]) ∧ Ok w0 pw pr pm ((.slice a n c, r.numR.left) :: ps) ks w' :=
  h.read fun D hD => readNum_any D r v w (hD _ hx)
theorem readText_k (h : Ok w0 pw pr pm ps ks w) (r : Rd) (most : Int) {v : Value} (hx : (v, r.left) ∈ ps) :
    Calls Try.prog 22 #[.agg #[v, .int .i64 r.err], .int .i64 most] w fun e w' => ∃ a n c, e = .returned (.tuple #[.string (strOf (r.text most)), .agg #[.slice a n c, .int .i64 (r.textR most).err]]) ∧ Ok w0 pw pr pm ((.slice a n c, (r.textR most).left) :: ps) ks w' :=
  h.read fun D hD => readText_any D r most v w (hD _ hx)
theorem left_q {p : Nat} {r : Rd} (h : Ok w0 pw (some (p, r)) pm ps ks w) (n : Nat) : Calls Try.prog 20 #[.pointer (some ⟨p, 0, none⟩)] (w.drewN n) fun e w' => e = .returned (.int .i64 r.left.length) ∧ ∃ k, w' = w.drewN k :=
  (left_k (h.drewN n)).mono fun _ _ ⟨h1, h2⟩ => ⟨h1, n, h2.symm⟩
theorem err_q {p : Nat} {r : Rd} (h : Ok w0 pw (some (p, r)) pm ps ks w) (n : Nat) : Calls Try.prog 16 #[.pointer (some ⟨p, 0, none⟩)] (w.drewN n) fun e w' => e = .returned (.int .i64 r.err) ∧ ∃ k, w' = w.drewN k :=
  (err_k (h.drewN n)).mono fun _ _ ⟨h1, h2⟩ => ⟨h1, n, h2.symm⟩
/-- A copy of bytes of old memory: append([]byte{}, b...). -/
theorem Ok.copied (h : Ok w0 pw pr pm ps ks w) {w3 : World} {v : Value} {n : Nat} {l : List UInt8} (ho : w3.ownsRow w.heap.size 5 1 v n (l.map B8)) (hg : (w.alloc (.cells #[] 5)).grownBy w3 (some w.heap.size)) : ∃ a c, v = .slice a l.length c ∧ Ok w0 pw pr pm ((v, l) :: ps) ks w3 := by
  have hB : Below w.heap.size w w3 := ((Below.refl _ _).alloc (Nat.le_refl _) _).grown hg (by simp) (by intro k hk; injection hk with hk; omega)
  obtain ⟨Gw, Gr, K, h⟩ := h
  have hv := BytesV.of_own ho
  have hv2 := hv
  obtain ⟨a, c, rfl, _⟩ := hv
  exact ⟨a, c, rfl, _, _, _, (h.answer hB).add (hv2.mono (fun k hk hk' => Or.inr ⟨hk', hk⟩))⟩
end
end Go.Proofs.Ytflacchpgcggnaa
