/- A writer, a reader, the document's reader and answered bytes, side by side: what each call does to all of them. -/
import Derived.Test.YtflacchpgcggnaaSum
namespace Go.Proofs.Ytflacchpgcggnaa
open Go.RowKit

structure OG (Gw Gr K : Nat → Prop) (w0 : World) (pw : Option (Nat × List UInt8)) (pr pm : Option (Nat × Rd)) (ps : List (Value × List UInt8)) (w : World) : Prop where
  wr : ∀ x, pw = some x → WrAt Gw w x.1 x.2
  rd : ∀ x, pr = some x → RdAt Gr w x.1 x.2
  rf : ∀ x, pm = some x → (∃ lv, w.heap[x.1]? = some (.cells #[lv, .int .i64 x.2.err] 42 (0, 0)) ∧ BytesV K w lv x.2.left) ∧ ¬ Gw x.1 ∧ ¬ Gr x.1 ∧ ¬ K x.1 ∧ w0.heap.size ≤ x.1
  ps : ∀ x ∈ ps, BytesV K w x.1 x.2
  gw : ∀ k, Gw k → w0.heap.size ≤ k ∧ k < w.heap.size
  gr : ∀ k, Gr k → w0.heap.size ≤ k ∧ k < w.heap.size ∧ ¬ Gw k
  kk : ∀ k, K k → k < w.heap.size ∧ ¬ Gw k ∧ ¬ Gr k
  below : Below w0.heap.size w0 w
def Oc (w0 : World) (pw : Option (Nat × List UInt8)) (pr pm : Option (Nat × Rd)) (ps : List (Value × List UInt8)) (w : World) : Prop := ∃ Gw Gr K, OG Gw Gr K w0 pw pr pm ps w

section
variable {w0 w w' : World} {pw : Option (Nat × List UInt8)} {pr pm : Option (Nat × Rd)} {ps : List (Value × List UInt8)}

theorem Oc.out (h : Oc w0 pw pr pm ps w) : Below w0.heap.size w0 w := by obtain ⟨_, _, _, h⟩ := h; exact h.below
theorem Oc.start (w : World) : Oc w none none none [] w :=
  ⟨fun _ => False, fun _ => False, fun _ => False, fun _ h => (by cases h), fun _ h => (by cases h), fun _ h => (by cases h), fun _ h => (by cases h), fun _ h => h.elim, fun _ h => h.elim, fun _ h => h.elim, Below.refl _ _⟩
theorem Oc.keep (h : Oc w0 pw pr pm ps w) (hb : Below w.heap.size w w') : Oc w0 pw pr pm ps w' := by
  obtain ⟨Gw, Gr, K, h⟩ := h
  have hs := hb.size
  refine ⟨Gw, Gr, K, fun x hx => (h.wr x hx).below hb, fun x hx => (h.rd x hx).below hb, fun x hx => ?_, fun x hx => (h.ps x hx).below hb, fun k hk => by have := h.gw k hk; omega, fun k hk => by have := h.gr k hk; exact ⟨this.1, by omega, this.2.2⟩, fun k hk => by have := h.kk k hk; exact ⟨by omega, this.2⟩, h.below.trans (hb.mono h.below.size)⟩
  obtain ⟨⟨lv, h1, h2⟩, h3⟩ := h.rf x hx
  exact ⟨⟨lv, (hb.block x.1 (lt_of_heap h1)).trans h1, h2.below hb⟩, h3⟩
theorem Oc.drew (h : Oc w0 pw pr pm ps w) : Oc w0 pw pr pm ps w.drew := h.keep ⟨rfl, rfl, rfl, Nat.le_refl _, fun _ _ => rfl⟩
theorem Oc.drewN (h : Oc w0 pw pr pm ps w) (n : Nat) : Oc w0 pw pr pm ps (w.drewN n) := h.keep ⟨rfl, rfl, rfl, Nat.le_refl _, fun _ _ => rfl⟩
theorem Oc.box (h : Oc w0 pw pr pm ps w) (o : Obj) : Oc w0 pw pr pm ps (w.alloc o) := h.keep ((Below.refl _ _).alloc (Nat.le_refl _) o)

/-- What is new behind w is kept. -/
theorem OG.answer {Gw Gr K : Nat → Prop} (h : OG Gw Gr K w0 pw pr pm ps w) (hb : Below w.heap.size w w') : OG Gw Gr (fun k => K k ∨ (w.heap.size ≤ k ∧ k < w'.heap.size)) w0 pw pr pm ps w' := by
  have hs := hb.size
  refine ⟨fun x hx => (h.wr x hx).below hb, fun x hx => (h.rd x hx).below hb, fun x hx => ?_, fun x hx => ((h.ps x hx).below hb).mono (fun _ _ hk => Or.inl hk), fun k hk => by have := h.gw k hk; omega, fun k hk => by have := h.gr k hk; exact ⟨this.1, by omega, this.2.2⟩, fun k hk => ?_, h.below.trans (hb.mono h.below.size)⟩
  · obtain ⟨⟨lv, h1, h2⟩, h3, h4, h5, h6⟩ := h.rf x hx
    have hlt := lt_of_heap h1
    exact ⟨⟨lv, (hb.block x.1 hlt).trans h1, (h2.below hb).mono (fun _ _ hk => Or.inl hk)⟩, h3, h4, fun hk => hk.elim h5 (fun h => by omega), h6⟩
  · rcases hk with hk | hk
    · have := h.kk k hk; exact ⟨by omega, this.2⟩
    · exact ⟨hk.2, fun hg => by have := h.gw k hg; omega, fun hg => by have := h.gr k hg; omega⟩
theorem OG.add {Gw Gr K : Nat → Prop} (h : OG Gw Gr K w0 pw pr pm ps w) {v : Value} {l : List UInt8} (hv : BytesV K w v l) : OG Gw Gr K w0 pw pr pm ((v, l) :: ps) w :=
  { h with ps := fun x hx => by rcases List.mem_cons.1 hx with rfl | hx; exact hv; exact h.ps x hx }
/-- Old memory reads on. -/
theorem Oc.old {D : Nat → Prop} {v : Value} {l : List UInt8} (h : Oc w0 pw pr pm ps w) (hv : BytesV D w0 v l) : Oc w0 pw pr pm ((v, l) :: ps) w := by
  obtain ⟨Gw, Gr, K, h⟩ := h
  have hs := h.below.size
  refine ⟨Gw, Gr, fun k => K k ∨ k < w0.heap.size, h.wr, h.rd, fun x hx => ?_, fun x hx => ?_, h.gw, h.gr, fun k hk => ?_, h.below⟩
  · obtain ⟨⟨lv, h1, h2⟩, h3, h4, h5, h6⟩ := h.rf x hx
    exact ⟨⟨lv, h1, h2.mono (fun _ _ hk => Or.inl hk)⟩, h3, h4, fun hk => hk.elim h5 (fun h => by omega), h6⟩
  · rcases List.mem_cons.1 hx with rfl | hx
    · exact (hv.mono (fun k hk _ => Or.inr hk)).below h.below
    · exact (h.ps x hx).mono (fun _ _ hk => Or.inl hk)
  · rcases hk with hk | hk
    · exact h.kk k hk
    · exact ⟨by omega, fun hg => by have := h.gw k hg; omega, fun hg => by have := h.gr k hg; omega⟩
theorem Oc.weaken (h : Oc w0 pw pr pm ps w) : Oc w0 pw pr pm [] w := by
  obtain ⟨Gw, Gr, K, h⟩ := h; exact ⟨Gw, Gr, K, { h with ps := fun _ h => (by cases h) }⟩
theorem Oc.bytes (h : Oc w0 pw pr pm ps w) {v : Value} {l : List UInt8} (hv : (v, l) ∈ ps) : ∃ K, BytesV K w v l := by obtain ⟨_, _, K, h⟩ := h; exact ⟨K, h.ps _ hv⟩

/-- A call on the writer. -/
theorem Oc.wstep {p : Nat} {l l' : List UInt8} {Gw Gr K : Nat → Prop} (h : OG Gw Gr K w0 (some (p, l)) pr pm ps w) (hw : WrAt (Up Gw w) w' p l') (hm : Mod Gw w w') : Oc w0 (some (p, l')) pr pm ps w' := by
  have hs := hm.size
  have hB := h.below.size
  refine ⟨fun k => Up Gw w k ∧ k < w'.heap.size, Gr, K, fun x hx => by injection hx with hx; subst hx; exact hw.tight, fun x hx => (h.rd x hx).mod hm (fun k _ hk => (h.gr k hk).2.2), fun x hx => ?_, fun x hx => (h.ps x hx).mod hm (fun k _ hk => (h.kk k hk).2.1), fun k hk => ?_, fun k hk => ?_, fun k hk => ?_, h.below.trans (hm.toBelow hB (fun k hk => (h.gw k hk).1))⟩
  · obtain ⟨⟨lv, h1, h2⟩, h3, h4, h5, h6⟩ := h.rf x hx
    have hlt := lt_of_heap h1
    refine ⟨⟨lv, (hm.block x.1 hlt h3).trans h1, h2.mod hm (fun k _ hk => (h.kk k hk).2.1)⟩, ?_, h4, h5, h6⟩
    rintro ⟨hg | hg, _⟩
    · exact h3 hg
    · omega
  · rcases hk.1 with hg | hg
    · have := h.gw k hg; omega
    · omega
  · have := h.gr k hk
    refine ⟨this.1, by omega, ?_⟩
    rintro ⟨hg | hg, _⟩
    · exact this.2.2 hg
    · omega
  · have := h.kk k hk
    refine ⟨by omega, ?_, this.2.2⟩
    rintro ⟨hg | hg, _⟩
    · exact this.2.1 hg
    · omega
theorem wnum_o {p : Nat} {l : List UInt8} (h : Oc w0 (some (p, l)) pr pm ps w) (n : Int) (hn : n ≤ 9223372036854775807) (hl : l.length + 9 ≤ 140737488355328) :
    Calls Try.prog 11 #[.pointer (some ⟨p, 0, none⟩), .int .i64 n] w fun e w' => e = .returned (.tuple #[]) ∧ Oc w0 (some (p, l ++ enc n.toNat)) pr pm ps w' := by
  obtain ⟨Gw, Gr, K, h⟩ := h
  exact (wnum_any Gw p l n w (h.wr _ rfl) hn hl).mono fun _ _ ⟨h1, h2, h3⟩ => ⟨h1, Oc.wstep h h2 h3⟩
theorem wtext_o {p : Nat} {l : List UInt8} (h : Oc w0 (some (p, l)) pr pm ps w) (s : ByteArray) (hl : l.length + 9 + s.size ≤ 140737488355328) :
    Calls Try.prog 24 #[.pointer (some ⟨p, 0, none⟩), .string s] w fun e w' => e = .returned (.tuple #[]) ∧ Oc w0 (some (p, l ++ encText s.data.toList)) pr pm ps w' := by
  obtain ⟨Gw, Gr, K, h⟩ := h
  exact (text_any Gw p l s w (h.wr _ rfl) hl).mono fun _ _ ⟨h1, h2, h3⟩ => ⟨h1, Oc.wstep h h2 h3⟩
theorem wbytes_o {p : Nat} {l : List UInt8} (h : Oc w0 (some (p, l)) pr pm ps w) (hl : l.length ≤ 140737488355328) :
    Calls Try.prog 13 #[.pointer (some ⟨p, 0, none⟩)] w fun e w' => ∃ a c, e = .returned (.slice a l.length c) ∧ Oc w0 (some (p, l)) pr pm ((.slice a l.length c, l) :: ps) w' := by
  obtain ⟨Gw, Gr, K, h⟩ := h
  refine (bytes_any Gw p l w (h.wr _ rfl) hl).mono ?_
  rintro e w' ⟨v, rfl, ⟨n, hn⟩, hb⟩
  have hv := BytesV.of_own hn
  have hv2 := hv
  obtain ⟨a, c, rfl, _⟩ := hv
  exact ⟨a, c, rfl, _, _, _, (h.answer hb).add (hv2.mono (fun k hk hk' => Or.inr ⟨hk', hk⟩))⟩
/-- A new writer: its block has just been laid. -/
theorem Oc.writer (h : Oc w0 none pr pm ps w) : Oc w0 (some (w.heap.size, [])) pr pm ps (w.alloc (.cells #[.slice none 0 0] 24)) := by
  obtain ⟨Gw, Gr, K, h⟩ := h
  have hb : Below w.heap.size w (w.alloc (.cells #[.slice none 0 0] 24)) := (Below.refl _ _).alloc (Nat.le_refl _) _
  refine ⟨fun k => k = w.heap.size, Gr, K, fun x hx => ?_, fun x hx => (h.rd x hx).below hb, fun x hx => ?_, fun x hx => (h.ps x hx).below hb, fun k hk => by subst hk; exact ⟨h.below.size, by simp⟩, fun k hk => ?_, fun k hk => ?_, h.below.alloc h.below.size _⟩
  · injection hx with hx; subst hx
    exact ⟨⟨rfl, by simp⟩, _, heap_at w _ _ rfl, World.ownsRow_nil _ _ _ _, fun g hg => by simp [Value.ownBlock] at hg⟩
  · obtain ⟨⟨lv, h1, h2⟩, h3, h4⟩ := h.rf x hx
    have hlt := lt_of_heap h1
    exact ⟨⟨lv, (hb.block x.1 hlt).trans h1, h2.below hb⟩, by omega, h4⟩
  · have := h.gr k hk; exact ⟨this.1, by simp; omega, by omega⟩
  · have := h.kk k hk; exact ⟨by simp; omega, by omega, this.2.2⟩

/-- A call on the reader. -/
theorem Oc.rstep {p : Nat} {r r' : Rd} {Gw Gr K : Nat → Prop} (h : OG Gw Gr K w0 pw (some (p, r)) pm ps w) (hw : RdAt Gr w' p r') (hm : Mod Gr w w') : Oc w0 pw (some (p, r')) pm ps w' := by
  have hs := hm.size
  have hB := h.below.size
  refine ⟨Gw, Gr, K, fun x hx => (h.wr x hx).mod hm (fun k _ hk hr => (h.gr k hr).2.2 hk), fun x hx => by injection hx with hx; subst hx; exact hw, fun x hx => ?_, fun x hx => (h.ps x hx).mod hm (fun k _ hk => (h.kk k hk).2.2), fun k hk => by have := h.gw k hk; omega, fun k hk => by have := h.gr k hk; exact ⟨this.1, by omega, this.2.2⟩, fun k hk => by have := h.kk k hk; exact ⟨by omega, this.2⟩, h.below.trans (hm.toBelow hB (fun k hk => (h.gr k hk).1))⟩
  obtain ⟨⟨lv, h1, h2⟩, h3, h4, h5, h6⟩ := h.rf x hx
  exact ⟨⟨lv, (hm.block x.1 (lt_of_heap h1) h4).trans h1, h2.mod hm (fun k _ hk => (h.kk k hk).2.2)⟩, h3, h4, h5, h6⟩
theorem rnum_o {p : Nat} {r : Rd} (h : Oc w0 pw (some (p, r)) pm ps w) :
    Calls Try.prog 15 #[.pointer (some ⟨p, 0, none⟩)] w fun e w' => e = .returned (.int .i64 r.num) ∧ Oc w0 pw (some (p, r.numR)) pm ps w' := by
  obtain ⟨Gw, Gr, K, h⟩ := h
  exact (rnum_any Gr p r w (h.rd _ rfl)).mono fun _ _ ⟨h1, h2, h3⟩ => ⟨h1, Oc.rstep h h2 h3⟩
theorem rtext_o {p : Nat} {r : Rd} (h : Oc w0 pw (some (p, r)) pm ps w) (m : Int) :
    Calls Try.prog 21 #[.pointer (some ⟨p, 0, none⟩), .int .i64 m] w fun e w' => e = .returned (.string (strOf (r.text m))) ∧ Oc w0 pw (some (p, r.textR m)) pm ps w' := by
  obtain ⟨Gw, Gr, K, h⟩ := h
  exact (rtext_any Gr p r m w (h.rd _ rfl)).mono fun _ _ ⟨h1, h2, h3⟩ => ⟨h1, Oc.rstep h h2 h3⟩
theorem left_o {p : Nat} {r : Rd} (h : Oc w0 pw (some (p, r)) pm ps w) : Calls Try.prog 20 #[.pointer (some ⟨p, 0, none⟩)] w fun e w' => e = .returned (.int .i64 r.left.length) ∧ w = w' := by
  obtain ⟨Gw, Gr, K, h⟩ := h; exact left_any _ _ _ _ (h.rd _ rfl)
theorem err_o {p : Nat} {r : Rd} (h : Oc w0 pw (some (p, r)) pm ps w) : Calls Try.prog 16 #[.pointer (some ⟨p, 0, none⟩)] w fun e w' => e = .returned (.int .i64 r.err) ∧ w = w' := by
  obtain ⟨Gw, Gr, K, h⟩ := h; exact err_any _ _ _ _ (h.rd _ rfl)
theorem newReader_o (h : Oc w0 pw none pm ps w) {v : Value} {l : List UInt8} (hv : (v, l) ∈ ps) (hl : l.length ≤ 140737488355328) :
    Calls Try.prog 12 #[v] w fun e w' => ∃ q, e = .returned (.pointer (some ⟨q, 0, none⟩)) ∧ Oc w0 pw (some (q, ⟨l, 0⟩)) pm ps w' := by
  obtain ⟨Gw, Gr, K, h⟩ := h
  refine (newReader_any K l v w (h.ps _ hv) hl).mono ?_
  rintro e w' ⟨q, rfl, hr, hb⟩
  have hs := hb.size
  refine ⟨q, rfl, Gw, fun k => w.heap.size ≤ k ∧ k < w'.heap.size, K, fun x hx => (h.wr x hx).below hb, fun x hx => by injection hx with hx; subst hx; exact hr.mono (fun k hk h => ⟨h, hk⟩), fun x hx => ?_, fun x hx => (h.ps x hx).below hb, fun k hk => by have := h.gw k hk; omega, fun k hk => ⟨by have := h.below.size; omega, hk.2, fun hg => by have := h.gw k hg; omega⟩, fun k hk => ?_, h.below.trans (hb.mono h.below.size)⟩
  · obtain ⟨⟨lv, h1, h2⟩, h3, h4, h5⟩ := h.rf x hx
    have hlt := lt_of_heap h1
    exact ⟨⟨lv, (hb.block x.1 hlt).trans h1, h2.below hb⟩, h3, by omega, h5⟩
  · have := h.kk k hk
    exact ⟨by omega, this.2.1, by omega⟩
theorem sum_o (h : Oc w0 pw pr pm ps w) {v : Value} {l : List UInt8} (hv : (v, l) ∈ ps) :
    Calls Try.prog 28 #[v] w fun e w' => e = .returned (.int .u32 (sumOf l)) ∧ w = w' := by
  obtain ⟨Gw, Gr, K, h⟩ := h; exact sum_any K l v w (h.ps _ hv)
theorem ofFour_o (h : Oc w0 pw pr pm ps w) {v : Value} {l : List UInt8} (hv : (v, l) ∈ ps) :
    Calls Try.prog 25 #[v] w fun e w' => e = .returned (.tuple #[.int .u32 (ofFour l), .bool (decide (4 ≤ l.length))]) ∧ Oc w0 pw pr pm ps w' := by
  have h0 := h
  obtain ⟨Gw, Gr, K, h⟩ := h
  exact (ofFour_any K l v w (h.ps _ hv)).mono fun _ _ ⟨h1, n, h2⟩ => ⟨h1, h2 ▸ h0.drewN n⟩
theorem four_o (h : Oc w0 pw pr pm ps w) (x : Nat) (hx : x < 4294967296) :
    Calls Try.prog 27 #[.int .u32 x] w fun e w' => ∃ a, e = .returned (.slice a 4 4) ∧ Oc w0 pw pr pm ((.slice a 4 4, four x) :: ps) w' := by
  obtain ⟨Gw, Gr, K, h⟩ := h
  refine (four_any x w hx).mono ?_
  rintro e w' ⟨rfl, rfl⟩
  have hb : Below w.heap.size w (w.alloc (.cells ((four x).map B8).toArray 5)) := (Below.refl _ _).alloc (Nat.le_refl _) _
  exact ⟨_, rfl, _, _, _, (h.answer hb).add ((BytesV.of_block (l := four x) (c := 4) (heap_at w _ _ rfl) (fun j x hx => by simp [hx]) (by simp [four]) (by decide)).mono (fun k hk e => Or.inr ⟨Nat.le_of_eq e.symm, hk⟩))⟩
/-- A block of bytes that has just been laid. -/
theorem Oc.lit (h : Oc w0 pw pr pm ps w) (l : List UInt8) (fr : Nat × Nat) (cs : Array Value) (hcs : cs = (l.map B8).toArray) (n : Nat) (hn : n = l.length) (hl : n ≤ maxLen) : Oc w0 pw pr pm ((.slice (some ⟨w.heap.size, 0, none⟩) n n, l) :: ps) (w.alloc (.cells cs 5 fr)) := by
  subst hcs hn
  obtain ⟨Gw, Gr, K, h⟩ := h
  have hb : Below w.heap.size w (w.alloc (.cells (l.map B8).toArray 5 fr)) := (Below.refl _ _).alloc (Nat.le_refl _) _
  exact ⟨_, _, _, (h.answer hb).add ((BytesV.of_block (l := l) (c := l.length) (heap_at w _ _ rfl) (fun j x hx => by simp [hx]) (Nat.le_refl _) hl).mono (fun k hk e => Or.inr ⟨Nat.le_of_eq e.symm, hk⟩))⟩
theorem Oc.str (h : Oc w0 pw pr pm ps w) {v : Value} {l : List UInt8} (hv : (v, l) ∈ ps) : (convert 22 9 v).run Try.prog w = .ok (.string (strOf l)) w := by
  obtain ⟨Gw, Gr, K, h⟩ := h
  exact (h.ps _ hv).string 22 9 5 Try.underlying22 Try.underlying5 Try.underlying9 (fun _ _ _ => rfl)
end
end Go.Proofs.Ytflacchpgcggnaa
