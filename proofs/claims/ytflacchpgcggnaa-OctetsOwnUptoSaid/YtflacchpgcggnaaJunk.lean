/- A writer, a row that is written over, and bytes that stay, side by side. -/
import Derived.Test.YtflacchpgcggnaaOk
import Derived.Test.YtflacchpgcggnaaStep
import Derived.Laws.OwnMore
namespace Go.Proofs.Ytflacchpgcggnaa
open Go.RowKit

/-- The writer at p has laid l; x is a row of n bytes, of whatever bytes; y reads as d. None shares memory with another. -/
def Jk (w0 : World) (p : Nat) (l : List UInt8) (xv : Value) (n : Nat) (yv : Value) (d : List UInt8) (w : World) : Prop :=
  ∃ Gw : Nat → Prop, WrAt Gw w p l ∧ (∀ k, Gw k → w0.heap.size ≤ k ∧ k < w.heap.size) ∧
    (∃ xs, w.ownsRow w0.heap.size 5 1 xv n xs) ∧ (∀ g, xv.ownBlock = some g → ¬ Gw g ∧ yv.ownBlock ≠ some g) ∧
    w.ownsRow w0.heap.size 5 1 yv d.length (d.map B8) ∧ (∀ g, yv.ownBlock = some g → ¬ Gw g) ∧ Below w0.heap.size w0 w
section
variable {w0 w w' w1 w2 : World} {p n m : Nat} {l d : List UInt8} {xv yv v : Value} {xs : List Value}
theorem Jk.out (h : Jk w0 p l xv n yv d w) : Below w0.heap.size w0 w := h.choose_spec.2.2.2.2.2.2
theorem Jk.x (h : Jk w0 p l xv n yv d w) : ∃ xs, w.ownsRow w0.heap.size 5 1 xv n xs := h.choose_spec.2.2.1
theorem Jk.y (h : Jk w0 p l xv n yv d w) : w.ownsRow w0.heap.size 5 1 yv d.length (d.map B8) := h.choose_spec.2.2.2.2.1
theorem Jk.start (T : Ok w0 (some (p, l)) none none [] [] w) (hx : w1.ownsRow w.heap.size 5 1 xv n xs) (hb1 : Below w.heap.size w w1) (hy : w2.ownsRow w1.heap.size 5 1 yv d.length (d.map B8)) (hb2 : Below w1.heap.size w1 w2) : Jk w0 p l xv n yv d w2 := by
  obtain ⟨Gw, _, _, h⟩ := T
  have hs0 := h.below.size
  have hs1 := hb1.size
  have hs2 := hb2.size
  refine ⟨Gw, ((h.wr _ rfl).below hb1).below hb2, fun k hk => by have := h.gw k hk; omega, ⟨xs, ?_⟩, fun g hg => ⟨fun hG => ?_, fun e => ?_⟩, ?_, fun g hg hG => ?_, (h.below.trans (hb1.mono hs0)).trans (hb2.mono (by omega))⟩
  · have := ownsRow_keep hx (fun g hg => hb2.block g (hx.lt g hg).2)
    obtain ⟨h1, h2⟩ := this
    refine ⟨h1, ?_⟩
    rcases h2 with h2 | ⟨g, cap, cur, hv, hb, r⟩
    · exact Or.inl h2
    · exact Or.inr ⟨g, cap, cur, hv, by omega, r⟩
  · have h1 := (hx.lt g hg).1
    have h2 := (h.gw g hG).2
    omega
  · have h1 := (hx.lt g hg).2
    have h2 := (hy.lt g e).1
    omega
  · obtain ⟨h1, h2⟩ := hy
    refine ⟨h1, ?_⟩
    rcases h2 with h2 | ⟨g, cap, cur, hv, hb, r⟩
    · exact Or.inl h2
    · exact Or.inr ⟨g, cap, cur, hv, by omega, r⟩
  · have h1 := (hy.lt g hg).1
    have h2 := (h.gw g hG).2
    omega
theorem Jk.keep (h : Jk w0 p l xv n yv d w) (hb : Below w.heap.size w w') : Jk w0 p l xv n yv d w' := by
  obtain ⟨Gw, h1, h2, ⟨xs, h3⟩, h4, h5, h6, h7⟩ := h
  have hs := hb.size
  exact ⟨Gw, h1.below hb, fun k hk => by have := h2 k hk; omega, ⟨xs, ownsRow_keep h3 (fun g hg => hb.block g (h3.lt g hg).2)⟩, h4, ownsRow_keep h5 (fun g hg => hb.block g (h5.lt g hg).2), h6, h7.trans (hb.mono h7.size)⟩
/-- A store into x. -/
theorem Jk.store {g c : Nat} (h : Jk w0 p l (.slice (some ⟨g, 0, none⟩) n c) n yv d w) (j : Nat) (u : Value) : Jk w0 p l (.slice (some ⟨g, 0, none⟩) n c) n yv d (w.setCell ⟨g, j, none⟩ u) := by
  obtain ⟨Gw, h1, h2, ⟨xs, h3⟩, h4, h5, h6, h7⟩ := h
  obtain ⟨hg1, hg2⟩ := h4 g rfl
  have hk : ∀ k, k ≠ g → (w.setCell ⟨g, j, none⟩ u).heap[k]? = w.heap[k]? := fun k hk => Below.heap_setCell w ⟨g, j, none⟩ u k hk
  have hs : (w.setCell ⟨g, j, none⟩ u).heap.size = w.heap.size := by simp [World.setCell]
  exact ⟨Gw, h1.keep (fun k _ hG => hk k (fun e => hg1 (e ▸ hG))) (Nat.le_of_eq hs.symm), fun k hk => by rw [hs]; exact h2 k hk, ⟨_, (h3.stored j u).1⟩, h4, ownsRow_keep h5 (fun k hk' => hk k (fun e => hg2 (e ▸ hk'))), h6, h7.setCell (h3.lt g rfl).1 _⟩
/-- An append onto x. -/
theorem Jk.grown (h : Jk w0 p l xv n yv d w) (hb : Below w.heap.size w w1) (hgrow : w1.grownBy w2 xv.ownBlock) (hat : v.ownBlock = xv.ownBlock ∨ ∃ k, w1.heap.size ≤ k ∧ v.ownBlock = some k) (hx : w2.ownsRow w0.heap.size 5 1 v m xs) : Jk w0 p l v m yv d w2 := by
  have h' := h.keep hb
  obtain ⟨Gw, h1, h2, ⟨xs', h3⟩, h4, h5, h6, h7⟩ := h'
  have hs := hgrow.size
  refine ⟨Gw, h1.keep (fun k hk hG => hgrow.block k hk (fun e => (h4 k e.symm).1 hG)) hs, fun k hk => by have := h2 k hk; omega, ⟨xs, hx⟩, fun g hg => ?_, ownsRow_keep h5 (fun k hk => hgrow.block k (h5.lt k hk).2 (fun e => (h4 k e.symm).2 hk)), h6, h7.grown hgrow h7.size (fun k hk => (h3.lt k hk).1)⟩
  rcases hat with e | ⟨k, hk, e⟩
  · exact h4 g (by rw [← e, hg])
  · rw [e] at hg
    injection hg with hg
    subst hg
    exact ⟨fun hG => by have := (h2 k hG).2; omega, fun e => by have := (h5.lt k e).2; omega⟩
/-- x is let go. -/
theorem Jk.drop (h : Jk w0 p l xv n yv d w) : Jk w0 p l (.slice none 0 0) 0 yv d w := by
  obtain ⟨Gw, h1, h2, _, _, h5, h6, h7⟩ := h
  exact ⟨Gw, h1, h2, ⟨[], World.ownsRow_nil _ _ _ _⟩, fun g hg => by simp [Value.ownBlock] at hg, h5, h6, h7⟩
/-- A store into a block that has just been laid. -/
theorem Jk.poke (h : Jk w0 p l (.slice none 0 0) 0 yv d w) (hb : Below w.heap.size w w') (hs' : w.heap.size ≤ m) (j : Nat) (u : Value) : Jk w0 p l (.slice none 0 0) 0 yv d (w'.setCell ⟨m, j, none⟩ u) := by
  obtain ⟨Gw, h1, h2, h3, h4, h5, h6, h7⟩ := h
  have hs := hb.size
  have hk : ∀ k, k < w.heap.size → (w'.setCell ⟨m, j, none⟩ u).heap[k]? = w.heap[k]? := fun k hk => (Below.heap_setCell w' ⟨m, j, none⟩ u k (by show k ≠ m; omega)).trans (hb.block k hk)
  have hss : w.heap.size ≤ (w'.setCell ⟨m, j, none⟩ u).heap.size := by simpa [World.setCell] using hs
  exact ⟨Gw, h1.keep (fun k hlt _ => hk k hlt) hss, fun k hk => by have := h2 k hk; omega, ⟨[], World.ownsRow_nil _ _ _ _⟩, h4, ownsRow_keep h5 (fun g hg => hk g (h5.lt g hg).2), h6, (h7.trans (hb.mono h7.size)).setCell (by have := h7.size; show w0.heap.size ≤ m; omega) _⟩
theorem jnum (h : Jk w0 p l (.slice none 0 0) 0 yv d w) (z : Int) (hz : z ≤ 9223372036854775807) (hl : l.length + 9 ≤ 140737488355328) :
    Calls Try.prog 11 #[.pointer (some ⟨p, 0, none⟩), .int .i64 z] w fun e w' => e = .returned (.tuple #[]) ∧ Jk w0 p (l ++ enc z.toNat) (.slice none 0 0) 0 yv d w' := by
  obtain ⟨Gw, h1, h2, h3, h4, h5, h6, h7⟩ := h
  refine (wnum_any Gw p l z w h1 hz hl).mono ?_
  rintro e w' ⟨he, hw, hm⟩
  have hs := hm.size
  have hb := h7.size
  refine ⟨he, fun k => Up Gw w k ∧ k < w'.heap.size, hw.tight, fun k hk => ?_, ⟨[], World.ownsRow_nil _ _ _ _⟩, fun g hg => by simp [Value.ownBlock] at hg, ownsRow_keep h5 (fun g hg => hm.block g (h5.lt g hg).2 (h6 g hg)), fun g hg hG => ?_, h7.trans (hm.toBelow hb (fun k hk => (h2 k hk).1))⟩
  · rcases hk.1 with hg | hg
    · have := h2 k hg; omega
    · omega
  · rcases hG.1 with hg' | hg'
    · exact h6 g hg hg'
    · have := (h5.lt g hg).2; omega
theorem jbytes (h : Jk w0 p l xv n yv d w) (hl : l.length ≤ 140737488355328) :
    Calls Try.prog 13 #[.pointer (some ⟨p, 0, none⟩)] w fun e w' => ∃ a c, e = .returned (.slice a l.length c) ∧ Jk w0 p l xv n yv d w' ∧ BytesV (fun _ => True) w' (.slice a l.length c) l ∧ Below w.heap.size w w' := by
  have h0 := h
  obtain ⟨Gw, h1, h2, h3, h4, h5, h6, h7⟩ := h
  refine (bytes_any Gw p l w h1 hl).mono ?_
  rintro e w' ⟨v, rfl, ⟨n, hn⟩, hb⟩
  have hv := BytesV.of_own hn
  have hv2 := hv
  obtain ⟨a, c, rfl, _⟩ := hv
  exact ⟨a, c, rfl, h0.keep hb, hv2.mono (fun _ _ _ => trivial), hb⟩
end
end Go.Proofs.Ytflacchpgcggnaa
