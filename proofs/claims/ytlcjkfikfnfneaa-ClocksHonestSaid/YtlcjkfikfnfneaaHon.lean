/- ClocksHonest's memory: the clocks, the true times and the times that were noted down. -/
import Derived.Test.YtlcjkfikfnfneaaHonp
namespace Go.Proofs.Ytlcjkfikfnfneaa
open Go.RowKit

/-- Blocks that a noted list may lie in. -/
def Rk (p g : Nat) (tv sv : Value) (k : Nat) : Prop := k ≠ p ∧ k ≠ g ∧ tv.ownBlock ≠ some k ∧ sv.ownBlock ≠ some k
structure Hn (w1 wr : World) (p g : Nat) (c : Ck) (tv : Value) (tl : List Int) (sv : Value) (cs : List Value) (tss : List (List Int)) : Prop where
  ck : Cs w1 p g c wr
  tr : wr.ownsRow w1.heap.size 3 1 tv tl.length (tl.map I8)
  ti : wr.ownsRow w1.heap.size 27 1 sv cs.length cs
  ap : ∀ b, tv.ownBlock = some b → b ≠ p ∧ b ≠ g ∧ sv.ownBlock ≠ some b
  ap2 : ∀ b, sv.ownBlock = some b → b ≠ p ∧ b ≠ g
  len : cs.length = tss.length
  el : ∀ (k : Nat) (v : Value) (ts : List Int), cs[k]? = some v → tss[k]? = some ts → IntsV (Rk p g tv sv) wr v ts
section
variable {w1 wr wt : World} {p g : Nat} {c c' : Ck} {tv tv' sv sv' v : Value} {tl : List Int} {cs : List Value} {tss : List (List Int)}
theorem Hn.keep (h : Hn w1 wr p g c tv tl sv cs tss) (hb : Below wr.heap.size wr wt) : Hn w1 wt p g c tv tl sv cs tss :=
  ⟨h.ck.keep hb, ownsRow_keep h.tr (fun k hk => hb.block k (h.tr.lt k hk).2), ownsRow_keep h.ti (fun k hk => hb.block k (h.ti.lt k hk).2), h.ap, h.ap2, h.len, fun k v ts h1 h2 => (h.el k v ts h1 h2).below hb⟩
/-- A tick. -/
theorem Hn.tick (h : Hn w1 wr p g c tv tl sv cs tss) (hm : Mod (Fpg p g) wr wt) (hc : Cs w1 p g c' wt) : Hn w1 wt p g c' tv tl sv cs tss :=
  ⟨hc, ownsRow_keep h.tr (fun k hk => hm.block k (h.tr.lt k hk).2 (by rintro (e | e); exact (h.ap k hk).1 e; exact (h.ap k hk).2.1 e)),
    ownsRow_keep h.ti (fun k hk => hm.block k (h.ti.lt k hk).2 (by rintro (e | e); exact (h.ap2 k hk).1 e; exact (h.ap2 k hk).2 e)), h.ap, h.ap2, h.len,
    fun k v ts h1 h2 => (h.el k v ts h1 h2).mod hm (fun q _ hq => by rintro (e | e); exact hq.1 e; exact hq.2.1 e)⟩
/-- A true time more. -/
theorem Hn.truth {x : Int} {n : Nat} (h : Hn w1 wr p g c tv tl sv cs tss) (hgrow : wr.grownBy wt tv.ownBlock) (hat : tv'.ownBlock = tv.ownBlock ∨ ∃ k, wr.heap.size ≤ k ∧ tv'.ownBlock = some k) (hn : n = tl.length + 1)
    (hown : wt.ownsRow w1.heap.size 3 1 tv' n ((tl ++ [x]).map I8)) : Hn w1 wt p g c tv' (tl ++ [x]) sv cs tss := by
  subst hn
  have hs := hgrow.size
  have hl := h.ck.at_.lt
  have hck : Cs w1 p g c wt := ⟨h.ck.at_.keep (fun k hk => hgrow.block k (by rcases hk with rfl | rfl; exact hl.1; exact hl.2) (fun e => by have := h.ap k e.symm; rcases hk with rfl | rfl; exact this.1 rfl; exact this.2.1 rfl)), h.ck.fit, h.ck.new, h.ck.out.grown hgrow h.ck.out.size (fun k hk => (h.tr.lt k hk).1)⟩
  refine ⟨hck, by simpa using hown, ownsRow_keep h.ti (fun k hk => hgrow.block k (h.ti.lt k hk).2 (fun e => (h.ap k e.symm).2.2 hk)), fun b hb => ?_, h.ap2, h.len, fun k v ts h1 h2 => ?_⟩
  · rcases hat with e | ⟨k, hk, e⟩
    · exact h.ap b (by rw [← e, hb])
    · rw [e] at hb
      injection hb with hb
      subst hb
      exact ⟨by omega, by omega, fun e2 => by have := (h.ti.lt k e2).2; omega⟩
  · refine ((h.el k v ts h1 h2).old.keep (fun q _ hq => hgrow.block q hq.2 (fun e => hq.1.2.2.1 e.symm)) hs).mono (fun q _ hq => ⟨hq.1.1, hq.1.2.1, fun e2 => ?_, hq.1.2.2.2⟩)
    rcases hat with e | ⟨k', hk', e⟩
    · exact hq.1.2.2.1 (by rw [← e, e2])
    · rw [e] at e2
      injection e2 with e2
      have := hq.2
      omega
/-- Times more. -/
theorem Hn.times {ts : List Int} {n : Nat} (h : Hn w1 wr p g c tv tl sv cs tss) (hv : IntsV (Rk p g tv sv) wr v ts) (hgrow : wr.grownBy wt sv.ownBlock) (hat : sv'.ownBlock = sv.ownBlock ∨ ∃ k, wr.heap.size ≤ k ∧ sv'.ownBlock = some k) (hn : n = cs.length + 1)
    (hown : wt.ownsRow w1.heap.size 27 1 sv' n (cs ++ [v])) : Hn w1 wt p g c tv tl sv' (cs ++ [v]) (tss ++ [ts]) := by
  subst hn
  have hs := hgrow.size
  have hl := h.ck.at_.lt
  have hck : Cs w1 p g c wt := ⟨h.ck.at_.keep (fun k hk => hgrow.block k (by rcases hk with rfl | rfl; exact hl.1; exact hl.2) (fun e => by have := h.ap2 k e.symm; rcases hk with rfl | rfl; exact this.1 rfl; exact this.2 rfl)), h.ck.fit, h.ck.new, h.ck.out.grown hgrow h.ck.out.size (fun k hk => (h.ti.lt k hk).1)⟩
  have hR : ∀ (v : Value) (ts : List Int), IntsV (Rk p g tv sv) wr v ts → IntsV (Rk p g tv sv') wt v ts := fun v ts hi => by
    refine (hi.old.keep (fun q _ hq => hgrow.block q hq.2 (fun e => hq.1.2.2.2 e.symm)) hs).mono (fun q _ hq => ⟨hq.1.1, hq.1.2.1, hq.1.2.2.1, fun e2 => ?_⟩)
    rcases hat with e | ⟨k', hk', e⟩
    · exact hq.1.2.2.2 (by rw [← e, e2])
    · rw [e] at e2
      injection e2 with e2
      have := hq.2
      omega
  refine ⟨hck, ownsRow_keep h.tr (fun k hk => hgrow.block k (h.tr.lt k hk).2 (fun e => (h.ap k hk).2.2 e.symm)), by simpa using hown, fun b hb => ?_, fun b hb => ?_, by simp [h.len], fun k v' ts' h1 h2 => ?_⟩
  · refine ⟨(h.ap b hb).1, (h.ap b hb).2.1, fun e2 => ?_⟩
    rcases hat with e | ⟨k', hk', e⟩
    · exact (h.ap b hb).2.2 (by rw [← e, e2])
    · rw [e] at e2
      injection e2 with e2
      have := (h.tr.lt b hb).2
      omega
  · rcases hat with e | ⟨k', hk', e⟩
    · exact h.ap2 b (by rw [← e, hb])
    · rw [e] at hb
      injection hb with hb
      subst hb
      exact ⟨by omega, by omega⟩
  · rcases Nat.lt_or_ge k cs.length with hk | hk
    · rw [List.getElem?_append_left hk] at h1
      rw [List.getElem?_append_left (by rw [← h.len]; exact hk)] at h2
      exact hR _ _ (h.el k v' ts' h1 h2)
    · rw [List.getElem?_append_right hk] at h1
      rw [List.getElem?_append_right (by rw [← h.len]; exact hk), ← h.len] at h2
      have hz : k - cs.length = 0 := by
        have := (List.getElem?_eq_some_iff.1 h1).1
        simp at this
        omega
      rw [hz] at h1 h2
      simp at h1 h2
      subst h1 h2
      exact hR _ _ hv
end
theorem Try.infoS : (Try.prog.info? 27).map (fun i => (i.zero, i.size, i.bytes)) = some (some (.slice none 0 0), 1, 24) := by kernel_rfl
end Go.Proofs.Ytlcjkfikfnfneaa
