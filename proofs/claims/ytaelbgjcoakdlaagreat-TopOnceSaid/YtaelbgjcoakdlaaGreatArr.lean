/- arrives: what it reads; rows. -/
import Derived.Test.YtaelbgjcoakdlaaGreatAskerM
namespace Go.Proofs.YtaelbgjcoakdlaaGreat
open Go.RowKit Go.Maps

theorem Row.slice {own : Nat → Nat} {i base : Nat} {w : World} {v : Value} {l : List Int} (h : Row own i base w v l) : ∃ x c, v = .slice x l.length c := by
  rcases h.1.2 with ⟨h1, h2⟩ | ⟨g, cap, cur, hv, _⟩
  · exact ⟨none, 0, by rw [h1, h2]⟩
  · exact ⟨_, _, hv⟩
/-- An element: its place. -/
theorem Row.at_ {own : Nat → Nat} {i base : Nat} {w : World} {v : Value} {l : List Int} (h : Row own i base w v l) {j : Nat} (hj : j < l.length) : ∃ g c, v = .slice (some ⟨g, 0, none⟩) l.length c ∧ own g = i ∧ base ≤ g ∧ g < w.heap.size ∧ l.length ≤ c ∧ c ≤ maxLen ∧ w.cell? ⟨g, j, none⟩ = some (.int .i64 (l[j]?.getD 0)) ∧ w.frozen? ⟨g, j, none⟩ = false := by
  obtain ⟨h0, h1⟩ := h
  have ho := h1
  obtain ⟨_, ⟨rfl, h2⟩ | ⟨g, cap, cur, rfl, hg, hh, hnc, hcm, hcs, ht⟩⟩ := h0
  · omega
  · have hl := lt_of_heap hh
    refine ⟨g, cap, rfl, ho g rfl, hg, hl, hnc, hcm, ?_, blk_free hh j⟩
    rw [blk_cell hh, ← Array.getElem?_toList, ← List.getElem?_take_of_lt (l := cur.toList) (show j < l.length * 1 by omega), ht, List.getElem?_map, List.getElem?_eq_getElem hj]
    rfl
/-- An element is written. -/
theorem Row.set {own : Nat → Nat} {i base : Nat} {w : World} {g c n : Nat} {l : List Int} (h : Row own i base w (.slice (some ⟨g, 0, none⟩) n c) l) (j : Nat) (y : Int) : Row own i base (w.setCell ⟨g, j, none⟩ (.int .i64 y)) (.slice (some ⟨g, 0, none⟩) n c) (l.set j y) := by
  obtain ⟨⟨hx, h0⟩, h1⟩ := h
  refine ⟨⟨by simp, ?_⟩, h1⟩
  rcases h0 with ⟨h0, _⟩ | ⟨g', cap, cur, hv, hg, hh, hnc, hcm, hcs, ht⟩
  · cases h0
  · have e1 : g = g' ∧ n = l.length ∧ c = cap := by
      injection hv with e1 e2 e3
      injection e1 with e1
      injection e1 with e1
      exact ⟨e1, e2, e3⟩
    obtain ⟨rfl, rfl, rfl⟩ := e1
    refine .inr ⟨g, c, cur.setIfInBounds j (.int .i64 y), by simp, hg, blk_set hh j _, by simpa using hnc, hcm, by simpa using hcs, ?_⟩
    apply List.ext_getElem?
    intro k
    by_cases hk : k < l.length
    · rw [List.getElem?_take_of_lt (by simpa using hk), Array.getElem?_toList, Array.getElem?_setIfInBounds, List.getElem?_map, List.getElem?_set]
      have e : (cur.toList.take (l.length * 1))[k]? = (l.map I8)[k]? := by rw [ht]
      rw [List.getElem?_take_of_lt (by omega), List.getElem?_map, Array.getElem?_toList] at e
      by_cases hkj : j = k
      · subst hkj
        simp only [if_pos, hk, if_true]
        rw [if_pos (by omega)]
        rfl
      · rw [if_neg hkj, if_neg hkj]
        exact e
    · rw [List.getElem?_eq_none (by simp; omega), List.getElem?_eq_none (by simp; omega)]
theorem AkAt.other {own : Nat → Nat} {base : Nat} {w : World} {q : Nat} {h : Hd} {a : Ak} (H : AkAt own base w q h a) {g i : Nat} (hg : own g = i) (hi : i ≠ 0) (j : Nat) (v : Value) : ∀ k, own k ≠ i → (w.setCell ⟨g, j, none⟩ v).heap[k]? = w.heap[k]? :=
  fun k hk => Below.heap_setCell w _ _ k (fun e => hk (by rw [e]; exact hg))
theorem AkAt.setSeen {own : Nat → Nat} {base : Nat} {w : World} {q : Nat} {h : Hd} {a : Ak} (H : AkAt own base w q h a) {g c : Nat} (hv : h.vs = .slice (some ⟨g, 0, none⟩) a.seen.length c) (hg : own g = 6) (j : Nat) (y : Int) : AkAt own base (w.setCell ⟨g, j, none⟩ (.int .i64 y)) q h { a with seen := a.seen.set j y } := by
  have hk := H.other hg (by decide) j (.int .i64 y)
  refine ⟨(hk q (by rw [H.hq]; decide)).trans H.head, H.hq, H.calls.keep (fun k hl e => hk k (by rw [e]; decide)), H.rep.keep (hk _ (by rw [H.hr]; decide)), H.hr, H.bag.keep (fun k hl e => hk k (by rw [e]; decide)) (by simp [World.setCell]),
    H.done.keep (fun k hl e => hk k (by rw [e]; decide)), H.told.keep (fun k hl e => hk k (by rw [e]; decide)), ?_, fun k e => ⟨(H.back k e).1, by have := (H.back k e).2; simpa [World.setCell] using this⟩, fun k o e => have e1 := H.ext k o e; ⟨e1.1, (hk k (by rw [e1.1]; decide)).trans e1.2⟩⟩
  have := H.seen
  rw [hv] at this ⊢
  exact this.set j y
theorem AkAt.setTold {own : Nat → Nat} {base : Nat} {w : World} {q : Nat} {h : Hd} {a : Ak} (H : AkAt own base w q h a) {g c : Nat} (hv : h.vt = .slice (some ⟨g, 0, none⟩) a.told.length c) (hg : own g = 5) (j : Nat) (y : Int) : AkAt own base (w.setCell ⟨g, j, none⟩ (.int .i64 y)) q h { a with told := a.told.set j y } := by
  have hk := H.other hg (by decide) j (.int .i64 y)
  refine ⟨(hk q (by rw [H.hq]; decide)).trans H.head, H.hq, H.calls.keep (fun k hl e => hk k (by rw [e]; decide)), H.rep.keep (hk _ (by rw [H.hr]; decide)), H.hr, H.bag.keep (fun k hl e => hk k (by rw [e]; decide)) (by simp [World.setCell]),
    H.done.keep (fun k hl e => hk k (by rw [e]; decide)), ?_, H.seen.keep (fun k hl e => hk k (by rw [e]; decide)), fun k e => ⟨(H.back k e).1, by have := (H.back k e).2; simpa [World.setCell] using this⟩, fun k o e => have e1 := H.ext k o e; ⟨e1.1, (hk k (by rw [e1.1]; decide)).trans e1.2⟩⟩
  have := H.told
  rw [hv] at this ⊢
  exact this.set j y
theorem AkAt.setDone {own : Nat → Nat} {base : Nat} {w : World} {q : Nat} {h : Hd} {a : Ak} (H : AkAt own base w q h a) {g c : Nat} (hv : h.vd = .slice (some ⟨g, 0, none⟩) a.done.length c) (hg : own g = 4) (j : Nat) (y : Int) : AkAt own base (w.setCell ⟨g, j, none⟩ (.int .i64 y)) q h { a with done := a.done.set j y } := by
  have hk := H.other hg (by decide) j (.int .i64 y)
  refine ⟨(hk q (by rw [H.hq]; decide)).trans H.head, H.hq, H.calls.keep (fun k hl e => hk k (by rw [e]; decide)), H.rep.keep (hk _ (by rw [H.hr]; decide)), H.hr, H.bag.keep (fun k hl e => hk k (by rw [e]; decide)) (by simp [World.setCell]),
    ?_, H.told.keep (fun k hl e => hk k (by rw [e]; decide)), H.seen.keep (fun k hl e => hk k (by rw [e]; decide)), fun k e => ⟨(H.back k e).1, by have := (H.back k e).2; simpa [World.setCell] using this⟩, fun k o e => have e1 := H.ext k o e; ⟨e1.1, (hk k (by rw [e1.1]; decide)).trans e1.2⟩⟩
  have := H.done
  rw [hv] at this ⊢
  exact this.set j y
theorem Row.cellAt {own : Nat → Nat} {i base : Nat} {w : World} {v : Value} {l : List Int} (h : Row own i base w v l) {g n c j : Nat} {x : Int} (hv : v = .slice (some ⟨g, 0, none⟩) n c) (hj : l[j]? = some x) : w.cell? ⟨g, j, none⟩ = some (.int .i64 x) ∧ w.frozen? ⟨g, j, none⟩ = false := by
  obtain ⟨g', c', e1, _, _, _, _, _, e2, e3⟩ := h.at_ (List.getElem?_eq_some_iff.1 hj).1
  rw [hv] at e1
  injection e1 with e1
  injection e1 with e1
  injection e1 with e1
  subst e1
  rw [hj] at e2
  exact ⟨e2, e3⟩
/-- What arrives reads. -/
structure ArS (own : Nat → Nat) (base q : Nat) (h : Hd) (a : Ak) (w : World) (m : Ms) (mb : Nat) (u : World) : Prop where
  ak : AkAt own base u q h a
  msg : u.heap[mb]? = some (.cells m.cells 51 (0, 0))
  free : own mb = 0
  low : Below base w u
theorem ArS.below {own : Nat → Nat} {base q : Nat} {h : Hd} {a : Ak} {w : World} {m : Ms} {mb : Nat} {u u' : World} (H : ArS own base q h a w m mb u) (hB : base ≤ w.heap.size) (hb : Below u.heap.size u u') : ArS own base q h a w m mb u' :=
  ⟨H.ak.below hb, (hb.block _ (lt_of_heap H.msg)).trans H.msg, H.free, H.low.trans (hb.mono (Nat.le_trans hB H.low.size))⟩
theorem ArS.cells {own : Nat → Nat} {base q : Nat} {h : Hd} {a : Ak} {w : World} {m : Ms} {mb : Nat} {u : World} (H : ArS own base q h a w m mb u) :
    (∀ i, u.cell? ⟨q, i, none⟩ = #[.pointer (some ⟨h.pc, 0, none⟩), .pointer (some ⟨h.pr, 0, none⟩), .pointer (some ⟨h.pb, 0, none⟩), h.vd, h.vt, h.vs][i]?) ∧ (∀ i, u.cell? ⟨mb, i, none⟩ = m.cells[i]?) := ⟨fun i => blk_cell H.ak.head i, fun i => blk_cell H.msg i⟩
theorem ArS.upCalls {own : Nat → Nat} {base q : Nat} {h : Hd} {a : Ak} {w : World} {m : Ms} {mb : Nat} {u u' : World} {c' : Cl} (H : ArS own base q h a w m mb u) (hB : base ≤ w.heap.size) (hc : CallsAt (fun k => own k = 1) u' h.pc c') (hm : Mod (fun k => own k = 1) u u') : ArS own base q h { a with c := c' } w m mb u' :=
  ⟨H.ak.upCalls hc hm, (hm.block mb (lt_of_heap H.msg) (by rw [H.free]; decide)).trans H.msg, H.free, H.low.trans (H.ak.belowOf (Nat.le_trans hB H.low.size) (by decide) hm)⟩
/-- A block of nobody's is written whole. -/
theorem ArS.stored {own : Nat → Nat} {base q : Nat} {h : Hd} {a : Ak} {w : World} {m : Ms} {mb : Nat} {u : World} (H : ArS own base q h a w m mb u) {r : Nat} {old xs : Array Value} {ty : TypeId} (hr : u.heap[r]? = some (.cells old ty (0, 0))) (hsz : old.size = xs.size) (hi : (Tryz.prog.info? ty).map (·.size) = some xs.size) (h1 : xs.all (·.oneCell') = true) (ho : own r = 0) (hne : r ≠ mb) (hb : base ≤ r) :
    (storeCells ⟨r, 0, none⟩ xs.toList 0).run Tryz.prog u = .ok () (u.setRow r xs) ∧ ArS own base q h a w m mb (u.setRow r xs) := by
  refine ⟨run_storeCells_row u r ty ty old xs hr hi hsz h1, ⟨H.ak.keep (fun k _ hk => setRow_other _ _ _ _ (fun e => hk (e ▸ ho))) (by rw [setRow_size]; exact Nat.le_refl _), (setRow_other _ _ _ _ (Ne.symm hne)).trans H.msg, H.free, ?_⟩⟩
  exact below_row H.low hb _
theorem ArS.fresh {own : Nat → Nat} {base q : Nat} {h : Hd} {a : Ak} {w : World} {m : Ms} {mb : Nat} {u : World} (H : ArS own base q h a w m mb u) (hB : base ≤ w.heap.size) {r : Nat} (hr : u.heap.size ≤ r) : own r = 0 ∧ r ≠ mb ∧ base ≤ r :=
  ⟨Classical.byContradiction fun e => by have := (H.ak.back r e).2; omega, by have := lt_of_heap H.msg; omega, by have := H.low.size; omega⟩
theorem ArS.setSeen {own : Nat → Nat} {base q : Nat} {h : Hd} {a : Ak} {w : World} {m : Ms} {mb : Nat} {u : World} (H : ArS own base q h a w m mb u) {g c : Nat} (hv : h.vs = .slice (some ⟨g, 0, none⟩) a.seen.length c) (hg : own g = 6) (j : Nat) (y : Int) : ArS own base q h { a with seen := a.seen.set j y } w m mb (u.setCell ⟨g, j, none⟩ (.int .i64 y)) :=
  ⟨H.ak.setSeen hv hg j y, (Below.heap_setCell u _ _ mb (fun e => by have := H.free; rw [e] at this; rw [hg] at this; cases this)).trans H.msg, H.free, H.low.setCell (p := ⟨g, j, none⟩) (H.ak.back g (by rw [hg]; decide)).1 _⟩
theorem ArS.setTold {own : Nat → Nat} {base q : Nat} {h : Hd} {a : Ak} {w : World} {m : Ms} {mb : Nat} {u : World} (H : ArS own base q h a w m mb u) {g c : Nat} (hv : h.vt = .slice (some ⟨g, 0, none⟩) a.told.length c) (hg : own g = 5) (j : Nat) (y : Int) : ArS own base q h { a with told := a.told.set j y } w m mb (u.setCell ⟨g, j, none⟩ (.int .i64 y)) :=
  ⟨H.ak.setTold hv hg j y, (Below.heap_setCell u _ _ mb (fun e => by have := H.free; rw [e] at this; rw [hg] at this; cases this)).trans H.msg, H.free, H.low.setCell (p := ⟨g, j, none⟩) (H.ak.back g (by rw [hg]; decide)).1 _⟩
theorem ArS.setDone {own : Nat → Nat} {base q : Nat} {h : Hd} {a : Ak} {w : World} {m : Ms} {mb : Nat} {u : World} (H : ArS own base q h a w m mb u) {g c : Nat} (hv : h.vd = .slice (some ⟨g, 0, none⟩) a.done.length c) (hg : own g = 4) (j : Nat) (y : Int) : ArS own base q h { a with done := a.done.set j y } w m mb (u.setCell ⟨g, j, none⟩ (.int .i64 y)) :=
  ⟨H.ak.setDone hv hg j y, (Below.heap_setCell u _ _ mb (fun e => by have := H.free; rw [e] at this; rw [hg] at this; cases this)).trans H.msg, H.free, H.low.setCell (p := ⟨g, j, none⟩) (H.ak.back g (by rw [hg]; decide)).1 _⟩
end Go.Proofs.YtaelbgjcoakdlaaGreat
