/- Calls: Open. -/
import Derived.Test.YtaelbgjcoakdlaaGreatCallsdM
import Derived.IntWalk
namespace Go.Proofs.YtaelbgjcoakdlaaGreat
open Go.RowKit Go.Maps

def Cl.busy (c : Cl) : Prop := 4 ≤ c.opn.length ∨ 8 ≤ c.next - c.low
instance (c : Cl) : Decidable c.busy := by unfold Cl.busy; infer_instance
def Cl.open_ (c : Cl) : Cl := { c with next := c.next + 1, opn := c.opn ++ [c.next] }
theorem ClOK.open_ {c : Cl} (h : ClOK c) (h1 : 1 ≤ c.next) : ClOK c.open_ := by
  refine ⟨List.pairwise_append.2 ⟨h.sorted, by simp, fun a ha b hb => by simp at hb; subst hb; exact (h.pos a ha).2⟩, fun k hk => ?_⟩
  rcases List.mem_append.1 hk with hk | hk
  · have := h.pos k hk; exact ⟨this.1, by show k < c.next + 1; omega⟩
  · simp at hk; subst hk; exact ⟨h1, by show c.next < c.next + 1; omega⟩
theorem Opn.put {D : DataW Unit} {l : List Nat} {k : Nat} (h : Opn D l) (ht : Tidy D) (hk : ∀ j ∈ l, j < k) : Opn (D.put (nkey k) (.lit (nkey k))) (l ++ [k]) := by
  have hkey : WideAt.IsKeyLit (nkey (k : Int)) := by simp [WideAt.IsKeyLit, nkey]
  refine ⟨fun s => ?_, fun j hj z => ?_, ?_⟩
  · by_cases hs : (k : Int) = s
    · subst hs
      rw [has_put_same ht.isMap hkey]
      exact (decide_eq_true ⟨k, by simp, rfl⟩).symm
    · rw [has_put_other (fun e => hs (nkey_inj e).symm), h.has]
      apply decide_eq_decide.2
      constructor
      · rintro ⟨j, hj, e⟩
        exact ⟨j, List.mem_append_left _ hj, e⟩
      · rintro ⟨j, hj, e⟩
        rcases List.mem_append.1 hj with hj | hj
        · exact ⟨j, hj, e⟩
        · simp at hj; subst hj; exact absurd e hs
  · rcases List.mem_append.1 hj with hj | hj
    · rw [atKey_put_other (fun e => by have := nkey_inj e; have := hk j hj; omega)]
      exact h.at_ j hj z
    · simp at hj; subst hj
      exact atKey_put_same ht.isMap hkey _ _
  · have h0 : Maps.has D (nkey k) = false := by
      rw [h.has]
      apply decide_eq_false
      rintro ⟨j, hj, e⟩
      have := hk j hj
      omega
    rw [size_put ht, h0, h.size]
    simp
theorem step_len_own {P : Program} {w : World} {ops : Array Oper} {o : Oper} {a : Act} {K : Act → World → Prop} {Q : Exit → Act → World → Prop} {E : Prop} (hgd : o.guard = none) (m : Operand) (t : TypeId)
    (hop : o.op = .call { callee := .builtin .len, args := #[m], argTypes := #[t] }) (k e : TypeId) (ht : P.underlying t = some (.map k e)) (R : Value → Option (DataW Unit × List MemPlace)) (b n : Nat) (D : DataW Unit)
    (hm : a.eval m = .map (some b)) (hown : w.ownsMap P k R b n D) (L : Nat) (hL : Maps.size D = L) (h : K (a.put o.dst (.int .i64 L)) w) :
    if Region.wanted o (yielded ops a.tmps) = true then Oper.wp P o a w K Q else E := by
  have hw : Region.wanted o (yielded ops a.tmps) = true := by simp [Region.wanted, hgd]
  rw [if_pos hw]
  subst hL
  unfold Oper.wp
  simp [execOp, hop, resolve, invoke, builtin, hm, hown.len ht o.type, Result.andThen]
  exact h
def OpenPost (G : Nat → Prop) (p : Nat) (c' : Cl) (n : Int) (er : Int) (w : World) (e : Ending) (w' : World) : Prop := e = .returned (.tuple #[.int .i64 n, .int .i64 er]) ∧ CallsAt G w' p c' ∧ Mod G w w'
/-- What Open reads in its drawn regions. -/
structure OpenS (w : World) (G : Nat → Prop) (p q b : Nat) (D : DataW Unit) (c : Cl) (u : World) : Prop where
  calls : CallsAt G u p c
  p : u.heap[p]? = some (.cells #[.int .i64 c.boot, .int .i64 c.next, .map (some b)] 58 (0, 0))
  own : u.ownsMap Tryz.prog 3 callElem b c.next D
  q : u.heap[q]? = some (.cells (callC 0 0 0) 75 (0, 0))
  b : Below w.heap.size w u
theorem OpenS.below {w u u' : World} {G : Nat → Prop} {p q b : Nat} {D : DataW Unit} {c : Cl} (h : OpenS w G p q b D c u) (hb : Below u.heap.size u u') : OpenS w G p q b D c u' := by
  refine ⟨h.calls.below hb, (hb.block _ (lt_of_heap h.p)).trans h.p, ?_, (hb.block _ (lt_of_heap h.q)).trans h.q, below_step h.b hb⟩
  have hl := h.own.lt
  obtain ⟨es, clock, e1, e2⟩ := h.own
  exact ⟨es, clock, (hb.block b hl).trans e1, e2⟩
theorem OpenS.cells {w u : World} {G : Nat → Prop} {p q b : Nat} {D : DataW Unit} {c : Cl} (h : OpenS w G p q b D c u) : u.cell? ⟨p, 1, none⟩ = some (.int .i64 c.next) ∧ u.cell? ⟨p, 2, none⟩ = some (.map (some b)) ∧ (∀ ty, (Builtin.len_ #[56] ty #[.map (some b)]).run Tryz.prog u = .ok (.int .i64 (Maps.size D)) u) :=
  ⟨blk_cell h.p 1, blk_cell h.p 2, fun ty => h.own.len Tryz.underlying56 ty⟩
theorem OpenS.len {w u : World} {G : Nat → Prop} {p q b : Nat} {D : DataW Unit} {c : Cl} (h : OpenS w G p q b D c u) (hd : Opn D c.opn) : (Builtin.len_ #[56] 3 #[.map (some b)]).run Tryz.prog u = .ok (.int .i64 (c.opn.length : Nat)) u := by
  rw [← hd.size]
  exact h.own.len Tryz.underlying56 _
set_option maxRecDepth 100000 in
set_option maxHeartbeats 4000000 in
theorem open_busy (G : Nat → Prop) (p : Nat) (c : Cl) (w : World) (h : CallsAt G w p c) (ho : ClOK c) (hn : c.next ≤ 1000) (hb : c.busy) : Calls Tryz.prog 16 #[.pointer (some ⟨p, 0, none⟩), .int .i64 5, .agg (callC 0 0 0)] w (OpenPost G p c 0 52 w) := by
  have HO := Lib.hid ho
  have HBU := Lib.hid hb
  have HC := Lib.hid (h.below ((Below.refl w.heap.size w).alloc (Nat.le_refl _) (.cells (callC 0 0 0) 75)))
  have HB := Lib.hid (show Below w.heap.size w (w.alloc (.cells (callC 0 0 0) 75)) from (Below.refl _ _).alloc (Nat.le_refl _) _)
  have hpl : p < w.heap.size := by obtain ⟨b, D, h1, _⟩ := h.head; exact lt_of_heap h1
  have hq := heap_at w (.cells (callC 0 0 0) 75) _ rfl
  have HQ := Lib.hid hq
  have hn2 : (c.next : Int) ≤ 1000 := by omega
  have hn0 : (0 : Int) ≤ (c.next : Int) := by omega
  have dN : decide (1099511627776 < (c.next : Int)) = false := decide_eq_false (by omega)
  clear h ho hb hq
  go_enter Tryz.func16, Tryz.ntmps16
  go_wp2_with (refine wpList_load_row rfl 75 (.tmp 5) rfl w.heap.size rfl 75 (callC 0 0 0) (0, 0) _ HQ.out Tryz.underlying75 rfl (by kernel_rfl) ?_)
  refine (may_any _).mono ?_
  rintro e w1 ⟨rfl, hb1⟩
  obtain ⟨b, D, h1, h2, h3, h4, h5⟩ := (HC.out.below hb1).head
  have hS : OpenS w G p w.heap.size b D c w1 := ⟨HC.out.below hb1, h1, h2, (hb1.block w.heap.size (by simp)).trans HQ.out, below_step HB.out hb1⟩
  have HS := Lib.hid hS
  have HD := Lib.hid h3
  have c1 := blk_cell h1 1
  have c2 := blk_cell h1 2
  clear hb1 h1 h2 h3 h4 h5 hS
  go_wp2_with fail
  have hx2 := HS.out
  obtain ⟨hx0, hx1, _⟩ := HS.out.cells
  have hy2 := HS.out.below (below_drew w1)
  have hx4 := hx2.len HD.out
  have hy4 := hy2.len HD.out
  obtain ⟨hy0, hy1, _⟩ := hy2.cells
  have hlow := c.low_le
  have hsub : IntKind.i64.wrap ((c.next : Int) - (c.low : Int)) = (c.next : Int) - (c.low : Int) := IntWalk.i64_in _ (by omega)
  have hbz : (decide (4 ≤ (c.opn.length : Int)) = true) ∨ (decide (4 ≤ (c.opn.length : Int)) = false ∧ decide (8 ≤ (c.next : Int) - (c.low : Int)) = true) := by
    have hl := c.low_le
    by_cases h : 4 ≤ c.opn.length
    · exact .inl (decide_eq_true (by omega))
    · rcases HBU.out with h' | h'
      · exact absurd h' h
      · exact .inr ⟨decide_eq_false (by omega), decide_eq_true (by omega)⟩
  rcases hbz with d4 | ⟨d4, d8⟩
  · have hlq : ∀ a : Nat, (Builtin.len_ #[56] 3 #[.map (some b)]).run Tryz.prog (w1.drewN a) = .ok (.int .i64 (c.opn.length : Nat)) (w1.drewN a) := fun a => by
      rw [← HD.out.size]
      exact World.ownsMap.len (w := w1.drewN a) (show (w1.drewN a).ownsMap Tryz.prog 3 callElem b c.next D from HS.out.own) Tryz.underlying56 _
    go_quiet (fail)
    go_wp2_with fail
    go_ret2
    exact ⟨rfl, (HS.out.below (below_drewN w1 _)).calls, Mod.of_below (HS.out.below (below_drewN w1 _)).b⟩
  · go_region_held3 (fun u => u.cell? ⟨p, 1, none⟩ = some (.int .i64 c.next) ∧ u.cell? ⟨p, 2, none⟩ = some (.map (some b)) ∧ (Builtin.len_ #[56] 3 #[.map (some b)]).run Tryz.prog u = .ok (.int .i64 (c.opn.length : Nat)) u ∧ OpenS w G p w.heap.size b D c u) (first | (go_split_ands; exact ⟨by assumption, by assumption, by assumption, by assumption⟩) | go_keep) ((go_at_call 25; (refine (low_any' G p c _ (OpenS.calls (by assumption)) HO.out hn).mono ?_); rintro e w3 ⟨rfl, _, hb3⟩; go_split_ands; have hz2 := OpenS.below (by assumption) hb3; (obtain ⟨hz0, hz1, hz3⟩ := hz2.cells); have hz4 := hz2.len HD.out))
    have HZ := Lib.hid (show OpenS w G p w.heap.size b D c _ from by assumption)
    clear d8 hsub
    go_wp2_with fail
    go_ret2
    exact ⟨rfl, HZ.out.calls, Mod.of_below HZ.out.b⟩
set_option maxRecDepth 100000 in
set_option maxHeartbeats 4000000 in
theorem open_ok (G : Nat → Prop) (p : Nat) (c : Cl) (w : World) (h : CallsAt G w p c) (ho : ClOK c) (hn : c.next ≤ 1000) (h1 : 1 ≤ c.next) (hb : ¬ c.busy) : Calls Tryz.prog 16 #[.pointer (some ⟨p, 0, none⟩), .int .i64 5, .agg (callC 0 0 0)] w (OpenPost G p c.open_ c.next 0 w) := by
  have HO := Lib.hid ho
  have HBU := Lib.hid hb
  have H1 := Lib.hid h1
  have HC := Lib.hid (h.tight.below ((Below.refl w.heap.size w).alloc (Nat.le_refl _) (.cells (callC 0 0 0) 75)))
  have HB := Lib.hid (show Below w.heap.size w (w.alloc (.cells (callC 0 0 0) 75)) from (Below.refl _ _).alloc (Nat.le_refl _) _)
  have hpl : p < w.heap.size := by obtain ⟨b, D, h1, _⟩ := h.head; exact lt_of_heap h1
  have hq := heap_at w (.cells (callC 0 0 0) 75) _ rfl
  have HQ := Lib.hid hq
  have hn2 : (c.next : Int) ≤ 1000 := by omega
  have hn0 : (0 : Int) ≤ (c.next : Int) := by omega
  have dN : decide (1099511627776 < (c.next : Int)) = false := decide_eq_false (by omega)
  clear h ho hb hq h1
  go_enter Tryz.func16, Tryz.ntmps16
  go_wp2_with (refine wpList_load_row rfl 75 (.tmp 5) rfl w.heap.size rfl 75 (callC 0 0 0) (0, 0) _ HQ.out Tryz.underlying75 rfl (by kernel_rfl) ?_)
  refine (may_any _).mono ?_
  rintro e w1 ⟨rfl, hb1⟩
  obtain ⟨b, D, h1, h2, h3, h4, h5⟩ := (HC.out.below hb1).head
  have hS : OpenS w (fun b => G b ∧ b < w.heap.size) p w.heap.size b D c w1 := ⟨HC.out.below hb1, h1, h2, (hb1.block w.heap.size (by simp)).trans HQ.out, below_step HB.out hb1⟩
  have HS := Lib.hid hS
  have HD := Lib.hid h3
  have HG := Lib.hid (And.intro h4 h5)
  have c1 := blk_cell h1 1
  have c2 := blk_cell h1 2
  clear hb1 h1 h2 h3 h4 h5 hS
  go_wp2_with fail
  have hx2 := HS.out
  obtain ⟨hx0, hx1, _⟩ := HS.out.cells
  have hy2 := HS.out.below (below_drew w1)
  have hx4 := hx2.len HD.out
  have hy4 := hy2.len HD.out
  obtain ⟨hy0, hy1, _⟩ := hy2.cells
  have hlow := c.low_le
  have hsub : IntKind.i64.wrap ((c.next : Int) - (c.low : Int)) = (c.next : Int) - (c.low : Int) := IntWalk.i64_in _ (by omega)
  have d4 : decide (4 ≤ (c.opn.length : Int)) = false := decide_eq_false (by have := HBU.out; unfold Cl.busy at this; omega)
  have d8 : decide (8 ≤ (c.next : Int) - (c.low : Int)) = false := decide_eq_false (by have := HBU.out; unfold Cl.busy at this; omega)
  go_region_held3 (fun u => u.cell? ⟨p, 1, none⟩ = some (.int .i64 c.next) ∧ u.cell? ⟨p, 2, none⟩ = some (.map (some b)) ∧ (Builtin.len_ #[56] 3 #[.map (some b)]).run Tryz.prog u = .ok (.int .i64 (c.opn.length : Nat)) u ∧ OpenS w (fun b => G b ∧ b < w.heap.size) p w.heap.size b D c u) (first | (go_split_ands; exact ⟨by assumption, by assumption, by assumption, by assumption⟩) | go_keep) ((go_at_call 25; (refine (low_any' _ p c _ (OpenS.calls (by assumption)) HO.out hn).mono ?_); rintro e w3 ⟨rfl, _, hb3⟩; go_split_ands; have hz2 := OpenS.below (by assumption) hb3; (obtain ⟨hz0, hz1, hz3⟩ := hz2.cells); have hz4 := hz2.len HD.out))
  have HZ := Lib.hid (show OpenS w (fun b => G b ∧ b < w.heap.size) p w.heap.size b D c _ from by assumption)
  have HQ3 := Lib.hid HZ.out.q
  clear d4 d8 hsub
  have q1 := blk_cell HZ.out.p 1
  have q2 := blk_cell HZ.out.p 2
  have s0 := blk_cell HQ3.out 0
  have s8 := blk_cell HQ3.out 8
  have s9 := blk_cell HQ3.out 9
  have f0 := blk_free HQ3.out 0
  have f8 := blk_free HQ3.out 8
  have f9 := blk_free HQ3.out 9
  have hne : p ≠ w.heap.size := by omega
  unfold callC at s0 s8 s9
  go_wp2_with fail
  obtain ⟨w4, hw4⟩ : ∃ w4, w4 = (((w3.setCell ⟨w.heap.size, 0, none⟩ (.int .i64 c.next)).setCell ⟨w.heap.size, 8, none⟩ (.int .i64 5)).setCell ⟨w.heap.size, 9, none⟩ (.int .i64 1)) := ⟨_, rfl⟩
  have hq4 : w4.heap[w.heap.size]? = some (.cells (callC c.next 5 1) 75 (0, 0)) := by rw [hw4]; exact blk_set (blk_set (blk_set HQ3.out 0 _) 8 _) 9 _
  have hp4 : w4.heap[p]? = some (.cells #[.int .i64 c.boot, .int .i64 c.next, .map (some b)] 58 (0, 0)) := by rw [hw4]; exact blk_far (blk_far (blk_far HZ.out.p hne _) hne _) hne _
  have hb4 : Below w.heap.size w w4 := by rw [hw4]; exact ((HZ.out.b.setCell (Nat.le_refl _) _).setCell (Nat.le_refl _) _).setCell (Nat.le_refl _) _
  have hbq : b ≠ w.heap.size := by have := HG.out.2.2; omega
  have hbp : b ≠ p := by
    intro e
    subst e
    obtain ⟨es, clock, e1⟩ := heap_of_own HZ.out.own
    exact absurd (HZ.out.p.symm.trans e1) (by simp)
  have ho4 : w4.drew.ownsMap Tryz.prog 3 callElem b c.next D := by rw [hw4]; exact (((HZ.out.own.setCell hbq _).setCell hbq _).setCell hbq _).drew
  obtain ⟨w5, hrun, ho5, ht5⟩ := ho4.store (int_keyed Tryz.underlying3) Tryz.underlying56 (by unfold maxLen; omega) (keyN (c.next : Int) (wf64 (by omega))) (callElem_call (s := (c.next : Int)) (by have := H1.out; omega))
  have hg5 := ht5.grown
  have hq5 : w5.heap[w.heap.size]? = _ := (hg5.block w.heap.size (lt_of_heap hq4) (by intro e; injection e with e; omega)).trans hq4
  have hp5 : w5.heap[p]? = _ := (hg5.block p (lt_of_heap hp4) (by intro e; injection e with e; omega)).trans hp4
  have r0 : w4.drew.cell? ⟨p, 2, none⟩ = some (.map (some b)) := blk_cell hp4 2
  have r1 : AllAt w4.drew w.heap.size (callC c.next 5 1) := fun i => blk_cell hq4 i
  have r2 : w5.cell? ⟨p, 2, none⟩ = some (.map (some b)) := blk_cell hp5 2
  have r3 : AllAt w5 w.heap.size (callC c.next 5 1) := fun i => blk_cell hq5 i
  have r6 := blk_cell hp5 1
  have r7 := blk_free hp5 1
  have r8 : w5.cell? ⟨w.heap.size, 0, none⟩ = some (.int .i64 c.next) := blk_cell hq5 0
  have HB4 := Lib.hid hb4
  have HO5 := Lib.hid ho5
  have HG5 := Lib.hid hg5
  have HP5 := Lib.hid hp5
  have HNE := Lib.hid (And.intro hbq hbp)
  rw [← hw4]
  have HW4 := Lib.hid hw4
  unfold AllAt callC at r1 r3
  unfold callV callC at hrun
  clear hw4 hq4 hp4 hb4 hbq hbp ho4 ho5 ht5 hg5 hq5 hp5 q1 q2 s0 s8 s9 f0 f8 f9
  go_region_held3 (fun u => u.cell? ⟨p, 2, none⟩ = some (.map (some b)) ∧ (∀ i, u.cell? ⟨w.heap.size, i, none⟩ = #[.int .i64 c.next, .int .i64 0, .int .i64 3, .string estr, .int .i64 0, .int .i64 0, .int .i64 9, .bool false, .int .i64 5, .int .i64 1][i]?)) (first | (go_split_ands; exact ⟨by assumption, by assumption⟩) | go_keep) (fail)
  clear hrun r0 r1 r2 r3
  go_wp2_with fail
  go_ret2
  refine ⟨rfl, ⟨⟨b, _, ?_, HO5.out.setCell HNE.out.2 _, HD.out.put (HZ.out.own.tidy (int_keyed Tryz.underlying3)) (fun j hj => (HO.out.pos j hj).2), HG.out.1.1, HG.out.2.1⟩⟩, ?_⟩
  · have := blk_set HP5.out 1 (.int .i64 ((c.next : Int) + 1))
    exact this
  · have h1 : Mod G w w5 := ((Mod.of_below HB4.out).drew).grown HG5.out (fun j e _ => by injection e with e; subst e; exact HG.out.2.1)
    exact h1.setCell (p := ⟨p, 1, none⟩) (fun _ => HG.out.1.1) _
end Go.Proofs.YtaelbgjcoakdlaaGreat
