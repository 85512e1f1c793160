/- Calls: Close, New.  Calls: ask, may.  Calls: Ask. -/
import Derived.Test.YtaelbgjcoakdlaaGreatCallsM
namespace Go.Proofs.YtaelbgjcoakdlaaGreat
open Go.RowKit Go.Maps

def Cl.close (c : Cl) (k : Nat) : Cl := { c with opn := c.opn.filter (· ≠ k) }
theorem ClOK.close {c : Cl} (h : ClOK c) (k : Nat) : ClOK (c.close k) := ⟨h.sorted.filter _, fun j hj => h.pos j (List.mem_filter.1 hj).1⟩
theorem Opn.del {D : DataW Unit} {l : List Nat} {k : Nat} (h : Opn D l) (ht : Tidy D) (hs : l.Pairwise (· < ·)) (hk : k ∈ l) : Opn (D.del (nkey k)) (l.filter (· ≠ k)) := by
  refine ⟨fun s => ?_, fun j hj z => ?_, ?_⟩
  · by_cases hs : (k : Int) = s
    · subst hs
      rw [has_del_same]
      symm
      apply decide_eq_false
      rintro ⟨j, hj, e⟩
      have := (List.mem_filter.1 hj).2
      simp at this
      omega
    · rw [has_del_other (fun e => hs (nkey_inj e).symm), h.has]
      apply decide_eq_decide.2
      constructor
      · rintro ⟨j, hj, e⟩
        exact ⟨j, List.mem_filter.2 ⟨hj, by simp; omega⟩, e⟩
      · rintro ⟨j, hj, e⟩
        exact ⟨j, (List.mem_filter.1 hj).1, e⟩
  · have h1 := (List.mem_filter.1 hj).2
    rw [atKey_del_other (fun e => by have := nkey_inj e; simp at h1; omega)]
    exact h.at_ j (List.mem_filter.1 hj).1 z
  · have h1 := size_del (k := nkey k) ht
    rw [h.has, if_pos (decide_eq_true ⟨k, hk, rfl⟩), h.size] at h1
    have h2 : (l.filter (· ≠ k)).length + 1 = l.length := by
      clear h h1 ht
      induction l with
      | nil => cases hk
      | cons a l ih =>
        have hp := List.pairwise_cons.1 hs
        rcases List.mem_cons.1 hk with rfl | hk
        · have : l.filter (· ≠ k) = l := List.filter_eq_self.2 (fun x hx => by have := hp.1 x hx; simp; omega)
          rw [List.filter_cons_of_neg (by simp), this, List.length_cons]
        · have hne : a ≠ k := by have := hp.1 k hk; omega
          rw [List.filter_cons_of_pos (by simpa using hne), List.length_cons, List.length_cons]
          have := ih hp.2 hk
          omega
    omega
theorem heap_of_own {w : World} {P : Program} {k : TypeId} {R : Value → Option (DataW Unit × List MemPlace)} {b n : Nat} {D : DataW Unit} (h : w.ownsMap P k R b n D) : ∃ es clock, w.heap[b]? = some (.map es clock) := by
  obtain ⟨es, clock, e1, _⟩ := h; exact ⟨es, clock, e1⟩
def ClosePost (G : Nat → Prop) (p : Nat) (c' : Cl) (v : Value) (b : Bool) (w : World) (e : Ending) (w' : World) : Prop := e = .returned (.tuple #[v, .bool b]) ∧ CallsAt G w' p c' ∧ Mod G w w'
set_option maxRecDepth 100000 in
set_option maxHeartbeats 2000000 in
theorem close_in (G : Nat → Prop) (p : Nat) (c : Cl) (k : Nat) (w : World) (h : CallsAt G w p c) (ho : ClOK c) (hn : c.next ≤ 1000) (hk : k ∈ c.opn) : Calls Tryz.prog 20 #[.pointer (some ⟨p, 0, none⟩), .int .i64 k] w (ClosePost G p (c.close k) (.agg (callC k 5 1)) true w) := by
  have HO := Lib.hid ho
  have hbA : Below w.heap.size w (w.alloc (.cells zeroC 75)) := (Below.refl _ _).alloc (Nat.le_refl _) _
  have HB := Lib.hid hbA
  have HC := Lib.hid (h.tight.below hbA)
  have HK := Lib.hid hk
  have HW := Lib.hid (wf64 (x := (k : Int)) (by have := (ho.pos k hk).2; omega))
  clear h ho hk hbA
  go_enter Tryz.func20, Tryz.ntmps20
  go_wp2_with fail
  refine (get_in _ p c k _ HC.out HO.out hn HK.out).mono ?_
  rintro e w1 ⟨rfl, hb1⟩
  have HB1 := Lib.hid (below_step HB.out hb1)
  have HR1 := Lib.hid ((hb1.block w.heap.size (by simp)).trans (heap_at w (.cells zeroC 75) _ rfl))
  have hC1 := HC.out.below hb1
  have hs1 : w.heap.size + 1 ≤ w1.heap.size := by have := hb1.size; simpa using this
  clear hb1
  have hbB : Below w1.heap.size w1 (w1.alloc (.cells (callC k 5 1) 75)) := (Below.refl _ _).alloc (Nat.le_refl _) _
  have HC2 := Lib.hid (hC1.below hbB)
  obtain ⟨b, D, h1, h2, h3, h4, h5⟩ := hC1.head
  have hpl : p < w1.heap.size := lt_of_heap h1
  have HP := Lib.hid h1
  have HOWN0 := Lib.hid h2
  have HOWN1 := Lib.hid h2.lt
  have HOWN := Lib.hid (h2.alloc (.cells (callC k 5 1) 75))
  have HD := Lib.hid h3
  have HG := Lib.hid (And.intro h4 h5)
  obtain ⟨c0, c1, c2, _, _, _⟩ := blk3 h1
  have HBB := Lib.hid hbB
  clear h1 h2 h3 h4 h5 hC1 hbB
  go_wp2_with (first
    | (refine wpList_store_row rfl 75 (.tmp 6) (.tmp 12) rfl w1.heap.size (callC k 5 1) rfl rfl 75 _ (heap_at _ _ _ rfl) (by kernel_rfl) rfl (callC_one _ _ _) ?_; rw [World.setRow_alloc_new])
    | (at_delete; refine wpList_delete_own _ rfl _ _ 56 3 rfl 75 (int_keyed Tryz.underlying3) Tryz.underlying56 callElem b c.next D rfl HOWN.out _ _ rfl (keyN _ HW.out) ?_; intro w2 hown2 hturn2; have HOWN2 := Lib.hid hown2; have HT2 := Lib.hid hturn2.grown; have HR2 := Lib.hid ((hturn2.grown.block w1.heap.size (by simp) (by intro e; injection e with e; have := HOWN1.out; omega)).trans (heap_at w1 _ _ rfl)); have HZ2 := Lib.hid (((hturn2.grown.block w.heap.size (by simp; omega) (by intro e; injection e with e; have := HG.out.2.2; omega)).trans (heap_past w1 _ _ (by omega))).trans HR1.out); clear hown2 hturn2)
    | (refine wpList_load_row rfl 75 (.tmp 6) rfl w1.heap.size rfl 75 (callC k 5 1) (0, 0) _ HR2.out Tryz.underlying75 rfl (by kernel_rfl) ?_)
    | (refine wpList_store_row rfl 75 (.tmp 4) (.tmp 20) rfl w.heap.size (callC k 5 1) rfl rfl 75 _ HZ2.out (by kernel_rfl) rfl (callC_one _ _ _) ?_))
  refine bodyPost_ret (v := .tuple #[.agg (callC k 5 1), .bool true]) (results_cell_tmp2 (fn := Tryz.f20) rfl _ _ w.heap.size 75 (callC k 5 1) (0, 0) _ _ rfl rfl (setRow_heap _ _ _ _ _ _ HZ2.out) Tryz.underlying75 rfl (by kernel_rfl)) rfl ⟨rfl, ?_, ?_⟩
  · have hp2 : w2.heap[p]? = _ := (HT2.out.block p (by simp; omega) (by intro e; injection e with e; subst e; exact absurd (HP.out.symm.trans (heap_of_own HOWN0.out).choose_spec.choose_spec) (by simp))).trans ((heap_past w1 _ _ hpl).trans HP.out)
    obtain ⟨es, clock, e1, e2⟩ := HOWN2.out
    exact ⟨⟨b, D.del (nkey k), (setRow_other _ _ _ _ (by have := HG.out.1.2; omega)).trans hp2, ⟨es, clock, (setRow_other _ _ _ _ (by have := HG.out.2.2; omega)).trans e1, e2⟩, HD.out.del (HOWN0.out.tidy (int_keyed Tryz.underlying3)) HO.out.sorted HK.out, HG.out.1.1, HG.out.2.1⟩⟩
  · have h1 : Mod G w (w1.alloc (.cells (callC k 5 1) 75)) := (Mod.of_below HB1.out).alloc _
    have h2 : Mod G w w2 := h1.grown HT2.out (fun j e _ => by cases e; exact HG.out.2.1)
    exact ⟨h2.os, h2.tape, h2.output, by rw [setRow_size]; exact h2.size, fun j hj hg => (setRow_other _ _ _ _ (by omega)).trans (h2.block j hj hg)⟩
set_option maxRecDepth 100000 in
set_option maxHeartbeats 2000000 in
theorem close_out (G : Nat → Prop) (p : Nat) (c : Cl) (k : Int) (w : World) (h : CallsAt G w p c) (ho : ClOK c) (hi : -9223372036854775808 ≤ k ∧ k ≤ 9223372036854775807) (hk : ∀ j ∈ c.opn, (j : Int) ≠ k) : Calls Tryz.prog 20 #[.pointer (some ⟨p, 0, none⟩), .int .i64 k] w (GetPost (.agg zeroC) false w) := by
  have HO := Lib.hid ho
  have hbA : Below w.heap.size w (w.alloc (.cells zeroC 75)) := (Below.refl _ _).alloc (Nat.le_refl _) _
  have HB := Lib.hid hbA
  have HC := Lib.hid (h.tight.below hbA)
  have HK := Lib.hid hk
  clear h ho hk hbA
  go_enter Tryz.func20, Tryz.ntmps20
  go_wp2_with fail
  refine (get_out _ p c k _ HC.out HO.out hi HK.out).mono ?_
  rintro e w1 ⟨rfl, hb1⟩
  have HB1 := Lib.hid (below_step HB.out hb1)
  have HR1 := Lib.hid ((hb1.block w.heap.size (by simp)).trans (heap_at w (.cells zeroC 75) _ rfl))
  clear hb1
  go_wp2_with (first
    | (refine wpList_store_row rfl 75 (.tmp 6) (.tmp 12) rfl w1.heap.size zeroC rfl rfl 75 _ (heap_at _ _ _ rfl) (by kernel_rfl) rfl zeroC_one ?_; rw [World.setRow_alloc_new])
    | (refine wpList_load_row rfl 75 (.tmp 6) rfl w1.heap.size rfl 75 zeroC (0, 0) _ (heap_at _ _ _ rfl) Tryz.underlying75 rfl (by kernel_rfl) ?_)
    | (refine wpList_store_row rfl 75 (.tmp 4) (.tmp 20) rfl w.heap.size zeroC rfl rfl 75 _ (blk_alloc HR1.out _) (by kernel_rfl) rfl zeroC_one ?_))
  exact bodyPost_ret (v := .tuple #[.agg zeroC, .bool false]) (results_cell_tmp2 (fn := Tryz.f20) rfl _ _ w.heap.size 75 zeroC (0, 0) _ _ rfl rfl (setRow_heap _ _ _ _ _ _ (blk_alloc HR1.out _)) Tryz.underlying75 rfl (by kernel_rfl)) rfl ⟨rfl, below_row (HB1.out.alloc HB1.out.size _) (Nat.le_refl _) _⟩
/-- New. -/
def NewPost (boot : Nat) (w : World) (e : Ending) (w' : World) : Prop := ∃ p, e = .returned (.tuple #[.pointer (some ⟨p, 0, none⟩), .int .i64 0]) ∧ CallsAt (fun b => w.heap.size ≤ b) w' p ⟨boot, 1, []⟩ ∧ Below w.heap.size w w'
theorem opn_nil : Opn (.map [] : DataW Unit) [] := ⟨fun s => by simp [Maps.has], (fun k hk => by cases hk), rfl⟩
theorem newCalls_any (boot : Nat) (w : World) (h1 : 1 ≤ boot) (h2 : boot ≤ 1099511627776) : Calls Tryz.prog 4 #[.int .i64 boot] w (NewPost boot w) := by
  have hmm := @run_makeMap Tryz.prog
  have k1 : (1 : Int) ≤ (boot : Int) := by omega
  have k2 : (boot : Int) ≤ 1099511627776 := by omega
  go_enter Tryz.func4, Tryz.ntmps4
  go_wp2_with fail
  go_ret2
  have hown := World.ownsMap_made w Tryz.prog 3 callElem
  refine ⟨w.heap.size + 1, rfl, ⟨⟨w.heap.size, _, heap_at _ _ _ (by simp), (hown.alloc _).mono (Nat.zero_le _), opn_nil, by omega, Nat.le_refl _⟩⟩, ((Below.refl _ _).alloc (Nat.le_refl _) _).alloc (by simp) _⟩
def BadNew (w : World) (e : Ending) (w' : World) : Prop := e = .returned (.tuple #[.pointer none, .int .i64 2]) ∧ w = w'
theorem newCalls_bad (boot : Int) (w : World) (h : boot < 1 ∨ 1099511627776 < boot) : Calls Tryz.prog 4 #[.int .i64 boot] w (BadNew w) := by
  rcases h with h | h
  · have d : decide (boot < 1) = true := decide_eq_true h
    go_enter Tryz.func4, Tryz.ntmps4
    go_wp2_with fail
    go_ret2
    exact ⟨rfl, rfl⟩
  · have d : decide (boot < 1) = false := decide_eq_false (by omega)
    have d2 : decide (1099511627776 < boot) = true := decide_eq_true h
    go_enter Tryz.func4, Tryz.ntmps4
    go_wp2_with fail
    go_ret2
    exact ⟨rfl, rfl⟩
end Go.Proofs.YtaelbgjcoakdlaaGreat
namespace Go.Proofs.YtaelbgjcoakdlaaGreat
open Go.RowKit Go.Maps

/-- The message of a call. -/
def askM (src boot seq low : Int) : Ms := ⟨1, src, 0, boot, seq, low, 3, 0, 9, 0⟩
theorem fine_askM {src boot seq low : Int} (h1 : 1 ≤ src ∧ src < 8) (h2 : 1 ≤ boot ∧ boot ≤ 1099511627776) (h3 : 1 ≤ low ∧ low ≤ seq) (h4 : seq ≤ 1099511627776) : Fine (askM src boot seq low) := by
  refine ⟨⟨.inl ⟨rfl, rfl, rfl, rfl⟩, ?_⟩, ⟨by show 0 ≤ src; omega, h1.2⟩, ⟨Int.le_refl _, by show (0 : Int) < 8; decide⟩, by show src ≠ 0; omega, ?_⟩
  · intro x hx
    simp [askM] at hx
    rcases hx with rfl | rfl | rfl | rfl | rfl | rfl | rfl | rfl | rfl | rfl <;> omega
  · rw [kinds_ask rfl rfl]
    intro k hk
    simp at hk
    rcases hk with rfl | rfl | rfl | rfl | rfl
    · exact h2
    · exact ⟨by show 1 ≤ seq; omega, h4⟩
    · exact h3
    · trivial
    · exact ⟨by show (1 : Int) ≤ 9; omega, by show (9 : Int) ≤ _; omega⟩
def AskPost (m : Ms) (w : World) (e : Ending) (w' : World) : Prop := e = .returned m.val ∧ Below w.heap.size w w'
set_option maxRecDepth 100000 in
set_option maxHeartbeats 2000000 in
theorem ask_any (src boot low s n t : Int) (w : World) : Calls Tryz.prog 24 #[.agg (callC s n t), .int .i64 src, .int .i64 boot, .int .i64 low] w (AskPost (askM src boot s low) w) := by
  have HB := Lib.hid (show Below w.heap.size w (w.alloc (.cells (callC s n t) 75)) from (Below.refl _ _).alloc (Nat.le_refl _) _)
  unfold callC at HB ⊢
  go_enter Tryz.func24, Tryz.ntmps24
  go_wp2_with (refine wpList_store_row rfl 51 (.tmp 8) (.tmp 28) rfl (w.heap.size + 1) (askM src boot s low).cells rfl rfl 51 _ (heap_at _ _ _ (by simp)) (by kernel_rfl) rfl (Ms.one _) ?_)
  exact bodyPost_ret (v := (askM src boot s low).val) (results_cell_row (fn := Tryz.f24) rfl _ _ (w.heap.size + 1) 51 (askM src boot s low).cells (0, 0) _ rfl (setRow_heap _ _ _ _ _ _ (heap_at _ _ _ (by simp))) Tryz.underlying51 rfl (by kernel_rfl)) rfl ⟨rfl, below_row (HB.out.alloc HB.out.size _) (by omega) _⟩
set_option maxRecDepth 100000 in
set_option maxHeartbeats 2000000 in
theorem may_any (w : World) : Calls Tryz.prog 29 #[.agg (callC 0 0 0)] w (Yes w) := by
  unfold callC
  go_enter Tryz.func29, Tryz.ntmps29
  go_wp2_with fail
  rw [show bits BinOp.and IntKind.i64 (wrap64 (bits BinOp.and IntKind.i64 0 7 + 1)) 7 = 1 by decide +kernel]
  refine (ask_any 1 1 1 1 0 0 _).mono ?_
  rintro e w1 ⟨rfl, hb1⟩
  have HB1 := Lib.hid (((Below.refl w.heap.size w).alloc (Nat.le_refl _) _).trans (hb1.mono (by simp)))
  obtain ⟨cs, hcs⟩ : ∃ cs, (askM 1 1 1 1).val = .agg cs := ⟨_, rfl⟩
  have HV := Lib.hid hcs
  rw [hcs]
  clear hb1 hcs
  go_wp2_with fail
  rw [← HV.out]
  refine (valid_any _ _ (fine_askM (by decide) (by decide) (by decide) (by decide))).mono ?_
  rintro e w2 ⟨rfl, hb2⟩
  have HB2 := Lib.hid (below_step HB1.out hb2)
  clear hb2
  go_wp2_with fail
  go_ret
  exact ⟨rfl, HB2.out⟩
end Go.Proofs.YtaelbgjcoakdlaaGreat
namespace Go.Proofs.YtaelbgjcoakdlaaGreat
open Go.RowKit Go.Maps

theorem run_storeCells_row {P : Program} (w : World) (g : Nat) (t ty : TypeId) (old c' : Array Value) (hg : w.heap[g]? = some (.cells old t (0, 0))) (hi : (P.info? ty).map (·.size) = some c'.size) (ho : old.size = c'.size) (h1 : c'.all (·.oneCell') = true) :
    (storeCells ⟨g, 0, none⟩ c'.toList 0).run P w = .ok () (w.setRow g c') := by
  have := run_storeVar_row (P := P) w g t ty old c' hg hi ho h1
  cases hq : P.info? ty with
  | none => simp [hq] at hi
  | some i =>
    have hs : c'.size = i.size := by simp [hq] at hi; omega
    simpa [storeVar, sizeOf, typeInfo, hq, Value.cells, hs] using this
def zeroM : Ms := ⟨0, 0, 0, 0, 0, 0, 0, 0, 0, 0⟩
/-- The cells that Ask reads and the block that it writes. -/
structure AskS (w : World) (G : Nat → Prop) (p q r : Nat) (c : Cl) (k : Int) (u : World) : Prop where
  calls : CallsAt G u p c
  q : u.heap[q]? = some (.cells (callC k 5 1) 75 (0, 0))
  r : ∃ m0 : Ms, u.heap[r]? = some (.cells m0.cells 51 (0, 0))
  b : Below w.heap.size w u
theorem AskS.below {w u u' : World} {G : Nat → Prop} {p q r : Nat} {c : Cl} {k : Int} (h : AskS w G p q r c k u) (hb : Below u.heap.size u u') : AskS w G p q r c k u' :=
  ⟨h.calls.below hb, (hb.block _ (lt_of_heap h.q)).trans h.q, h.r.imp (fun _ hr => (hb.block _ (lt_of_heap hr)).trans hr), below_step h.b hb⟩
theorem AskS.cells {w u : World} {G : Nat → Prop} {p q r : Nat} {c : Cl} {k : Int} (h : AskS w G p q r c k u) : (∀ i, u.cell? ⟨q, i, none⟩ = #[.int .i64 k, .int .i64 0, .int .i64 3, .string estr, .int .i64 0, .int .i64 0, .int .i64 9, .bool false, .int .i64 5, .int .i64 1][i]?) ∧ u.cell? ⟨p, 0, none⟩ = some (.int .i64 c.boot) := by
  refine ⟨fun i => blk_cell h.q i, ?_⟩
  obtain ⟨b, D, h1, _⟩ := h.calls.head
  exact blk_cell h1 0
theorem AskS.stored {w u : World} {G : Nat → Prop} {p q r : Nat} {c : Cl} {k : Int} (h : AskS w G p q r c k u) (m : Ms) (h1 : r ≠ q) (h2 : r = w.heap.size) (h3 : ∀ b, G b → b < w.heap.size) :
    (storeCells ⟨r, 0, none⟩ m.cells.toList 0).run Tryz.prog u = .ok () (u.setRow r m.cells) ∧ AskS w G p q r c k (u.setRow r m.cells) ∧ (u.setRow r m.cells).heap[r]? = some (.cells m.cells 51 (0, 0)) := by
  obtain ⟨m0, hr⟩ := h.r
  refine ⟨run_storeCells_row u r 51 51 m0.cells m.cells hr (by kernel_rfl) rfl (Ms.one m), ⟨?_, (setRow_other _ _ _ _ (Ne.symm h1)).trans h.q, ⟨m, setRow_heap _ _ _ _ _ _ hr⟩, below_row h.b (by omega) _⟩, setRow_heap _ _ _ _ _ _ hr⟩
  exact h.calls.keep (fun b _ hg => setRow_other _ _ _ _ (by have := h3 b hg; omega))
def AskedPost (G : Nat → Prop) (p : Nat) (c : Cl) (m : Ms) (b : Bool) (w : World) (e : Ending) (w' : World) : Prop := e = .returned (.tuple #[m.val, .bool b]) ∧ CallsAt G w' p c ∧ Below w.heap.size w w'
set_option maxRecDepth 100000 in
set_option maxHeartbeats 4000000 in
theorem asked_in (G : Nat → Prop) (p : Nat) (c : Cl) (k : Nat) (w : World) (h : CallsAt G w p c) (ho : ClOK c) (hn : c.next ≤ 1000) (hk : k ∈ c.opn) : Calls Tryz.prog 13 #[.pointer (some ⟨p, 0, none⟩), .int .i64 1, .int .i64 k] w (AskedPost G p c (askM 1 c.boot k c.low) true w) := by
  have HO := Lib.hid ho
  have hbA : Below w.heap.size w (w.alloc (.cells zeroM.cells 51)) := (Below.refl _ _).alloc (Nat.le_refl _) _
  have HB := Lib.hid hbA
  have HC := Lib.hid (h.tight.below hbA)
  have HK := Lib.hid hk
  clear h ho hk hbA
  go_enter Tryz.func13, Tryz.ntmps13
  go_wp2_with fail
  refine (get_in _ p c k _ HC.out HO.out hn HK.out).mono ?_
  rintro e w1 ⟨rfl, hb1⟩
  have hbB : Below w1.heap.size w1 (w1.alloc (.cells (callC k 5 1) 75)) := (Below.refl _ _).alloc (Nat.le_refl _) _
  have hS : AskS w (fun b => G b ∧ b < w.heap.size) p w1.heap.size w.heap.size c k (w1.alloc (.cells (callC k 5 1) 75)) :=
    ⟨(HC.out.below hb1).below hbB, heap_at w1 _ _ rfl, ⟨zeroM, blk_alloc ((hb1.block _ (by simp)).trans (heap_at w _ _ rfl)) _⟩, below_step (below_step HB.out hb1) hbB⟩
  have HS := Lib.hid hS
  obtain ⟨w2, hw2⟩ : ∃ w2, w2 = w1.alloc (.cells (callC k 5 1) 75) := ⟨_, rfl⟩
  have HS2 := Lib.hid (hw2 ▸ hS)
  have hpl : w.heap.size < w1.heap.size := by have := hb1.size; simp at this; omega
  clear hb1 hbB hS
  go_wp2_with (refine wpList_store_row rfl 75 (.tmp 8) (.tmp 14) rfl w1.heap.size (callC k 5 1) rfl rfl 75 _ (heap_at _ _ _ rfl) (by kernel_rfl) rfl (callC_one _ _ _) ?_; rw [World.setRow_alloc_new, ← hw2]; have HW2 := Lib.hid hw2; clear hw2; have hcells := HS2.out.cells)
  obtain ⟨hx0, hx1⟩ := HS2.out.cells
  have hx2 := HS2.out
  obtain ⟨hy0, hy1⟩ := (HS2.out.below (below_drew w2)).cells
  have hy2 := HS2.out.below (below_drew w2)
  clear hcells
  have hs16 : (askM 1 c.boot k c.low).cells.size = 16 := rfl
  have hne1 : w.heap.size ≠ w1.heap.size := by omega
  go_region_held_law (fun u => (∀ i, u.cell? ⟨w1.heap.size, i, none⟩ = #[.int .i64 k, .int .i64 0, .int .i64 3, .string estr, .int .i64 0, .int .i64 0, .int .i64 9, .bool false, .int .i64 5, .int .i64 1][i]?) ∧ u.cell? ⟨p, 0, none⟩ = some (.int .i64 c.boot) ∧ AskS w (fun b => G b ∧ b < w.heap.size) p w1.heap.size w.heap.size c k u) (first | (go_split_ands; exact ⟨by assumption, by assumption, by assumption⟩) | go_keep) (first
    | (go_at_call 25; (refine (low_any' _ p c _ (AskS.calls (by assumption)) HO.out hn).mono ?_); rintro e w3 ⟨rfl, _, hb3⟩; go_split_ands; have hz2 := AskS.below (by assumption) hb3; (obtain ⟨hz0, hz1⟩ := hz2.cells))
    | (go_at_call 24; (refine (ask_any 1 c.boot c.low k 5 1 _).mono ?_); rintro e w3 ⟨he, hb3⟩; unfold Ms.val at he; subst he; go_split_ands; have hz2 := AskS.below (by assumption) hb3; (obtain ⟨hz0, hz1⟩ := hz2.cells); (obtain ⟨hst, hz3, hz6⟩ := hz2.stored (askM 1 c.boot k c.low) hne1 rfl (fun b hb => hb.2)); (obtain ⟨hz4, hz5⟩ := hz3.cells)))
  all_goals
    have hz7 := AskS.calls (show AskS w (fun b => G b ∧ b < w.heap.size) p w1.heap.size w.heap.size c k (World.setRow _ w.heap.size (askM 1 c.boot k c.low).cells) from by assumption)
    have hz8 := AskS.b (show AskS w (fun b => G b ∧ b < w.heap.size) p w1.heap.size w.heap.size c k (World.setRow _ w.heap.size (askM 1 c.boot k c.low).cells) from by assumption)
    have HZ6 := Lib.hid (show (World.setRow _ w.heap.size (askM 1 c.boot k c.low).cells).heap[w.heap.size]? = some (.cells (askM 1 c.boot k c.low).cells 51 (0, 0)) from by assumption)
    go_wp2_with fail
    exact bodyPost_ret (v := .tuple #[(askM 1 c.boot k c.low).val, .bool true]) (results_cell_tmp2 (fn := Tryz.f13) rfl _ _ w.heap.size 51 (askM 1 c.boot k c.low).cells (0, 0) _ _ rfl rfl HZ6.out Tryz.underlying51 rfl (by kernel_rfl)) rfl ⟨rfl, hz7.mono (fun _ _ h => h.1), hz8⟩
set_option maxRecDepth 100000 in
set_option maxHeartbeats 4000000 in
theorem asked_out (G : Nat → Prop) (p : Nat) (c : Cl) (k : Int) (w : World) (h : CallsAt G w p c) (ho : ClOK c) (hi : -9223372036854775808 ≤ k ∧ k ≤ 9223372036854775807) (hk : ∀ j ∈ c.opn, (j : Int) ≠ k) : Calls Tryz.prog 13 #[.pointer (some ⟨p, 0, none⟩), .int .i64 1, .int .i64 k] w (AskedPost G p c zeroM false w) := by
  have HO := Lib.hid ho
  have hbA : Below w.heap.size w (w.alloc (.cells zeroM.cells 51)) := (Below.refl _ _).alloc (Nat.le_refl _) _
  have HB := Lib.hid hbA
  have HC := Lib.hid (h.tight.below hbA)
  have HK := Lib.hid hk
  clear h ho hk hbA
  go_enter Tryz.func13, Tryz.ntmps13
  go_wp2_with fail
  refine (get_out _ p c k _ HC.out HO.out hi HK.out).mono ?_
  rintro e w1 ⟨rfl, hb1⟩
  have HB1 := Lib.hid (below_step HB.out hb1)
  have HR1 := Lib.hid ((hb1.block w.heap.size (by simp)).trans (heap_at w (.cells zeroM.cells 51) _ rfl))
  have HC1 := Lib.hid (HC.out.below hb1)
  clear hb1
  have hz : ∀ W : World, (zeroValue 51).run Tryz.prog W = .ok zeroM.val W := fun W => by kernel_rfl
  go_wp2_with (first
    | (refine wpList_store_row rfl 75 (.tmp 8) (.tmp 14) rfl w1.heap.size zeroC rfl rfl 75 _ (heap_at _ _ _ rfl) (by kernel_rfl) rfl zeroC_one ?_; rw [World.setRow_alloc_new])
    | (refine wpList_store_row rfl 51 (.tmp 6) (.tmp 32) rfl w.heap.size zeroM.cells rfl rfl 51 _ (blk_alloc HR1.out _) (by kernel_rfl) rfl (Ms.one _) ?_))
  refine bodyPost_ret (v := .tuple #[zeroM.val, .bool false]) (results_cell_tmp2 (fn := Tryz.f13) rfl _ _ w.heap.size 51 zeroM.cells (0, 0) _ _ rfl rfl (setRow_heap _ _ _ _ _ _ (blk_alloc HR1.out _)) Tryz.underlying51 rfl (by kernel_rfl)) rfl ⟨rfl, ?_, below_row (HB1.out.alloc HB1.out.size _) (Nat.le_refl _) _⟩
  exact ((HC1.out.below ((Below.refl _ _).alloc (Nat.le_refl _) _)).keep (fun b _ hg => setRow_other _ _ _ _ (by have := hg.2; omega))).mono (fun _ _ h => h.1)
end Go.Proofs.YtaelbgjcoakdlaaGreat
