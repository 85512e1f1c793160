/- slices.Collect(maps.Values(entries)): of no entry, of one.  slices.Collect(maps.Values(entries)): the slice.  The path set: along. -/
import Derived.Test.YtchdfogifhfclaaGreatDoorSputM
import Derived.Test.YtchdfogifhfclaaGreatDoorChunk
import Derived.RangeFuncNested
import Derived.Shelf.SlIterI.Stops
import Derived.Sort.MapsRangeIn
namespace Go.Proofs.YtchdfogifhfclaaGreatDoor
open Go.RowKit Go.Maps Go.MapKept Go.Shelf Go.WideElems
attribute [local go_sem] Oper.semAt_some

def entR (e : Ent) (v : Value) : Option (DataW Unit × List MemPlace) :=
  match v with
  | .agg cs =>
    match cs.toList with
    | [.int .i64 a, .string p, .int .i64 m, .int .i64 b] => if a = 1 ∧ p = e.p ∧ m = e.m ∧ b = 1 then some (.lit (.bool true), []) else none
    | _ => none
  | _ => none
theorem entR_mk (e : Ent) : entR e (.agg (entC e)) = some (.lit (.bool true), []) := by simp [entR, entC]
theorem entR_inv {e : Ent} {v : Value} {z : DataW Unit × List MemPlace} (h : entR e v = some z) : v = .agg (entC e) := by
  unfold entR at h
  split at h
  · rename_i cs
    split at h
    · rename_i a p m b hcs
      split at h
      · rename_i hc
        obtain ⟨rfl, rfl, rfl, rfl⟩ := hc
        unfold entC
        congr 1
        exact Array.toList_inj.1 hcs
      · cases h
    · cases h
  · cases h
def anyR (_ : Value) : Option (DataW Unit × List MemPlace) := some (.lit (.bool true), [])
theorem own_none {w : World} {b c : Nat} (P : Program) (k : TypeId) (R : Value → Option (DataW Unit × List MemPlace)) (h : w.heap[b]? = some (.map #[] c)) : w.ownsMap P k R b 0 (.map []) := ⟨#[], c, h, ⟨by simp, stamped_empty c, by simp⟩, Nat.le_refl _, rfl⟩
theorem own_one {w : World} {b : Nat} (e : Ent) (h : w.heap[b]? = some (.map (entries (some e)) 1)) : ∃ D, w.ownsMap Tryz.prog 3 (entR e) b 1 D ∧ Maps.size D = 1 := by
  refine ⟨_, ⟨_, 1, h, ⟨by simp [entries, maxLen], ⟨by simp [entries], by simp [entries], by simp [entries]⟩, ?_⟩, by simp [entries], rfl⟩, ?_⟩
  · intro x hx
    simp [entries] at hx
    subst hx
    exact ⟨(.int .i64 1, .lit (.bool true)), by simp [rd, keyI (x := 1) (by omega), entR_mk]⟩
  · simp [entries, Maps.size, DataW.insert]
set_option maxRecDepth 100000 in
set_option maxHeartbeats 1000000 in
theorem vals1_in (en : Ent) (n : Nat) (hn : 1 ≤ n) (l Bm em : Nat) (J Jx : List Unit → World → Prop)
    (hY : ∀ pre x W, J pre W → pre.length < 1 → YieldAt Fence.wide (n - 1) Tryz.prog l #[.agg (entC en)] W fun e W' =>
      (e = .returned (.bool true) ∧ J (pre ++ [x]) W' ∧ KeepsWalks W W') ∨ (e = .returned (.bool false) ∧ Jx (pre ++ [x]) W'))
    (W : World) (hJ : AbidesFrom W.heap.size J) (hm : W.cell? ⟨Bm, 0, none⟩ = some (.map (some em))) (hmap : W.heap[em]? = some (.map (entries (some en)) 1)) (h0 : J [] W) :
    CallsIn Fence.wide n Tryz.prog 211 #[.func (.yield l) #[] #[], .pointer (some ⟨Bm, 0, none⟩)] W fun e W' => (∃ v, e = .returned v) ∧
      ((∃ ys, ys = [()] ∧ J ys W') ∨ (∃ pre, pre <+: [()] ∧ Jx pre W')) := by
  obtain ⟨D, hown, hD⟩ := own_one en hmap
  refine callsIn_of_wp Tryz.func211 rfl (by trivial) ?_ rfl
  simp only [Tryz.ntmps211, List.size_toArray, List.length_cons, List.length_nil, Nat.reduceAdd, Nat.reduceSub, Array.replicate_succ, Array.replicate_zero, List.push_toArray, List.append_toArray, List.nil_append, List.cons_append]
  gi_wp2_with (first
    | (gi_at_range; refine wpListIn_range_own _ rfl _ 204 rfl 3 151 (int_keyed Tryz.underlying3) Tryz.underlying204 _ em 1 _ rfl hown ?_; intro w0 hrg0 hg0 hs0)
    | gi_in)
  go_frame
  gi_loopw [4] (fun _ wr => ∃ (left : Lit → Bool) (cnt : Nat) (ss : List Unit), wr.ranges Tryz.prog 3 (entR en) em W.heap.size 1 D left cnt ∧ ss.length + cnt = 1 ∧ J ss wr)
    (fun _ wr => wr.rangeLeft em W.heap.size)
  case atStart =>
    exact ⟨_, _, [], hrg0, by simp [hD], hJ [] W w0 none h0 hg0 (fun r e => by cases e)⟩
  case round =>
    obtain ⟨left, cnt, ss, hrg, hcs, hJs⟩ := hrel
    gi_wp2_with (first
      | (gi_at_next; refine wpListIn_next_ranges _ rfl _ rfl 3 (int_keyed Tryz.underlying3) (entR en) (Value.int .i64) id (fun key kl hk => by obtain ⟨x, hx, _⟩ := Maps.keyOf_int_inv Tryz.underlying3 hk; exact ⟨x, hx⟩) (fun v _ _ => ⟨v, rfl⟩) em W.heap.size 1 _ _ _ rfl hrg ?_ ?_)
      | gi_in)
    · intro hc0 hl0
      gi_wp2
      go_end0
      refine ⟨⟨_, rfl⟩, .inl ⟨ss, ?_, hJs⟩⟩
      have h1 : ss.length = 1 := by omega
      match ss, h1 with
      | [()], _ => rfl
    · intro x c kl yd yp w2 cnt2 hkey hlk hv hat hrg2 hlt hg2 hs2 hen
      obtain rfl : c = .agg (entC en) := entR_inv hv
      have hss : ss = [] := List.eq_nil_of_length_eq_zero (by omega)
      subst hss
      have hJ2 : J [] w2 := hJ [] wr w2 (some W.heap.size) hJs hg2 (fun r e => by cases e; exact ⟨Nat.le_refl _, hrg.iter_walk⟩)
      have hJ3 : J [] (w2.alloc (.cells (entC en) 151)) := hJ [] w2 _ none hJ2 (World.grownBy_alloc w2 _ none) (fun r e => by cases e)
      have hrg3 := hrg2.alloc (.cells (entC en) 151)
      have hR0 := hY [] () _ hJ3 (by simp)
      unfold entC at hR0 hrg3 hen hJ3
      obtain ⟨fn, tmps, assign, body, hy, hR⟩ := hR0
      clear hs2
      unfold entC
      gi_wp2
      refine hR.mono ?_
      rintro e W3 (⟨rfl, hJ4, hk3⟩ | ⟨rfl, hJx3⟩)
      · gi_wp2
        have hrg4 := hrg3.of_walks hk3
        go_roundw
        case rel => exact ⟨_, cnt2, [()], hrg4, by simp; omega, hJ4⟩
        case measure => rw [hrg4.left_eq, hrg.left_eq]; exact hlt
      · gi_wp2
        refine bodyPost_ret (results_none rfl _ _ _) rfl ?_
        exact ⟨⟨_, rfl⟩, .inr ⟨[] ++ [()], ⟨[], by simp⟩, hJx3⟩⟩
end Go.Proofs.YtchdfogifhfclaaGreatDoor
namespace Go.Proofs.YtchdfogifhfclaaGreatDoor
open Go.RowKit Go.Maps Go.MapKept Go.Shelf Go.WideElems
attribute [local go_sem] Oper.semAt_some

set_option maxRecDepth 100000 in
set_option maxHeartbeats 1000000 in
theorem vals0_in (n : Nat) (hn : 1 ≤ n) (l Bm em c : Nat) (J : List Unit → World → Prop) (W : World) (hJ : AbidesFrom W.heap.size J) (hm : W.cell? ⟨Bm, 0, none⟩ = some (.map (some em))) (hmap : W.heap[em]? = some (.map #[] c)) (h0 : J [] W) :
    CallsIn Fence.wide n Tryz.prog 211 #[.func (.yield l) #[] #[], .pointer (some ⟨Bm, 0, none⟩)] W fun e W' => (∃ v, e = .returned v) ∧ J [] W' := by
  have hown := own_none Tryz.prog 3 anyR hmap
  refine callsIn_of_wp Tryz.func211 rfl (by trivial) ?_ rfl
  simp only [Tryz.ntmps211, List.size_toArray, List.length_cons, List.length_nil, Nat.reduceAdd, Nat.reduceSub, Array.replicate_succ, Array.replicate_zero, List.push_toArray, List.append_toArray, List.nil_append, List.cons_append]
  gi_wp2_with (first
    | (gi_at_range; refine wpListIn_range_own _ rfl _ 204 rfl 3 151 (int_keyed Tryz.underlying3) Tryz.underlying204 _ em 0 _ rfl hown ?_; intro w0 hrg0 hg0 hs0)
    | gi_in)
  go_frame
  refine wpIn_loop_rounds 1 ?_
  rw [roundsIn_succ]
  gi_wp2_with (first
    | (gi_at_next; refine wpListIn_next_ranges _ rfl _ rfl 3 (int_keyed Tryz.underlying3) anyR (Value.int .i64) id (fun key kl hk => by obtain ⟨x, hx, _⟩ := Maps.keyOf_int_inv Tryz.underlying3 hk; exact ⟨x, hx⟩) (fun v _ _ => ⟨v, rfl⟩) em W.heap.size 0 _ _ _ rfl hrg0 ?_ ?_)
    | gi_in)
  · intro hc0 hl0
    gi_wp2
    go_end0
    exact ⟨⟨_, rfl⟩, hJ [] W w0 none h0 hg0 (fun r e => by cases e)⟩
  · intro x c kl yd yp w2 cnt2 hkey hlk hv hat hrg2 hlt hg2 hs2 hen
    exact absurd hlt (by simp [Maps.size])
/-- How many entries come. -/
def outs : Option Ent → List Unit
  | none => []
  | some _ => [()]
def entOf : Option Ent → Ent
  | none => ⟨⟨#[]⟩, 0⟩
  | some e => e
theorem vals_stops (o : Option Ent) (n : Nat) (hn : 1 ≤ n) (Bm em : Nat) (w : World) (hBm : Bm < w.heap.size) (hem : em < w.heap.size) (hm : w.cell? ⟨Bm, 0, none⟩ = some (.map (some em))) (hmap : w.heap[em]? = some (.map (entries o) (entries o).size)) :
    SeqStopsK Fence.wide n Tryz.prog 211 #[.pointer (some ⟨Bm, 0, none⟩)] (fun _ : Unit => #[.agg (entC (entOf o))]) KeepsWalks (fun ys => ys = outs o) (fun pre => pre <+: outs o) (outs o).length w := fun l J Jx W hW hJ _ hY h0 => by
  have h1 := (hW.cell (p := ⟨Bm, 0, none⟩) hBm).trans hm
  have h2 := (hW.block em hem).trans hmap
  cases o with
  | none => exact (vals0_in n hn l Bm em 0 J W hJ h1 h2 h0).mono fun _ _ ⟨he, hj⟩ => ⟨he, .inl ⟨[], rfl, hj⟩⟩
  | some e => exact vals1_in e n hn l Bm em J Jx hY W hJ h1 h2 h0
def rowsOf (e : Ent) : List Unit → List Value
  | [] => []
  | _ :: r => (entC e).toList ++ rowsOf e r
theorem rowsOf_snoc (e : Ent) (x : Unit) : ∀ l, rowsOf e (l ++ [x]) = rowsOf e l ++ (entC e).toList
  | [] => by simp [rowsOf]
  | _ :: l => by
    have := rowsOf_snoc e x l
    simp only [List.cons_append, rowsOf, this, List.append_assoc]
theorem Tryz.infoE : (Tryz.prog.info? 151).map (fun i => (i.zero, i.size, i.bytes)) = some (some (.agg #[.int .i64 0, .string ⟨#[]⟩, .int .i64 0, .int .i64 0]), 4, 40) := by kernel_rfl
theorem entC_one (e : Ent) : ∀ u ∈ (entC e).toList, u.oneCell' = true := by
  intro u hu
  simp [entC] at hu
  rcases hu with rfl | rfl | rfl | rfl <;> rfl
theorem own_box (base vb : Nat) (cs : Array Value) (t : TypeId) : OwnFrom base (fun (_ : Unit) W => W.heap[vb]? = some (.cells cs t (0, 0))) := by
  intro s W W' row h hg hr
  refine (hg.block vb (lt_of_heap h) (fun e => ?_)).trans h
  obtain ⟨_, o, ho, hc⟩ := hr vb e.symm
  rw [h] at ho
  cases ho
  cases hc
set_option maxRecDepth 100000 in
set_option maxHeartbeats 2000000 in
theorem appendSeq_ent (en : Ent) (os : List Unit) (hos : os.length ≤ 1) (n : Nat) (hn : 3 ≤ n) (Bm : Nat) (w : World)
    (hseq : ∀ W, Below w.heap.size w W → SeqStopsK Fence.wide (n - 1) Tryz.prog 211 #[.pointer (some ⟨Bm, 0, none⟩)] (fun _ : Unit => #[.agg (entC en)]) KeepsWalks (fun ys => ys = os) (fun pre => pre <+: os) os.length W) :
    CallsIn Fence.wide n Tryz.prog 210 #[.slice none 0 0, .func (.func 211) #[] #[.pointer (some ⟨Bm, 0, none⟩)]] w fun e W' => ∃ v, e = .returned v ∧ W'.ownsRow w.heap.size 151 4 v os.length (rowsOf en os) ∧ (os = [] → v = .slice none 0 0) ∧ Below w.heap.size w W' := by
  have h1 : 1 ≤ n := by omega
  obtain ⟨i0, hi, hz0, hz1, hz2⟩ := info_parts Tryz.infoE
  refine callsIn_of_wp_marks Tryz.func210 rfl trivial ?_ rfl
  simp only [Tryz.ntmps210, List.size_toArray, List.length_cons, List.length_nil, Nat.reduceAdd, Nat.reduceSub, Array.replicate_succ, Array.replicate_zero, List.push_toArray, List.append_toArray, List.nil_append, List.cons_append]
  gi_wp2
  have bO := Boxed.new w 213 (.slice none 0 0)
  have hB0 : Below w.heap.size w (w.alloc (.cells #[.slice none 0 0] 213)) := (Below.refl _ w).alloc (Nat.le_refl _) _
  have hI : OwnFrom (w.alloc (.cells #[.slice none 0 0] 213)).heap.size (fun (pre : List Unit) W => (∃ v, Boxed W w.heap.size 213 v ∧ W.ownsRow w.heap.size 151 4 v pre.length (rowsOf en pre) ∧ (pre = [] → v = .slice none 0 0)) ∧ Below w.heap.size w W) :=
    OwnFrom.and (Own.from (holdsRow_own w.heap.size w.heap.size 213 151 4 (fun pre : List Unit => pre.length) (rowsOf en) (fun pre v => pre = [] → v = .slice none 0 0)) _) (ownFrom_below (Nat.le_refl _) (by simp))
  refine wpIn_rangeFunc_ownH rfl h1 (gf := 211) (lb := #[.pointer (some ⟨Bm, 0, none⟩)]) rfl trivial (enters_of Tryz.func211 (by kernel_rfl) rfl)
    (hseq _ hB0) KeepsWalks.trans (fun W l o o' _ h _ hw => KeepsWalks.putObj o' h hw) (Below.refl _ _) (fun _ => rfl)
    (fun pre W => (∃ v, Boxed W w.heap.size 213 v ∧ W.ownsRow w.heap.size 151 4 v pre.length (rowsOf en pre) ∧ (pre = [] → v = .slice none 0 0)) ∧ Below w.heap.size w W)
    (fun _ _ _ => False) hI (fun _ _ _ _ _ hs _ _ => hs) ⟨⟨_, bO, World.ownsRow_nil _ _ _ _, fun _ => rfl⟩, hB0⟩
    (fun _ a' W => ∃ vb, a' = { tmps := #[.slice none 0 0, .func (.func 211) #[] #[.pointer (some ⟨Bm, 0, none⟩)], .pointer (some ⟨w.heap.size, 0, none⟩), undef, .slice none 0 0, .pointer (some ⟨vb, 0, none⟩), .func (.func 211) #[] #[.pointer (some ⟨Bm, 0, none⟩)], .agg (entC en), undef, undef, undef, undef, undef], defers := [] } ∧ W.heap[vb]? = some (.cells (entC en) 151 (0, 0)))
    (fun x a' s W W' row ⟨vb, e1, e2⟩ hg hr => ⟨vb, e1, own_box _ vb _ _ s W W' row e2 hg hr⟩) ?assign ?body ?done ?stop
  case assign =>
    intro l pre x W K hpre hK
    have hk := hK { tmps := #[.slice none 0 0, .func (.func 211) #[] #[.pointer (some ⟨Bm, 0, none⟩)], .pointer (some ⟨w.heap.size, 0, none⟩), undef, .slice none 0 0, .pointer (some ⟨W.heap.size, 0, none⟩), .func (.func 211) #[] #[.pointer (some ⟨Bm, 0, none⟩)], .agg (entC en), undef, undef, undef, undef, undef], defers := [] } (W.alloc (.cells (entC en) 151)) ((KeepsOthers.alloc W _).from _) (KeepsWalks.alloc W _) (hI.alloc _ hpre) ⟨W.heap.size, rfl, heap_at _ _ _ rfl⟩
    unfold entC at hk ⊢
    gi_wp2
    exact hk
  case body =>
    rintro l pre x a' W hl hr ⟨⟨v, hv, hrow, -⟩, hB⟩ ⟨vb, rfl, hvb⟩ hlt
    have hc := hv.cell
    have hvc := blk_cell hvb
    have hnew := heap_at W (.cells (entC en) 151) _ rfl
    have HNEW := Lib.hid hnew
    have hpl : pre.length = 0 := by omega
    have HPL := Lib.hid hpl
    clear hnew hpl
    unfold entC at hvc HNEW ⊢
    gi_wp2_with (gi_at_builtin; refine wpListIn_append_own _ rfl _ _ 213 rfl w.heap.size 151 i0 (.agg #[.int .i64 0, .string ⟨#[]⟩, .int .i64 0, .int .i64 0]) 4 40 Tryz.underlying213 hi hz0 hz1 hz2 rfl (by decide) _ _ _ rfl (hrow.alloc _) ⟨W.heap.size, 0, none⟩ 1 1 (entC en).toList rfl rfl (World.news_of_block HNEW.out) (entC_one en) (by have := HPL.out; unfold maxLen; omega) (by have := HPL.out; omega) (by have := hB.size; simp; omega) ?_; intro v' w1 hown' hgrow _; obtain ⟨g', cap', rfl⟩ := ownsRow_succ hown'; obtain ⟨hv1, hv2, hr2, hk2, hb2⟩ := hv.appended (by decide) hrow hB.size (Nat.le_refl _) hown' hgrow; have hc1 := hv1.cell; have hf1 := hv1.frozen)
    exact ⟨hk2.from _, hk2.walks, ⟨_, hv2, by rw [rowsOf_snoc]; simpa using hr2, fun h => by simp at h⟩, hB.trans hb2⟩
  case done =>
    rintro D ys W hD rfl ⟨⟨v, hv, hrow, hnil⟩, hB⟩ hK
    have hc := hv.cell
    have HNIL := Lib.hid hnil
    clear hnil
    gi_wp2
    refine ⟨by simp, .inl ⟨_, _, rfl, run_takeDeferred hK, ?_⟩⟩
    exact ⟨_, results_tmp rfl _ _ _, v, rfl, ownsRow_putObj hrow _ hK rfl, HNIL.out, hB.trans (belowK_b (w := w) (Nat.le_refl _) W D _ _ (by simp at hD; omega) hK rfl rfl)⟩
  case stop =>
    rintro D c pre W _ _ h _
    exact h.elim
/-- A slice of the entries. -/
def EntsV (base : Nat) (o : Option Ent) (w : World) (v : Value) : Prop := w.ownsRow base 151 4 v (outs o).length (rowsOf (entOf o) (outs o)) ∧ (o = none → v = .slice none 0 0)
theorem values_any (em : Nat) (w : World) : Calls Tryz.prog 181 #[.map (some em)] w fun e w' => e = .returned (.func (.func 211) #[] #[.pointer (some ⟨w.heap.size, 0, none⟩)]) ∧ w' = w.alloc (.cells #[.map (some em)] 204) := by
  have hmf : ∀ (fn : Fn) (first cap : Array Value) (w : World), (Instr.makeFunc fn first cap).run Tryz.prog w = .ok (.func fn first cap) w := fun _ _ _ _ => rfl
  go_enter Tryz.func181, Tryz.ntmps181
  go_wp2_with fail
  go_ret
  exact ⟨rfl, rfl⟩
def CollP (o : Option Ent) (w : World) (e : Ending) (w' : World) : Prop := ∃ v, e = .returned v ∧ EntsV w.heap.size o w' v ∧ Below w.heap.size w w'
theorem collect_any (o : Option Ent) (em Bm : Nat) (w : World) (hBm : Bm < w.heap.size) (hm : w.cell? ⟨Bm, 0, none⟩ = some (.map (some em))) (hmap : w.heap[em]? = some (.map (entries o) (entries o).size)) :
    Calls Tryz.prog 180 #[.func (.func 211) #[] #[.pointer (some ⟨Bm, 0, none⟩)]] w (CollP o w) := by
  have hem := lt_of_heap hmap
  have hap : Calls Tryz.prog 210 #[.slice none 0 0, .func (.func 211) #[] #[.pointer (some ⟨Bm, 0, none⟩)]] w _ :=
    (callsIn_wide (n := 3)).1 (appendSeq_ent (entOf o) (outs o) (by cases o <;> simp [outs]) 3 (by omega) Bm w (fun W hW => vals_stops o _ (by omega) Bm em W (Nat.lt_of_lt_of_le hBm hW.size) (Nat.lt_of_lt_of_le hem hW.size) ((hW.cell (p := ⟨Bm, 0, none⟩) hBm).trans hm) ((hW.block em hem).trans hmap)))
  clear hm hmap
  go_enter Tryz.func180, Tryz.ntmps180
  go_wp2_with fail
  refine hap.mono ?_
  rintro e w1 ⟨v, rfl, h1, h2, h3⟩
  have HH := Lib.hid (And.intro h1 (And.intro h2 h3))
  clear h1 h2 h3
  go_wp2_with fail
  go_ret
  exact ⟨v, rfl, ⟨HH.out.1, fun e => HH.out.2.1 (by rw [e]; rfl)⟩, HH.out.2.2⟩
set_option maxRecDepth 100000 in
set_option maxHeartbeats 1000000 in
/-- below, of a leaf. -/
theorem below_leaf (G : Nat → Prop) (o : Option Ent) (b : Nat) (w : World) (h : Leaf G w b o) : Calls Tryz.prog 135 #[.pointer (some ⟨b, 0, none⟩)] w (CollP o w) := by
  obtain ⟨em, cm, c, h1, h2, h3, -, -, -, hne⟩ := h
  have lb := lt_of_heap h1
  have le := lt_of_heap h2
  have lc := lt_of_heap h3
  have b0 := blk_cell h1 0
  have b1 := blk_cell h1 1
  have H2 := Lib.hid h2
  have H3 := Lib.hid h3
  clear h1 h2 h3
  go_enter Tryz.func135, Tryz.ntmps135
  go_wp2_with fail
  refine (values_any em _).mono ?_
  rintro e w1 ⟨rfl, hw1⟩
  have hB1 : Below w.heap.size w w1 := by rw [hw1]; exact (Below.refl _ _).alloc (Nat.le_refl _) _
  have hc1 : w1.cell? ⟨w.heap.size, 0, none⟩ = some (.map (some em)) := by rw [hw1]; exact blk_cell (heap_at w _ _ rfl) 0
  have hz1 : w.heap.size < w1.heap.size := by rw [hw1]; simp
  have HB1 := Lib.hid hB1
  clear hw1 hB1
  go_wp2_with fail
  refine (collect_any o em w.heap.size _ hz1 hc1 ((HB1.out.block em le).trans H2.out)).mono ?_
  rintro e w2 ⟨v, rfl, hv, hb2⟩
  have HV := Lib.hid hv
  have HB2 := Lib.hid (HB1.out.trans (hb2.mono HB1.out.size))
  have d1 := (HB2.out.cell (p := ⟨b, 1, none⟩) lb).trans b1
  have hown := own_none Tryz.prog 9 anyR ((HB2.out.block cm lc).trans H3.out)
  have hs2 := hb2.size
  clear hv hb2 b0 b1 hc1
  go_wp2_with (at_range; refine wpList_range_own _ rfl _ 205 rfl 9 144 (string_keyed Tryz.underlying9) Tryz.underlying205 _ cm 0 _ rfl hown ?_; intro w3 hrg hg3 hs3)
  go_frame
  refine wp_loop_rounds 1 ?_
  rw [rounds_succ]
  go_wp2_with (at_next; refine wpList_next_ranges _ rfl _ rfl 9 (string_keyed Tryz.underlying9) anyR id id (fun key kl hk => ⟨key, rfl⟩) (fun v _ _ => ⟨v, rfl⟩) cm w2.heap.size 0 _ _ _ rfl hrg ?_ ?_)
  · intro _ _
    go_wp2_with fail
    go_ret
    obtain ⟨e1, e2⟩ := HV.out
    exact ⟨v, rfl, ⟨row_base (ownsRow_keep e1 (fun g hg => hg3.block g (e1.lt g hg).2 (by simp))) HB1.out.size, e2⟩, HB2.out.grown hg3 HB2.out.size (fun k e => by cases e)⟩
  · intro x c kl yd yp w5 cnt2 hkey hlk hv hat hrg2 hlt hg2 hs5 hen
    exact absurd hlt (by simp [Maps.size])
end Go.Proofs.YtchdfogifhfclaaGreatDoor
namespace Go.Proofs.YtchdfogifhfclaaGreatDoor
open Go.RowKit Go.Maps Go.MapKept
open Go.ChangeMaps (setBlock)

theorem append_nils (W : World) (ty : TypeId) : (Builtin.append_ #[213, 213] ty #[.slice none 0 0, .slice none 0 0]).run Tryz.prog W = .ok (.slice none 0 0) W := by
  obtain ⟨i0, hi, _⟩ := info_parts Tryz.infoE
  exact Ck8.append_none (P := Tryz.prog) W 0 213 ty 151 i0 4 Tryz.underlying213 hi _ 0 [] (World.ownsRow_nil _ _ _ _) 0
theorem coll_none {base : Nat} {w : World} {v : Value} (h : EntsV base none w v) : v = .slice none 0 0 := h.2 rfl
def AlongS (b : Nat) (w : World) (e : Ending) (w' : World) : Prop := e = .returned (.tuple #[.slice none 0 0, .pointer (some ⟨b, 0, none⟩)]) ∧ Below w.heap.size w w'
set_option maxRecDepth 100000 in
set_option maxHeartbeats 2000000 in
theorem along_some (F : Nat → Prop) (p : Nat) (en : Ent) (w : World) (h : SetAt F p (some en) w) (hp : pathOK en.p = true) : ∃ b, Leaf F w b (some en) ∧ Calls Tryz.prog 134 #[.pointer (some ⟨p, 0, none⟩), .string en.p] w (AlongS b w) := by
  obtain ⟨root, wm, es, cw, h1, h2, h3, bl, h4, h5⟩ := h.head
  refine ⟨bl, h5, ?_⟩
  obtain ⟨pa, m⟩ := en
  simp only at hp h4
  have HP := Lib.hid hp
  have lp := lt_of_heap h1
  have H1 := Lib.hid h1
  have H4 := Lib.hid h4
  have hap := append_nils
  have HSS := Lib.hid (fun x hx => Nat.le_trans (segs_size pa x hx) (pathOK_size hp))
  clear h h1 h2 h3 h4 h5 hp
  go_enter Tryz.func134, Tryz.ntmps134
  go_wp2_with fail
  refine (psplit_any pa _ HP.out).mono ?_
  rintro e w1 ⟨v, rfl, hv, hb1⟩
  obtain ⟨sa, sc, rfl, hsc, hsc2, hcells⟩ := psplit_form hv
  have HB1 := Lib.hid hb1
  have HC := Lib.hid hcells
  have s0 := blk_cell ((hb1.block _ lp).trans H1.out) 0
  have hlen : ((segs pa).length : Int) ≤ 1000 := by omega
  clear hv hcells hb1
  go_wp2_with fail
  go_loopw [8, 9, 29] (fun sb ov i wr => ∃ k b : Nat, k ≤ (segs pa).length ∧ i = .int .i64 (k : Int) ∧ ov = .slice none 0 0 ∧ sb = .pointer (some ⟨b, 0, none⟩) ∧ Hid (Chain F w ((segs pa).drop k) b bl ∧ Below w1.heap.size w1 wr)) (fun _ _ i _ => (segs pa).length - (Go.RowKit.intOf i).toNat)
  case atStart => exact ⟨0, root, Nat.zero_le _, rfl, rfl, rfl, Lib.hid ⟨H4.out, Below.refl _ _⟩⟩
  case round =>
    obtain ⟨k, b, hk, rfl, rfl, rfl, HI⟩ := hrel
    have k0 : (0 : Int) ≤ (k : Int) := by omega
    by_cases hlt : k < (segs pa).length
    · obtain ⟨x, hx⟩ : ∃ x, (segs pa)[k]? = some x := ⟨_, List.getElem?_eq_getElem hlt⟩
      obtain ⟨sb, rfl, hsb, hsbl, hsc0⟩ := HC.out k x hx
      have hk1 : (k : Int) < ((segs pa).length : Int) := by omega
      have hkx := keyS (s := x) (by have := HSS.out x (List.mem_of_getElem? hx); omega)
      have hch := HI.out.1
      have hd : (segs pa).drop k = x :: (segs pa).drop (k + 1) := by
        rw [List.drop_eq_getElem_cons hlt]
        congr 1
        rw [List.getElem?_eq_getElem hlt] at hx
        exact Option.some.inj hx
      rw [hd] at hch
      obtain ⟨em, cm, n, c', y, g1, g2, g3, g4, g5⟩ := hch
      have hbr : Below w.heap.size w wr := HB1.out.trans (HI.out.2.mono HB1.out.size)
      have l1 := lt_of_heap g1
      have l2 := lt_of_heap g2
      have l3 := lt_of_heap g3
      have q1 := (hbr.block _ l1).trans g1
      have b0 := blk_cell q1 0
      have b1 := blk_cell q1 1
      have hstr : wr.cell? ⟨sb, k, none⟩ = some (.string x) := (HI.out.2.cell (p := ⟨sb, k, none⟩) hsbl).trans hsc0
      have HG2 := Lib.hid ((hbr.block _ l2).trans g2)
      have HG3 := Lib.hid ((hbr.block _ l3).trans g3)
      have HCH := Lib.hid g5
      have HKX := Lib.hid hkx
      have HBR := Lib.hid hbr
      have z1 := lt_of_heap q1
      have z2 := lt_of_heap HG2.out
      have z3 := lt_of_heap HG3.out
      clear hx hsc0 hd g1 g2 g3 g4 g5 q1 hkx hbr
      go_wp2_with fail
      refine (values_any em _).mono ?_
      rintro e w2 ⟨rfl, hw2⟩
      have hB2 : Below wr.heap.size wr w2 := by rw [hw2]; exact (Below.refl _ _).alloc (Nat.le_refl _) _
      have hc2 : w2.cell? ⟨wr.heap.size, 0, none⟩ = some (.map (some em)) := by rw [hw2]; exact blk_cell (heap_at wr _ _ rfl) 0
      have hz2 : wr.heap.size < w2.heap.size := by rw [hw2]; simp
      have HB2 := Lib.hid hB2
      clear hw2 hB2
      go_wp2_with fail
      refine (collect_any none em wr.heap.size _ hz2 hc2 ((HB2.out.block em z2).trans HG2.out)).mono ?_
      rintro e w3 ⟨v, rfl, hv, hb3⟩
      obtain rfl := coll_none hv
      have HB3 := Lib.hid (HB2.out.trans (hb3.mono HB2.out.size))
      have b31 := (HB3.out.cell (p := ⟨b, 1, none⟩) z1).trans b1
      have hlk := mlook_one (w := w3) (string_keyed Tryz.underlying9) Tryz.underlying205 ((HB3.out.block cm z3).trans HG3.out) HKX.out false
      clear hv hb3 b0 b1 hc2
      go_wp2_with fail
      exact ⟨⟨k + 1, y, by omega, by push_cast; rfl, rfl, rfl, Lib.hid ⟨HCH.out, HI.out.2.trans (HB3.out.mono HI.out.2.size)⟩⟩, by simp only [Go.RowKit.intOf]; omega⟩
    · obtain rfl : k = (segs pa).length := by omega
      have hbe : b = bl := by
        have := HI.out.1
        rw [List.drop_of_length_le (Nat.le_refl _)] at this
        exact this
      subst hbe
      go_wp2_with fail
      go_ret2
      exact ⟨rfl, HB1.out.trans (HI.out.2.mono HB1.out.size)⟩
def AlongN (l : List ByteArray) (root : Nat) (w : World) (e : Ending) (w' : World) : Prop := e = .returned (.tuple #[.slice none 0 0, if l = [] then .pointer (some ⟨root, 0, none⟩) else .pointer none]) ∧ Below w.heap.size w w'
set_option maxRecDepth 100000 in
set_option maxHeartbeats 2000000 in
theorem along_none (F : Nat → Prop) (p : Nat) (pa : ByteArray) (w : World) (h : SetAt F p none w) (hp : pathOK pa = true) : ∃ root, Leaf F w root none ∧ Calls Tryz.prog 134 #[.pointer (some ⟨p, 0, none⟩), .string pa] w (AlongN (segs pa) root w) := by
  obtain ⟨root, wm, es, cw, h1, h2, h3, rfl, h5⟩ := h.head
  refine ⟨root, h5.mono (fun _ _ h => h.1), ?_⟩
  obtain ⟨em, cm, c, g1, g2, g3, -, -, -, hne⟩ := h5
  have HP := Lib.hid hp
  have lp := lt_of_heap h1
  have H1 := Lib.hid h1
  have l1 := lt_of_heap g1
  have l2 := lt_of_heap g2
  have l3 := lt_of_heap g3
  have G1 := Lib.hid g1
  have G2 := Lib.hid g2
  have G3 := Lib.hid g3
  have hap := append_nils
  have HSS := Lib.hid (fun x hx => Nat.le_trans (segs_size pa x hx) (pathOK_size hp))
  clear h h1 h2 h3 hp g1 g2 g3
  go_enter Tryz.func134, Tryz.ntmps134
  go_wp2_with fail
  refine (psplit_any pa _ HP.out).mono ?_
  rintro e w1 ⟨v, rfl, hv, hb1⟩
  obtain ⟨sa, sc, rfl, hsc, hsc2, hcells⟩ := psplit_form hv
  have HB1 := Lib.hid hb1
  have HC := Lib.hid hcells
  have s0 := blk_cell ((hb1.block _ lp).trans H1.out) 0
  have hlen : ((segs pa).length : Int) ≤ 1000 := by omega
  clear hv hcells hb1
  go_wp2_with fail
  refine wp_loop_rounds 1 ?_
  rw [rounds_succ]
  by_cases h0 : 0 < (segs pa).length
  · obtain ⟨x, hx⟩ : ∃ x, (segs pa)[0]? = some x := ⟨_, List.getElem?_eq_getElem h0⟩
    have hne0 : segs pa ≠ [] := by intro e; rw [e] at h0; simp at h0
    obtain ⟨sb, rfl, hsb, hsbl, hsc0⟩ := HC.out 0 x hx
    have hkx := keyS (s := x) (by have := HSS.out x (List.mem_of_getElem? hx); omega)
    have q1 := (HB1.out.block _ l1).trans G1.out
    have b0 := blk_cell q1 0
    have b1 := blk_cell q1 1
    have z1 := lt_of_heap q1
    have hk1 : (0 : Int) < ((segs pa).length : Int) := by omega
    have HKX := Lib.hid hkx
    have HNE := Lib.hid hne0
    have HX2 := Lib.hid ((HB1.out.block _ l2).trans G2.out)
    have HX3 := Lib.hid ((HB1.out.block _ l3).trans G3.out)
    have z2 := lt_of_heap HX2.out
    have z3 := lt_of_heap HX3.out
    clear hx q1 hkx hne0
    go_wp2_with fail
    refine (values_any em _).mono ?_
    rintro e w2 ⟨rfl, hw2⟩
    have hB2 : Below w1.heap.size w1 w2 := by rw [hw2]; exact (Below.refl _ _).alloc (Nat.le_refl _) _
    have hc2 : w2.cell? ⟨w1.heap.size, 0, none⟩ = some (.map (some em)) := by rw [hw2]; exact blk_cell (heap_at w1 _ _ rfl) 0
    have hz2 : w1.heap.size < w2.heap.size := by rw [hw2]; simp
    have HB2 := Lib.hid hB2
    clear hw2 hB2
    go_wp2_with fail
    refine (collect_any none em w1.heap.size _ hz2 hc2 ((HB2.out.block em z2).trans HX2.out)).mono ?_
    rintro e w3 ⟨v, rfl, hv, hb3⟩
    obtain rfl := coll_none hv
    have HB3 := Lib.hid (HB2.out.trans (hb3.mono HB2.out.size))
    have b31 := (HB3.out.cell (p := ⟨root, 1, none⟩) z1).trans b1
    have hlk := mlook_none (w := w3) (string_keyed Tryz.underlying9) Tryz.underlying205 (Tryz.zeroBr _) ((HB3.out.block cm z3).trans HX3.out) HKX.out false
    clear hv hb3 b0 b1 hc2
    go_wp2_with fail
    go_ret2
    exact ⟨by rw [if_neg HNE.out]; rfl, HB1.out.trans (HB3.out.mono HB1.out.size)⟩
  · have hnil : segs pa = [] := List.eq_nil_of_length_eq_zero (by omega)
    have hl0 : (segs pa).length = 0 := by omega
    have HNIL := Lib.hid hnil
    rw [hl0]
    clear hnil hl0
    go_wp2_with fail
    go_ret2
    exact ⟨by rw [if_pos HNIL.out]; rfl, HB1.out⟩
end Go.Proofs.YtchdfogifhfclaaGreatDoor
