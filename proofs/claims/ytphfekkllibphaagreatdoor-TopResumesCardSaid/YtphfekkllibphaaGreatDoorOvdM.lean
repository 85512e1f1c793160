/- slices.Collect(maps.Values(m)) over a map of entries: of no entry, of one.  What stands for slices.Collect(maps.Values(m)), of no entry and of one. -/
import Derived.Test.YtphfekkllibphaaGreatDoorOvcM
import Derived.Maps.Own
import Derived.Deep.AppendLies
import Derived.Maps.RangeWalk
import Derived.Maps.OwnOps
import Derived.RangeFuncNested
import Derived.Shelf.SlIterI.Stops
import Derived.Sort.MapsRangeIn
namespace Go.Proofs.YtphfekkllibphaaGreatDoor
open Go.RowKit Go.Maps Go.MapKept Go.Shelf Go.WideElems
attribute [local go_sem] Oper.semAt_some

/-- An entry, its number in the map, the map's clock. -/
structure Ent where
  a : Int
  p : ByteArray
  m : Int
  b : Int
  k : Int
  n : Nat
  c : Nat
  hk : -9223372036854775808 ≤ k ∧ k ≤ 9223372036854775807
  hn : n < c
def entC (e : Ent) : Array Value := #[.int .i64 e.a, .string e.p, .int .i64 e.m, .int .i64 e.b]
def entries : Option Ent → Array MapEntry
  | none => #[]
  | some e => #[⟨.int .i64 e.k, .agg (entC e), e.n⟩]
def clk : Option Ent → Nat → Nat
  | none, c => c
  | some e, _ => e.c
theorem keyI {x : Int} (h : -9223372036854775808 ≤ x ∧ x ≤ 9223372036854775807) : keyOf Tryz.prog 3 (.int .i64 x) = some (.int .i64 x) := keyOf_int_mk Tryz.underlying3 (WalkArith.wf_i64 h)
def entR (e : Ent) (v : Value) : Option (DataW Unit × List MemPlace) :=
  match v with
  | .agg cs =>
    match cs.toList with
    | [.int .i64 a, .string p, .int .i64 m, .int .i64 b] => if a = e.a ∧ p = e.p ∧ m = e.m ∧ b = e.b then some (.lit (.bool true), []) else none
    | _ => none
  | _ => none
theorem entR_mk (e : Ent) : entR e (.agg (entC e)) = some (.lit (.bool true), []) := by simp [entR, entC]
theorem entR_inv {e : Ent} {v : Value} {z : DataW Unit × List MemPlace} (h : entR e v = some z) : v = .agg (entC e) := by
  unfold entR at h
  split at h
  · rename_i cs
    split at h
    · rename_i a p m b hcs
      split at h
      · rename_i hc
        obtain ⟨rfl, rfl, rfl, rfl⟩ := hc
        unfold entC
        congr 1
        exact Array.toList_inj.1 hcs
      · cases h
    · cases h
  · cases h
def anyR (_ : Value) : Option (DataW Unit × List MemPlace) := some (.lit (.bool true), [])
theorem own_none {w : World} {b c : Nat} (P : Program) (k : TypeId) (R : Value → Option (DataW Unit × List MemPlace)) (h : w.heap[b]? = some (.map #[] c)) : w.ownsMap P k R b 0 (.map []) := ⟨#[], c, h, ⟨by simp, stamped_empty c, by simp⟩, Nat.le_refl _, rfl⟩
theorem own_one {w : World} {b : Nat} (e : Ent) (h : w.heap[b]? = some (.map (entries (some e)) e.c)) : ∃ D, w.ownsMap Tryz.prog 3 (entR e) b 1 D ∧ Maps.size D = 1 := by
  have hn := e.hn
  refine ⟨_, ⟨_, e.c, h, ⟨by simp [entries, maxLen], ⟨by simp [entries]; exact hn, by simp [entries], by simp [entries]⟩, ?_⟩, by simp [entries], rfl⟩, ?_⟩
  · intro x hx
    simp [entries] at hx
    subst hx
    exact ⟨(.int .i64 e.k, .lit (.bool true)), by simp [rd, keyI e.hk, entR_mk]⟩
  · simp [entries, Maps.size, DataW.insert]
set_option maxRecDepth 100000 in
set_option maxHeartbeats 1000000 in
theorem vals1_in (en : Ent) (n : Nat) (hn : 1 ≤ n) (l Bm em : Nat) (J Jx : List Unit → World → Prop)
    (hY : ∀ pre x W, J pre W → pre.length < 1 → YieldAt Fence.wide (n - 1) Tryz.prog l #[.agg (entC en)] W fun e W' =>
      (e = .returned (.bool true) ∧ J (pre ++ [x]) W' ∧ KeepsWalks W W') ∨ (e = .returned (.bool false) ∧ Jx (pre ++ [x]) W'))
    (W : World) (hJ : AbidesFrom W.heap.size J) (hm : W.cell? ⟨Bm, 0, none⟩ = some (.map (some em))) (hmap : W.heap[em]? = some (.map (entries (some en)) en.c)) (h0 : J [] W) :
    CallsIn Fence.wide n Tryz.prog 238 #[.func (.yield l) #[] #[], .pointer (some ⟨Bm, 0, none⟩)] W fun e W' => (∃ v, e = .returned v) ∧
      ((∃ ys, ys = [()] ∧ J ys W') ∨ (∃ pre, pre <+: [()] ∧ Jx pre W')) := by
  obtain ⟨D, hown, hD⟩ := own_one en hmap
  refine callsIn_of_wp Tryz.func238 rfl (by trivial) ?_ rfl
  simp only [Tryz.ntmps238, List.size_toArray, List.length_cons, List.length_nil, Nat.reduceAdd, Nat.reduceSub, Array.replicate_succ, Array.replicate_zero, List.push_toArray, List.append_toArray, List.nil_append, List.cons_append]
  gi_wp2_with (first
    | (gi_at_range; refine wpListIn_range_own _ rfl _ 277 rfl 3 186 (int_keyed Tryz.underlying3) Tryz.underlying277 _ em 1 _ rfl hown ?_; intro w0 hrg0 hg0 hs0)
    | gi_in)
  go_frame
  gi_loopw [4] (fun _ wr => ∃ (left : Lit → Bool) (cnt : Nat) (ss : List Unit), wr.ranges Tryz.prog 3 (entR en) em W.heap.size 1 D left cnt ∧ ss.length + cnt = 1 ∧ J ss wr)
    (fun _ wr => wr.rangeLeft em W.heap.size)
  case atStart =>
    exact ⟨_, _, [], hrg0, by simp [hD], hJ [] W w0 none h0 hg0 (fun r e => by cases e)⟩
  case round =>
    obtain ⟨left, cnt, ss, hrg, hcs, hJs⟩ := hrel
    gi_wp2_with (first
      | (gi_at_next; refine wpListIn_next_ranges _ rfl _ rfl 3 (int_keyed Tryz.underlying3) (entR en) (Value.int .i64) id (fun key kl hk => by obtain ⟨x, hx, _⟩ := Maps.keyOf_int_inv Tryz.underlying3 hk; exact ⟨x, hx⟩) (fun v _ _ => ⟨v, rfl⟩) em W.heap.size 1 _ _ _ rfl hrg ?_ ?_)
      | gi_in)
    · intro hc0 hl0
      gi_wp2
      go_end0
      refine ⟨⟨_, rfl⟩, .inl ⟨ss, ?_, hJs⟩⟩
      have h1 : ss.length = 1 := by omega
      match ss, h1 with
      | [()], _ => rfl
    · intro x c kl yd yp w2 cnt2 hkey hlk hv hat hrg2 hlt hg2 hs2 hen
      obtain rfl : c = .agg (entC en) := entR_inv hv
      have hss : ss = [] := List.eq_nil_of_length_eq_zero (by omega)
      subst hss
      have hJ2 : J [] w2 := hJ [] wr w2 (some W.heap.size) hJs hg2 (fun r e => by cases e; exact ⟨Nat.le_refl _, hrg.iter_walk⟩)
      have hJ3 : J [] (w2.alloc (.cells (entC en) 186)) := hJ [] w2 _ none hJ2 (World.grownBy_alloc w2 _ none) (fun r e => by cases e)
      have hrg3 := hrg2.alloc (.cells (entC en) 186)
      have hR0 := hY [] () _ hJ3 (by simp)
      unfold entC at hR0 hrg3 hen hJ3
      obtain ⟨fn, tmps, assign, body, hy, hR⟩ := hR0
      clear hs2
      unfold entC
      gi_wp2
      refine hR.mono ?_
      rintro e W3 (⟨rfl, hJ4, hk3⟩ | ⟨rfl, hJx3⟩)
      · gi_wp2
        have hrg4 := hrg3.of_walks hk3
        go_roundw
        case rel => exact ⟨_, cnt2, [()], hrg4, by simp; omega, hJ4⟩
        case measure => rw [hrg4.left_eq, hrg.left_eq]; exact hlt
      · gi_wp2
        refine bodyPost_ret (results_none rfl _ _ _) rfl ?_
        exact ⟨⟨_, rfl⟩, .inr ⟨[] ++ [()], ⟨[], by simp⟩, hJx3⟩⟩
set_option maxRecDepth 100000 in
set_option maxHeartbeats 1000000 in
theorem vals0_in (n : Nat) (hn : 1 ≤ n) (l Bm em c : Nat) (J : List Unit → World → Prop) (W : World) (hJ : AbidesFrom W.heap.size J) (hm : W.cell? ⟨Bm, 0, none⟩ = some (.map (some em))) (hmap : W.heap[em]? = some (.map #[] c)) (h0 : J [] W) :
    CallsIn Fence.wide n Tryz.prog 238 #[.func (.yield l) #[] #[], .pointer (some ⟨Bm, 0, none⟩)] W fun e W' => (∃ v, e = .returned v) ∧ J [] W' := by
  have hown := own_none Tryz.prog 3 anyR hmap
  refine callsIn_of_wp Tryz.func238 rfl (by trivial) ?_ rfl
  simp only [Tryz.ntmps238, List.size_toArray, List.length_cons, List.length_nil, Nat.reduceAdd, Nat.reduceSub, Array.replicate_succ, Array.replicate_zero, List.push_toArray, List.append_toArray, List.nil_append, List.cons_append]
  gi_wp2_with (first
    | (gi_at_range; refine wpListIn_range_own _ rfl _ 277 rfl 3 186 (int_keyed Tryz.underlying3) Tryz.underlying277 _ em 0 _ rfl hown ?_; intro w0 hrg0 hg0 hs0)
    | gi_in)
  go_frame
  refine wpIn_loop_rounds 1 ?_
  rw [roundsIn_succ]
  gi_wp2_with (first
    | (gi_at_next; refine wpListIn_next_ranges _ rfl _ rfl 3 (int_keyed Tryz.underlying3) anyR (Value.int .i64) id (fun key kl hk => by obtain ⟨x, hx, _⟩ := Maps.keyOf_int_inv Tryz.underlying3 hk; exact ⟨x, hx⟩) (fun v _ _ => ⟨v, rfl⟩) em W.heap.size 0 _ _ _ rfl hrg0 ?_ ?_)
    | gi_in)
  · intro hc0 hl0
    gi_wp2
    go_end0
    exact ⟨⟨_, rfl⟩, hJ [] W w0 none h0 hg0 (fun r e => by cases e)⟩
  · intro x c kl yd yp w2 cnt2 hkey hlk hv hat hrg2 hlt hg2 hs2 hen
    exact absurd hlt (by simp [Maps.size])
/-- How many entries come. -/
def outs : Option Ent → List Unit
  | none => []
  | some _ => [()]
def entOf : Option Ent → Ent
  | none => ⟨0, ⟨#[]⟩, 0, 0, 0, 0, 1, by omega, by omega⟩
  | some e => e
theorem vals_stops (o : Option Ent) (n : Nat) (hn : 1 ≤ n) (Bm em : Nat) (w : World) (hBm : Bm < w.heap.size) (hem : em < w.heap.size) (hm : w.cell? ⟨Bm, 0, none⟩ = some (.map (some em))) (c0 : Nat) (hmap : w.heap[em]? = some (.map (entries o) (clk o c0))) :
    SeqStopsK Fence.wide n Tryz.prog 238 #[.pointer (some ⟨Bm, 0, none⟩)] (fun _ : Unit => #[.agg (entC (entOf o))]) KeepsWalks (fun ys => ys = outs o) (fun pre => pre <+: outs o) (outs o).length w := fun l J Jx W hW hJ _ hY h0 => by
  have h1 := (hW.cell (p := ⟨Bm, 0, none⟩) hBm).trans hm
  have h2 := (hW.block em hem).trans hmap
  cases o with
  | none => exact (vals0_in n hn l Bm em c0 J W hJ h1 h2 h0).mono fun _ _ ⟨he, hj⟩ => ⟨he, .inl ⟨[], rfl, hj⟩⟩
  | some e => exact vals1_in e n hn l Bm em J Jx hY W hJ h1 h2 h0
def rowsOf (e : Ent) : List Unit → List Value
  | [] => []
  | _ :: r => (entC e).toList ++ rowsOf e r
theorem rowsOf_snoc (e : Ent) (x : Unit) : ∀ l, rowsOf e (l ++ [x]) = rowsOf e l ++ (entC e).toList
  | [] => by simp [rowsOf]
  | _ :: l => by
    have := rowsOf_snoc e x l
    simp only [List.cons_append, rowsOf, this, List.append_assoc]
theorem Tryz.infoE : (Tryz.prog.info? 186).map (fun i => (i.zero, i.size, i.bytes)) = some (some (.agg #[.int .i64 0, .string ⟨#[]⟩, .int .i64 0, .int .i64 0]), 4, 40) := by kernel_rfl
theorem entC_one (e : Ent) : ∀ u ∈ (entC e).toList, u.oneCell' = true := by
  intro u hu
  simp [entC] at hu
  rcases hu with rfl | rfl | rfl | rfl <;> rfl
theorem own_box (base vb : Nat) (cs : Array Value) (t : TypeId) : OwnFrom base (fun (_ : Unit) W => W.heap[vb]? = some (.cells cs t (0, 0))) := by
  intro s W W' row h hg hr
  refine (hg.block vb (lt_of_heap h) (fun e => ?_)).trans h
  obtain ⟨_, o, ho, hc⟩ := hr vb e.symm
  rw [h] at ho
  cases ho
  cases hc
set_option maxRecDepth 100000 in
set_option maxHeartbeats 2000000 in
theorem appendSeq_ent (en : Ent) (os : List Unit) (hos : os.length ≤ 1) (n : Nat) (hn : 3 ≤ n) (Bm : Nat) (w : World)
    (hseq : ∀ W, Below w.heap.size w W → SeqStopsK Fence.wide (n - 1) Tryz.prog 238 #[.pointer (some ⟨Bm, 0, none⟩)] (fun _ : Unit => #[.agg (entC en)]) KeepsWalks (fun ys => ys = os) (fun pre => pre <+: os) os.length W) :
    CallsIn Fence.wide n Tryz.prog 237 #[.slice none 0 0, .func (.func 238) #[] #[.pointer (some ⟨Bm, 0, none⟩)]] w fun e W' => ∃ v, e = .returned v ∧ W'.ownsRow w.heap.size 186 4 v os.length (rowsOf en os) ∧ (os = [] → v = .slice none 0 0) ∧ Below w.heap.size w W' := by
  have h1 : 1 ≤ n := by omega
  obtain ⟨i0, hi, hz0, hz1, hz2⟩ := info_parts Tryz.infoE
  refine callsIn_of_wp_marks Tryz.func237 rfl trivial ?_ rfl
  simp only [Tryz.ntmps237, List.size_toArray, List.length_cons, List.length_nil, Nat.reduceAdd, Nat.reduceSub, Array.replicate_succ, Array.replicate_zero, List.push_toArray, List.append_toArray, List.nil_append, List.cons_append]
  gi_wp2
  have bO := Boxed.new w 179 (.slice none 0 0)
  have hB0 : Below w.heap.size w (w.alloc (.cells #[.slice none 0 0] 179)) := (Below.refl _ w).alloc (Nat.le_refl _) _
  have hI : OwnFrom (w.alloc (.cells #[.slice none 0 0] 179)).heap.size (fun (pre : List Unit) W => (∃ v, Boxed W w.heap.size 179 v ∧ W.ownsRow w.heap.size 186 4 v pre.length (rowsOf en pre) ∧ (pre = [] → v = .slice none 0 0)) ∧ Below w.heap.size w W) :=
    OwnFrom.and (Own.from (holdsRow_own w.heap.size w.heap.size 179 186 4 (fun pre : List Unit => pre.length) (rowsOf en) (fun pre v => pre = [] → v = .slice none 0 0)) _) (ownFrom_below (Nat.le_refl _) (by simp))
  refine wpIn_rangeFunc_ownH rfl h1 (gf := 238) (lb := #[.pointer (some ⟨Bm, 0, none⟩)]) rfl trivial (enters_of Tryz.func238 (by kernel_rfl) rfl)
    (hseq _ hB0) KeepsWalks.trans (fun W l o o' _ h _ hw => KeepsWalks.putObj o' h hw) (Below.refl _ _) (fun _ => rfl)
    (fun pre W => (∃ v, Boxed W w.heap.size 179 v ∧ W.ownsRow w.heap.size 186 4 v pre.length (rowsOf en pre) ∧ (pre = [] → v = .slice none 0 0)) ∧ Below w.heap.size w W)
    (fun _ _ _ => False) hI (fun _ _ _ _ _ hs _ _ => hs) ⟨⟨_, bO, World.ownsRow_nil _ _ _ _, fun _ => rfl⟩, hB0⟩
    (fun _ a' W => ∃ vb, a' = { tmps := #[.slice none 0 0, .func (.func 238) #[] #[.pointer (some ⟨Bm, 0, none⟩)], .pointer (some ⟨w.heap.size, 0, none⟩), undef, .slice none 0 0, .pointer (some ⟨vb, 0, none⟩), .func (.func 238) #[] #[.pointer (some ⟨Bm, 0, none⟩)], .agg (entC en), undef, undef, undef, undef, undef], defers := [] } ∧ W.heap[vb]? = some (.cells (entC en) 186 (0, 0)))
    (fun x a' s W W' row ⟨vb, e1, e2⟩ hg hr => ⟨vb, e1, own_box _ vb _ _ s W W' row e2 hg hr⟩) ?assign ?body ?done ?stop
  case assign =>
    intro l pre x W K hpre hK
    have hk := hK { tmps := #[.slice none 0 0, .func (.func 238) #[] #[.pointer (some ⟨Bm, 0, none⟩)], .pointer (some ⟨w.heap.size, 0, none⟩), undef, .slice none 0 0, .pointer (some ⟨W.heap.size, 0, none⟩), .func (.func 238) #[] #[.pointer (some ⟨Bm, 0, none⟩)], .agg (entC en), undef, undef, undef, undef, undef], defers := [] } (W.alloc (.cells (entC en) 186)) ((KeepsOthers.alloc W _).from _) (KeepsWalks.alloc W _) (hI.alloc _ hpre) ⟨W.heap.size, rfl, heap_at _ _ _ rfl⟩
    unfold entC at hk ⊢
    gi_wp2
    exact hk
  case body =>
    rintro l pre x a' W hl hr ⟨⟨v, hv, hrow, -⟩, hB⟩ ⟨vb, rfl, hvb⟩ hlt
    have hc := hv.cell
    have hvc := blk_cell hvb
    have hnew := heap_at W (.cells (entC en) 186) _ rfl
    have HNEW := Lib.hid hnew
    have hpl : pre.length = 0 := by omega
    have HPL := Lib.hid hpl
    clear hnew hpl
    unfold entC at hvc HNEW ⊢
    gi_wp2_with (gi_at_builtin; refine wpListIn_append_own _ rfl _ _ 179 rfl w.heap.size 186 i0 (.agg #[.int .i64 0, .string ⟨#[]⟩, .int .i64 0, .int .i64 0]) 4 40 Tryz.underlying179 hi hz0 hz1 hz2 rfl (by decide) _ _ _ rfl (hrow.alloc _) ⟨W.heap.size, 0, none⟩ 1 1 (entC en).toList rfl rfl (World.news_of_block HNEW.out) (entC_one en) (by have := HPL.out; unfold maxLen; omega) (by have := HPL.out; omega) (by have := hB.size; simp; omega) ?_; intro v' w1 hown' hgrow _; obtain ⟨g', cap', rfl⟩ := ownsRow_succ hown'; obtain ⟨hv1, hv2, hr2, hk2, hb2⟩ := hv.appended (by decide) hrow hB.size (Nat.le_refl _) hown' hgrow; have hc1 := hv1.cell; have hf1 := hv1.frozen)
    exact ⟨hk2.from _, hk2.walks, ⟨_, hv2, by rw [rowsOf_snoc]; simpa using hr2, fun h => by simp at h⟩, hB.trans hb2⟩
  case done =>
    rintro D ys W hD rfl ⟨⟨v, hv, hrow, hnil⟩, hB⟩ hK
    have hc := hv.cell
    have HNIL := Lib.hid hnil
    clear hnil
    gi_wp2
    refine ⟨by simp, .inl ⟨_, _, rfl, run_takeDeferred hK, ?_⟩⟩
    exact ⟨_, results_tmp rfl _ _ _, v, rfl, ownsRow_putObj hrow _ hK rfl, HNIL.out, hB.trans (belowK_b (w := w) (Nat.le_refl _) W D _ _ (by simp at hD; omega) hK rfl rfl)⟩
  case stop =>
    rintro D c pre W _ _ h _
    exact h.elim
/-- A slice of the entries. -/
def EntsV (base : Nat) (o : Option Ent) (w : World) (v : Value) : Prop := w.ownsRow base 186 4 v (outs o).length (rowsOf (entOf o) (outs o)) ∧ (o = none → v = .slice none 0 0)
theorem values_any (em : Nat) (w : World) : Calls Tryz.prog 165 #[.map (some em)] w fun e w' => e = .returned (.func (.func 238) #[] #[.pointer (some ⟨w.heap.size, 0, none⟩)]) ∧ w' = w.alloc (.cells #[.map (some em)] 277) := by
  have hmf : ∀ (fn : Fn) (first cap : Array Value) (w : World), (Instr.makeFunc fn first cap).run Tryz.prog w = .ok (.func fn first cap) w := fun _ _ _ _ => rfl
  go_enter Tryz.func165, Tryz.ntmps165
  go_wp2_with fail
  go_ret
  exact ⟨rfl, rfl⟩
def CollP (o : Option Ent) (w : World) (e : Ending) (w' : World) : Prop := ∃ v, e = .returned v ∧ EntsV w.heap.size o w' v ∧ Below w.heap.size w w'
theorem collect_any (o : Option Ent) (em Bm : Nat) (w : World) (hBm : Bm < w.heap.size) (hm : w.cell? ⟨Bm, 0, none⟩ = some (.map (some em))) (c0 : Nat) (hmap : w.heap[em]? = some (.map (entries o) (clk o c0))) :
    Calls Tryz.prog 164 #[.func (.func 238) #[] #[.pointer (some ⟨Bm, 0, none⟩)]] w (CollP o w) := by
  have hem := lt_of_heap hmap
  have hap : Calls Tryz.prog 237 #[.slice none 0 0, .func (.func 238) #[] #[.pointer (some ⟨Bm, 0, none⟩)]] w _ :=
    (callsIn_wide (n := 3)).1 (appendSeq_ent (entOf o) (outs o) (by cases o <;> simp [outs]) 3 (by omega) Bm w (fun W hW => vals_stops o _ (by omega) Bm em W (Nat.lt_of_lt_of_le hBm hW.size) (Nat.lt_of_lt_of_le hem hW.size) ((hW.cell (p := ⟨Bm, 0, none⟩) hBm).trans hm) c0 ((hW.block em hem).trans hmap)))
  clear hm hmap
  go_enter Tryz.func164, Tryz.ntmps164
  go_wp2_with fail
  refine hap.mono ?_
  rintro e w1 ⟨v, rfl, h1, h2, h3⟩
  have HH := Lib.hid (And.intro h1 (And.intro h2 h3))
  clear h1 h2 h3
  go_wp2_with fail
  go_ret
  exact ⟨v, rfl, ⟨HH.out.1, fun e => HH.out.2.1 (by rw [e]; rfl)⟩, HH.out.2.2⟩
end Go.Proofs.YtphfekkllibphaaGreatDoor
namespace Go.Proofs.YtphfekkllibphaaGreatDoor.Ev
open Go Go.RowKit

noncomputable def i64ok (n : Int) : Bool := decide (-9223372036854775808 ≤ n) && decide (n ≤ 9223372036854775807)
noncomputable def ovVals : List V → H → KT → Bool := fun args h K => match args with
  | [.f (.func g) [] [.p bm 0]] => (Nat.beq g 238).rec false <| onC (h.get bm) fun ns ts _ _ => (Nat.ble 1 ns).rec false (match ts.get .u 1 with
    | .m m => onM (h.get m) fun es cl => (match es with
      | [] => K .sn h
      | [(.i .i64 k, .agg l, n)] => (match l with
        | [.i .i64 _, .s _, .i .i64 _, .i .i64 _] => (i64ok k && Nat.ble (Nat.succ n) cl).rec false (T.layK l (full .u 3) 1 fun tr => h.new (.c 4 tr 186 (some 4)) fun nb h => K (.sl nb 0 1 none) h)
        | _ => false)
      | _ => false)
    | _ => false)
  | _ => false
section
variable {h : H} {K : KT}
theorem Sat.map_of {ρ : Ren} {w : World} {b cl : Nat} {es : List (V × V × Nat)} (s : Sat ρ h w) (hb : h.get b = .mp es cl) : ρ.d b ∧ ∃ es' : Array MapEntry, w.heap[ρ.π b]? = some (.map es' cl) ∧ es.length = es'.size ∧
    ∀ (i : Nat) (e : V × V × Nat) (e' : MapEntry), es[i]? = some e → es'[i]? = some e' → VR ρ e.1 e'.key ∧ VR ρ e.2.1 e'.val ∧ e'.born = e.2.2 := by
  have := s.o b
  rw [hb] at this
  exact this
set_option maxRecDepth 100000 in
theorem ovVals_ok (hO : Own Tryz.prog) {args : List V} (hk : ovVals args h K = true) : ∃ v h', K v h' = true ∧ Stands Tryz.prog 164 args h v h' := by
  unfold ovVals at hk
  split at hk <;> first | (cases hk; done) | skip
  rename_i g bm
  obtain ⟨g0, hk⟩ := recB_false hk
  have g0 := beq_eq g0
  obtain ⟨ns, ts, es, gs, hbm, hk⟩ := O.c_inv hk
  obtain ⟨g1, hk⟩ := recB_false hk
  split at hk <;> first | (cases hk; done) | skip
  rename_i m e1
  obtain ⟨es, cl, hm, hk⟩ := O.m_inv hk
  have start : ∀ (ρ : Ren) (w : World) (xs : List Value), Sat ρ h w → LR ρ [.f (.func g) [] [.p bm 0]] xs → ∃ em, em = ρ.π m ∧ xs.toArray = #[.func (.func 238) #[] #[.pointer (some ⟨ρ.π bm, 0, none⟩)]] ∧
      w.cell? ⟨ρ.π bm, 0, none⟩ = some (.map (some em)) ∧ ρ.π bm < w.heap.size := by
    intro ρ w xs s hl
    obtain ⟨x, rfl, hx⟩ := hl.one_inv
    obtain ⟨l', k', rfl, h1, h2⟩ := hx.f_inv
    have hl0 := h1.nil_arr
    subst hl0
    obtain ⟨x1, q2, hx1⟩ := h2.one_inv
    have hp1 := hx1.p_inv
    have hk' : k' = #[.pointer (some ⟨ρ.π bm, 0, none⟩)] := by
      apply Array.ext'
      rw [q2, hp1.2]
    subst hk'
    obtain ⟨_, cs1, fz1, c2, c3, c4, c5, c6, c7⟩ := s.cells hbm
    obtain ⟨y1, qy1, hv1⟩ := c6 0 (ble_le g1)
    rw [show 0 + 1 = 1 from rfl, e1] at hv1
    have hm1 := hv1.m_inv
    exact ⟨_, rfl, by rw [g0], by rw [cell_of c2, qy1, hm1.2], (Array.getElem?_eq_some_iff.1 c2).1⟩
  split at hk <;> first | (cases hk; done) | skip
  · refine ⟨_, _, hk, Stands.of_calls hO Tryz.func164 rfl (fun ρ w xs s hl => ?_)⟩
    obtain ⟨em, rfl, hxs, hc, hlt⟩ := start ρ w xs s hl
    obtain ⟨_, es', m1, m2, _⟩ := s.map_of hm
    have hes : es' = #[] := by
      have : es'.size = 0 := m2.symm
      exact Array.eq_empty_of_size_eq_zero this
    subst hes
    rw [hxs]
    refine (collect_any none (ρ.π m) (ρ.π bm) w hlt hc cl m1).mono ?_
    rintro e w' ⟨v, rfl, ⟨_, hv⟩, hbel⟩
    rw [hv rfl]
    exact ⟨_, rfl, ρ, .sn, s.below hbel⟩
  · rename_i k l n
    split at hk <;> first | (cases hk; done) | skip
    rename_i a p mo b
    obtain ⟨g2, hk⟩ := recB_false hk
    obtain ⟨g2, g3⟩ := and2 g2
    obtain ⟨g4, g5⟩ := and2 g2
    have g4 := of_decide_eq_true g4
    have g5 := of_decide_eq_true g5
    have g3 := ble_le g3
    rw [T.layK_eq, H.new_eq] at hk
    refine ⟨_, _, hk, Stands.of_calls hO Tryz.func164 rfl (fun ρ w xs s hl => ?_)⟩
    obtain ⟨em, rfl, hxs, hc, hlt⟩ := start ρ w xs s hl
    obtain ⟨_, es', m1, m2, m3⟩ := s.map_of hm
    have hsz : es'.size = 1 := m2.symm
    obtain ⟨e', he'⟩ : ∃ e', es' = #[e'] := ⟨es'[0], by
      apply Array.ext'
      have : es'.toList.length = 1 := by rw [Array.length_toList, hsz]
      match hq : es'.toList, this with
      | [y], _ => simp [← Array.getElem_toList, hq]⟩
    subst he'
    obtain ⟨k1, k2, k3⟩ := m3 0 _ e' rfl rfl
    obtain ⟨key, val, born⟩ := e'
    have hkey : key = .int .i64 k := k1.i_inv
    obtain ⟨cs, hval, hlr⟩ := k2.agg_inv
    have hborn : born = n := k3
    have hval : val = .agg cs := hval
    subst hkey hval hborn
    have hlen := hlr.1
    obtain ⟨y0, z0, w0⟩ := hlr.at_ (i := 0) rfl
    obtain ⟨y1, z1, w1⟩ := hlr.at_ (i := 1) rfl
    obtain ⟨y2, z2, w2⟩ := hlr.at_ (i := 2) rfl
    obtain ⟨y3, z3, w3⟩ := hlr.at_ (i := 3) rfl
    obtain ⟨ps, hps, _⟩ := w1.s_inv
    have hcs : cs = #[.int .i64 a, .string ps, .int .i64 mo, .int .i64 b] := by
      apply Array.ext'
      refine List.ext_getElem? fun i => ?_
      match i with
      | 0 => rw [z0, w0.i_inv]; rfl
      | 1 => rw [z1, hps]; rfl
      | 2 => rw [z2, w2.i_inv]; rfl
      | 3 => rw [z3, w3.i_inv]; rfl
      | i + 4 =>
        rw [List.getElem?_eq_none (by rw [← hlen]; simp)]
        rfl
    subst hcs
    rw [hxs]
    refine (collect_any (some ⟨a, ps, mo, b, k, born, cl, ⟨g4, g5⟩, g3⟩) (ρ.π m) (ρ.π bm) w hlt hc cl m1).mono ?_
    rintro e w' ⟨v, rfl, ⟨hrow, _⟩, hbel⟩
    have hrow' : w'.ownsRow w.heap.size 186 4 v 1 [.int .i64 a, .string ps, .int .i64 mo, .int .i64 b] := by
      have := hrow
      simpa [outs, rowsOf, entOf, entC] using this
    obtain ⟨ρ', r1, r2, r3⟩ := s.row (d := 3) hbel (by omega) hrow' hlr
    exact ⟨v, rfl, ρ', r1, r2, r3⟩
end
end Go.Proofs.YtphfekkllibphaaGreatDoor.Ev
