/- slices.Sort of at most one; ids; Clash, Under.  The path set: Clash, Under. -/
import Derived.Test.YtchdfogifhfclaaGreatDoorAlongM
import Derived.Test.YtchdfogifhfclaaGreatDoorWakeM
namespace Go.Proofs.YtchdfogifhfclaaGreatDoor
open Go.RowKit Go.Maps Go.MapKept

def SomeI (w : World) (e : Ending) (w' : World) : Prop := ∃ r : Int, e = .returned (.int .i64 r) ∧ w = w'
set_option maxRecDepth 100000 in
theorem len64 (n : Nat) (hn : n ≤ 1) (w : World) : Calls Tryz.prog 196 #[.int .u64 (n : Int)] w (SomeI w) := by
  have hn' : n = 0 ∨ n = 1 := by omega
  rcases hn' with rfl | rfl
  all_goals
    go_enter Tryz.func196, Tryz.ntmps196
    go_wp2_with fail
    go_ret
    exact ⟨_, rfl, rfl⟩
theorem len01 (n : Nat) (hn : n ≤ 1) (w : World) : Calls Tryz.prog 150 #[.int .u64 (n : Int)] w (SomeI w) := by
  go_enter Tryz.func150, Tryz.ntmps150
  go_wp2_with fail
  refine (len64 n hn _).mono ?_
  rintro e w1 ⟨r, rfl, rfl⟩
  go_wp2_with fail
  go_ret
  exact ⟨r, rfl, rfl⟩
theorem insSort_any (a : Option Addr) (n c : Nat) (hn : n ≤ 1) (w : World) : Calls Tryz.prog 226 #[.slice a n c, .int .i64 0, .int .i64 (n : Int)] w fun e w' => e = .returned (.tuple #[]) ∧ w = w' := by
  have h1 : ¬ (1 : Int) < (n : Int) := by omega
  go_enter Tryz.func226, Tryz.ntmps226
  go_wp2_with fail
  refine wp_loop_rounds 1 ?_
  rw [rounds_succ]
  go_wp2_with fail
  go_end0
  exact ⟨rfl, rfl⟩
theorem pdq_any (a : Option Addr) (n c : Nat) (hn : n ≤ 1) (l : Int) (w : World) : Calls Tryz.prog 212 #[.slice a n c, .int .i64 0, .int .i64 (n : Int), .int .i64 l] w fun e w' => e = .returned (.tuple #[]) ∧ w = w' := by
  have h1 : decide ((n : Int) ≤ 12) = true := decide_eq_true (by omega)
  have h0 : (0 : Int) ≤ (n : Int) := by omega
  have h2 : (n : Int) ≤ 12 := by omega
  go_enter Tryz.func212, Tryz.ntmps212
  go_wp2_with fail
  refine wp_loop_rounds 1 ?_
  rw [rounds_succ]
  go_wp2_with fail
  refine (insSort_any a n c hn _).mono ?_
  rintro e w1 ⟨rfl, rfl⟩
  go_wp2_with fail
  exact bodyPost_ret (results_none rfl _ _ _) rfl ⟨rfl, rfl⟩
theorem sort01 (a : Option Addr) (n c : Nat) (hn : n ≤ 1) (w : World) : Calls Tryz.prog 182 #[.slice a n c] w fun e w' => e = .returned (.tuple #[]) ∧ w = w' := by
  have h0 : (0 : Int) ≤ (n : Int) := by omega
  have h2 : (n : Int) ≤ 12 := by omega
  go_enter Tryz.func182, Tryz.ntmps182
  go_wp2_with fail
  refine (len01 n hn _).mono ?_
  rintro e w1 ⟨r, rfl, rfl⟩
  go_wp2_with fail
  refine (pdq_any a n c hn r _).mono ?_
  rintro e w1 ⟨rfl, rfl⟩
  go_wp2_with fail
  go_end0
  exact ⟨rfl, rfl⟩
/-- Ids of the entries. -/
def IdsV (base : Nat) (l : List Unit) (w : World) (v : Value) : Prop := w.ownsRow base 3 1 v l.length (l.map fun _ => Value.int .i64 1)
def ClashB (who mode : Int) (e : Ent) : Bool := (1 != who) && ((mode == 2) || (e.m == 2))
theorem clash1_any (who mode : Int) (e : Ent) (Bw Bm : Nat) (w : World) (hw : w.cell? ⟨Bw, 0, none⟩ = some (.int .i64 who)) (hm : w.cell? ⟨Bm, 0, none⟩ = some (.int .i64 mode)) (hlw : Bw < w.heap.size) (hlm : Bm < w.heap.size) :
    Calls Tryz.prog 137 #[.agg (entC e), .pointer (some ⟨Bw, 0, none⟩), .pointer (some ⟨Bm, 0, none⟩)] w fun r w' => r = .returned (.bool (ClashB who mode e)) ∧ Below w.heap.size w w' := by
  obtain ⟨pa, m⟩ := e
  unfold ClashB
  cases h1 : (1 != who) with
  | false =>
    unfold entC
    go_enter Tryz.func137, Tryz.ntmps137
    go_wp2_with fail
    go_ret
    exact ⟨by simp, (Below.refl _ w).alloc (Nat.le_refl _) _⟩
  | true =>
    cases h2 : (mode == 2) with
    | true =>
      unfold entC
      go_enter Tryz.func137, Tryz.ntmps137
      go_wp2_with fail
      go_ret
      exact ⟨by simp, (Below.refl _ w).alloc (Nat.le_refl _) _⟩
    | false =>
      unfold entC
      go_enter Tryz.func137, Tryz.ntmps137
      go_wp2_with fail
      go_ret
      exact ⟨by simp, (Below.refl _ w).alloc (Nat.le_refl _) _⟩
def IdsP (b : Bool) (w : World) (e : Ending) (w' : World) : Prop := ∃ v, e = .returned v ∧ IdsV w.heap.size (if b then [()] else []) w' v ∧ Below w.heap.size w w'
set_option maxRecDepth 100000 in
set_option maxHeartbeats 1000000 in
theorem ids_none (f : Value) (a : Option Addr) (c : Nat) (w : World) : Calls Tryz.prog 136 #[.slice a 0 c, f] w (IdsP false w) := by
  go_enter Tryz.func136, Tryz.ntmps136
  go_wp2_with fail
  refine wp_loop_rounds 1 ?_
  rw [rounds_succ]
  go_wp2_with fail
  refine (sort01 none 0 0 (by omega) _).mono ?_
  rintro e w1 ⟨rfl, rfl⟩
  go_wp2_with fail
  go_ret
  exact ⟨_, rfl, World.ownsRow_nil _ _ _ _, Below.refl _ _⟩
set_option maxRecDepth 100000 in
set_option maxHeartbeats 1000000 in
theorem ids_clash (who mode : Int) (en : Ent) (Bw Bm g c : Nat) (w : World) (hw : w.cell? ⟨Bw, 0, none⟩ = some (.int .i64 who)) (hm : w.cell? ⟨Bm, 0, none⟩ = some (.int .i64 mode)) (hlw : Bw < w.heap.size) (hlm : Bm < w.heap.size) (hg : ∀ i, i < 4 → w.cell? ⟨g, i, none⟩ = (entC en)[i]?) (hgl : g < w.heap.size) :
    Calls Tryz.prog 136 #[.slice (some ⟨g, 0, none⟩) 1 c, .func (.func 137) #[] #[.pointer (some ⟨Bw, 0, none⟩), .pointer (some ⟨Bm, 0, none⟩)]] w (IdsP (ClashB who mode en) w) := by
  obtain ⟨i0, hi, hz0, hz1, hz2⟩ := info_parts Ck8.Tryz.info3
  have k0 := hg 0 (by omega)
  have k1 := hg 1 (by omega)
  have k2 := hg 2 (by omega)
  have k3 := hg 3 (by omega)
  obtain ⟨x, hx⟩ : ∃ x, x = ClashB who mode en := ⟨_, rfl⟩
  rw [← hx]
  have hB0 : Below w.heap.size w (w.alloc (.cells (entC en) 151)) := (Below.refl _ w).alloc (Nat.le_refl _) _
  have hcl := clash1_any who mode en Bw Bm (w.alloc (.cells (entC en) 151)) ((hB0.cell (p := ⟨Bw, 0, none⟩) hlw).trans hw) ((hB0.cell (p := ⟨Bm, 0, none⟩) hlm).trans hm) (Nat.lt_of_lt_of_le hlw hB0.size) (Nat.lt_of_lt_of_le hlm hB0.size)
  rw [← hx] at hcl
  have HCL := Lib.hid hcl
  have HB0 := Lib.hid hB0
  clear hx hg hcl hw hm hB0
  have hfn : ∀ W : World, (binOp .eql 218 (.func (.func 137) #[] #[.pointer (some ⟨Bw, 0, none⟩), .pointer (some ⟨Bm, 0, none⟩)]) .nilFunc).run Tryz.prog W = .ok (.bool false) W := fun W => by kernel_rfl
  unfold entC at k0 k1 k2 k3
  go_enter Tryz.func136, Tryz.ntmps136
  go_wp2_with fail
  refine wp_loop_rounds 2 ?_
  rw [rounds_succ]
  go_wp2_with fail
  refine HCL.out.mono ?_
  rintro e w1 ⟨rfl, hb1⟩
  have h7 := (hb1.block w.heap.size (by simp)).trans (heap_at w _ _ rfl)
  have c7 := blk_cell h7
  have HB1 := Lib.hid (HB0.out.trans (hb1.mono HB0.out.size))
  clear hb1 h7 k0 k1 k2 k3
  unfold entC at c7
  cases x with
  | false =>
    go_wp2_with fail
    rw [rounds_succ]
    go_wp2_with fail
    refine (sort01 none 0 0 (by omega) _).mono ?_
    rintro e w2 ⟨rfl, rfl⟩
    go_wp2_with fail
    go_ret
    exact ⟨_, rfl, World.ownsRow_nil _ _ _ _, HB1.out⟩
  | true =>
    have hiv := Ck8.ints_new w1 [1] #[.int .i64 1] rfl 1 rfl (by decide)
    have HIV := Lib.hid hiv
    have hs1 := HB1.out.size
    clear hiv
    go_wp2_with (at_builtin; refine Ck8.wpList_append_ints rfl (.tmp 21) (.tmp 24) _ rfl w.heap.size 3 i0 Tryz.underlying43 hi hz0 hz1 hz2 (.slice none 0 0) 0 [] rfl (World.ownsRow_nil _ _ _ _) _ (.slice (some ⟨w1.heap.size, 0, none⟩) 1 1) [1] rfl HIV.out (by simp) (by simp; omega) ?_; intro v7 w7 hown7 hgrow7 hat7; have HOWN := Lib.hid hown7; have HGW := Lib.hid hgrow7; (obtain ⟨va, vc, rfl⟩ := own_slice hown7); clear hown7 hgrow7 hat7)
    rw [rounds_succ]
    go_wp2_with fail
    refine (sort01 va 1 vc (by omega) _).mono ?_
    rintro e w2 ⟨rfl, rfl⟩
    go_wp2_with fail
    go_ret
    exact ⟨_, rfl, by simpa [IdsV, Ck8.I8] using HOWN.out, (HB1.out.alloc HB1.out.size _).grown HGW.out (by have := HB1.out.size; simp; omega) (by intro k hk; simp [Value.ownBlock] at hk)⟩
end Go.Proofs.YtchdfogifhfclaaGreatDoor
namespace Go.Proofs.YtchdfogifhfclaaGreatDoor
open Go.RowKit Go.Maps Go.MapKept

set_option maxRecDepth 100000 in
set_option maxHeartbeats 1000000 in
theorem clash_empty (F : Nat → Prop) (p : Nat) (pa : ByteArray) (mode who : Int) (w : World) (h : SetAt F p none w) (hp : pathOK pa = true) (hm : mode = 1 ∨ mode = 2) : Calls Tryz.prog 87 #[.pointer (some ⟨p, 0, none⟩), .string pa, .int .i64 mode, .int .i64 who] w (IdsP false w) := by
  obtain ⟨w0, hw0⟩ : ∃ w0, w0 = (w.alloc (.cells #[.int .i64 mode] 22)).alloc (.cells #[.int .i64 who] 3) := ⟨_, rfl⟩
  have hB0 : Below w.heap.size w w0 := by rw [hw0]; exact ((Below.refl _ _).alloc (Nat.le_refl _) _).alloc (by simp) _
  have hx0 : w0.heap[w.heap.size]? = some (.cells #[.int .i64 mode] 22 (0, 0)) := by rw [hw0, heap_past _ _ _ (by simp), heap_at _ _ _ rfl]
  obtain ⟨root, hlf, hal⟩ := along_none F p pa w0 (h.below hB0) hp
  have HB0 := Lib.hid hB0
  have HX0 := Lib.hid hx0
  have HLF := Lib.hid hlf
  have HAL := Lib.hid hal
  have hap := append_nils
  have dm : ((mode != 1) = false) ∨ ((mode != 1) = true ∧ (mode != 2) = false) := by
    rcases hm with rfl | rfl
    · exact .inl rfl
    · exact .inr ⟨rfl, rfl⟩
  have hmf : ∀ (fn : Fn) (first cap : Array Value) (w : World), (Instr.makeFunc fn first cap).run Tryz.prog w = .ok (.func fn first cap) w := fun _ _ _ _ => rfl
  clear h hB0 hx0 hlf hal hm
  go_enter Tryz.func87, Tryz.ntmps87
  go_wp2_with fail
  rw [← hw0]
  clear hw0
  refine HAL.out.mono ?_
  rintro e w1 ⟨rfl, hb1⟩
  have HB1 := Lib.hid (HB0.out.trans (hb1.mono HB0.out.size))
  have c0 := blk_cell ((hb1.block _ (lt_of_heap HX0.out)).trans HX0.out) 0
  have HX1 := Lib.hid ((hb1.block _ (lt_of_heap HX0.out)).trans HX0.out)
  have HLF1 := Lib.hid (Leaf.keep HLF.out (w' := w1) (fun k hk _ => hb1.block k hk))
  clear hb1
  by_cases hs : segs pa = []
  · rw [if_pos hs]
    rcases dm with d1 | ⟨d1, d2⟩
    all_goals
      go_wp2_with fail
      refine (below_leaf F none root _ HLF1.out).mono ?_
      rintro e w2 ⟨v, rfl, hv, hb2⟩
      obtain rfl := coll_none hv
      have HB2 := Lib.hid (HB1.out.trans (hb2.mono HB1.out.size))
      have c2 := blk_cell ((hb2.block _ (lt_of_heap HX1.out)).trans HX1.out) 0
      clear hv hb2
      go_wp2_with fail
      refine (ids_none _ none 0 _).mono ?_
      rintro e w3 ⟨v, rfl, hv, hb3⟩
      have HV := Lib.hid hv
      have HB3 := Lib.hid hb3
      clear hv hb3
      go_wp2_with fail
      go_ret
      exact ⟨v, rfl, row_base HV.out HB2.out.size, HB2.out.trans (HB3.out.mono HB2.out.size)⟩
  · rw [if_neg hs]
    rcases dm with d1 | ⟨d1, d2⟩
    all_goals
      go_wp2_with fail
      refine (ids_none _ none 0 _).mono ?_
      rintro e w3 ⟨v, rfl, hv, hb3⟩
      have HV := Lib.hid hv
      have HB3 := Lib.hid hb3
      clear hv hb3
      go_wp2_with fail
      go_ret
      exact ⟨v, rfl, row_base HV.out HB1.out.size, HB1.out.trans (HB3.out.mono HB1.out.size)⟩
set_option maxRecDepth 100000 in
set_option maxHeartbeats 1000000 in
theorem under_empty (F : Nat → Prop) (p : Nat) (w : World) (h : SetAt F p none w) : Calls Tryz.prog 88 #[.pointer (some ⟨p, 0, none⟩), .string ⟨#[]⟩] w (IdsP false w) := by
  obtain ⟨root, hlf, hal⟩ := along_none F p ⟨#[]⟩ w h (by decide +kernel)
  have hs : segs ⟨#[]⟩ = [] := rfl
  rw [hs] at hal
  have HLF := Lib.hid hlf
  have HAL := Lib.hid hal
  clear h hlf hal hs
  go_enter Tryz.func88, Tryz.ntmps88
  go_wp2_with fail
  refine HAL.out.mono ?_
  rintro e w1 ⟨rfl, hb1⟩
  rw [if_pos rfl]
  have HLF1 := Lib.hid (Leaf.keep HLF.out (w' := w1) (fun k hk _ => hb1.block k hk))
  have HB1 := Lib.hid hb1
  clear hb1
  go_wp2_with fail
  refine (below_leaf F none root _ HLF1.out).mono ?_
  rintro e w2 ⟨v, rfl, hv, hb2⟩
  obtain rfl := coll_none hv
  have HB2 := Lib.hid (HB1.out.trans (hb2.mono HB1.out.size))
  clear hv hb2
  go_wp2_with fail
  refine (ids_none _ none 0 _).mono ?_
  rintro e w3 ⟨v, rfl, hv, hb3⟩
  have HV := Lib.hid hv
  have HB3 := Lib.hid hb3
  clear hv hb3
  go_wp2_with fail
  go_ret
  exact ⟨v, rfl, row_base HV.out HB2.out.size, HB2.out.trans (HB3.out.mono HB2.out.size)⟩
set_option maxRecDepth 100000 in
set_option maxHeartbeats 1000000 in
theorem clash_one (F : Nat → Prop) (p : Nat) (en : Ent) (mode who : Int) (w : World) (h : SetAt F p (some en) w) (hp : pathOK en.p = true) (hm : mode = 1 ∨ mode = 2) : Calls Tryz.prog 87 #[.pointer (some ⟨p, 0, none⟩), .string en.p, .int .i64 mode, .int .i64 who] w (IdsP (ClashB who mode en) w) := by
  obtain ⟨iE, hiE, hz0, hz1, hz2⟩ := info_parts Tryz.infoE
  obtain ⟨w0, hw0⟩ : ∃ w0, w0 = (w.alloc (.cells #[.int .i64 mode] 22)).alloc (.cells #[.int .i64 who] 3) := ⟨_, rfl⟩
  have hB0 : Below w.heap.size w w0 := by rw [hw0]; exact ((Below.refl _ _).alloc (Nat.le_refl _) _).alloc (by simp) _
  have hx0 : w0.heap[w.heap.size]? = some (.cells #[.int .i64 mode] 22 (0, 0)) := by rw [hw0, heap_past _ _ _ (by simp), heap_at _ _ _ rfl]
  have hx1 : w0.heap[w.heap.size + 1]? = some (.cells #[.int .i64 who] 3 (0, 0)) := by rw [hw0, heap_at _ _ _ (by simp)]
  obtain ⟨b, hlf, hal⟩ := along_some F p en w0 (h.below hB0) hp
  have HB0 := Lib.hid hB0
  have HX0 := Lib.hid hx0
  have HX1 := Lib.hid hx1
  have HLF := Lib.hid hlf
  have HAL := Lib.hid hal
  have dm : ((mode != 1) = false) ∨ ((mode != 1) = true ∧ (mode != 2) = false) := by
    rcases hm with rfl | rfl
    · exact .inl rfl
    · exact .inr ⟨rfl, rfl⟩
  have hmf : ∀ (fn : Fn) (first cap : Array Value) (w : World), (Instr.makeFunc fn first cap).run Tryz.prog w = .ok (.func fn first cap) w := fun _ _ _ _ => rfl
  clear h hB0 hx0 hx1 hlf hal hm
  go_enter Tryz.func87, Tryz.ntmps87
  go_wp2_with fail
  rw [← hw0]
  clear hw0
  refine HAL.out.mono ?_
  rintro e w1 ⟨rfl, hb1⟩
  have HB1 := Lib.hid (HB0.out.trans (hb1.mono HB0.out.size))
  have HY0 := Lib.hid ((hb1.block _ (lt_of_heap HX0.out)).trans HX0.out)
  have HY1 := Lib.hid ((hb1.block _ (lt_of_heap HX1.out)).trans HX1.out)
  have HLF1 := Lib.hid (Leaf.keep HLF.out (w' := w1) (fun k hk _ => hb1.block k hk))
  clear hb1
  go_wp2_with fail
  refine (below_leaf F (some en) b _ HLF1.out).mono ?_
  rintro e w2 ⟨v, rfl, hv, hb2⟩
  obtain ⟨hl, ⟨-, h0⟩ | ⟨g, cap, cur, rfl, hg, hh, hnc, hcm, hcs, ht⟩⟩ := hv.1
  · simp [outs] at h0
  · have ht : cur.toList.take 4 = (entC en).toList := by simpa [outs, rowsOf, entOf] using ht
    have hnc : 1 ≤ cap := hnc
    have hnews : ∀ j u, (entC en).toList[j]? = some u → w2.cell? ((⟨g, 0, none⟩ : Addr).add j) = some u := fun j u hu => World.news_of_block hh j u (by
      rw [← ht] at hu
      have hj : j < 4 := by
        have := (List.getElem?_eq_some_iff.1 hu).1
        rw [List.length_take] at this
        omega
      rwa [List.getElem?_take_of_lt hj] at hu)
    have HNEWS := Lib.hid hnews
    have HB2 := Lib.hid (HB1.out.trans (hb2.mono HB1.out.size))
    have c0 := blk_cell ((hb2.block _ (lt_of_heap HY0.out)).trans HY0.out) 0
    have HZ0 := Lib.hid ((hb2.block _ (lt_of_heap HY0.out)).trans HY0.out)
    have HZ1 := Lib.hid ((hb2.block _ (lt_of_heap HY1.out)).trans HY1.out)
    have hs2 := HB2.out.size
    have HCM := Lib.hid hcm
    clear hv hb2 hl hh hcs ht hnews hg hcm
    rw [show (outs (some en)).length = 1 from rfl]
    rcases dm with d1 | ⟨d1, d2⟩
    all_goals
      go_wp2_with (at_builtin; refine wpList_append_lies _ rfl (.tmp 19) (.tmp 21) _ rfl w.heap.size 151 iE _ 4 40 Tryz.underlying213 hiE hz0 hz1 hz2 rfl (by omega) (.slice none 0 0) 0 [] rfl (World.ownsRow_nil _ _ _ _) ⟨g, 0, none⟩ 1 cap (entC en).toList rfl rfl HNEWS.out (entC_one en) (by omega) (by unfold maxLen; omega) (by omega) hs2 _ rfl ?_; intro g6 cap6 w6 hown6 hgrow6 hat6 hlt6; have HOWN := Lib.hid hown6; have hb6 := (Below.refl w2.heap.size w2).grown hgrow6 (Nat.le_refl _) (by intro k hk; simp [Value.ownBlock] at hk); have HB6 := Lib.hid (HB2.out.trans (hb6.mono hs2)); have d0 := blk_cell ((hb6.block _ (lt_of_heap HZ0.out)).trans HZ0.out) 0; have HU0 := Lib.hid ((hb6.block _ (lt_of_heap HZ0.out)).trans HZ0.out); have HU1 := Lib.hid ((hb6.block _ (lt_of_heap HZ1.out)).trans HZ1.out); clear hown6 hgrow6 hat6 hlt6 hb6)
      obtain ⟨_, ⟨_, h0⟩ | ⟨g7, cap7, cur7, e7, hg7, hh7, hnc7, hcm7, hcs7, ht7⟩⟩ := HOWN.out
      · omega
      · injection e7 with e7 _ e8
        injection e7 with e7
        injection e7 with e7
        subst e7 e8
        refine (ids_clash who mode en (w.heap.size + 1) w.heap.size g6 cap6 _ (blk_cell HU1.out 0) (blk_cell HU0.out 0) (lt_of_heap HU1.out) (lt_of_heap HU0.out) (fun i hi => ?_) (lt_of_heap hh7)).mono ?_
        · rw [blk_cell hh7, ← Array.getElem?_toList, ← Array.getElem?_toList]
          have ht7 : cur7.toList.take 4 = (entC en).toList := by simpa using ht7
          rw [← ht7, List.getElem?_take_of_lt hi]
        · rintro e w7 ⟨v, rfl, hv7, hb7⟩
          have HV := Lib.hid hv7
          have HB7 := Lib.hid hb7
          clear hv7 hb7 hg7 hh7 hnc7 hcm7 hcs7 ht7
          go_wp2_with fail
          go_ret
          exact ⟨v, rfl, row_base HV.out HB6.out.size, HB6.out.trans (HB7.out.mono HB6.out.size)⟩
end Go.Proofs.YtchdfogifhfclaaGreatDoor
