/- The grantor: Held of the one grant.  The grantor: what Renew asks.  The grantor: Renew.  The grantor: Renew of a live grant.  The grantor: Open of a new ledger. -/
import Derived.Test.YtchdfogifhfclaaGreatDoorGrlM
namespace Go.Proofs.YtchdfogifhfclaaGreatDoor
open Go.RowKit Go.Maps Go.MapKept
open Go.ChangeMaps (setBlock)

theorem hC_one (p : ByteArray) (m : Int) (a : Option Addr) (n c : Nat) (t x : Int) : (hC p m (.slice a n c) t x).all (·.oneCell') = true := by simp [hC, Value.oneCell']
set_option maxRecDepth 100000 in
set_option maxHeartbeats 2000000 in
theorem held1_any (p : ByteArray) (m : Int) (a : Option Addr) (n c : Nat) (t x : Int) (Bi : Nat) (w : World) (hi : w.cell? ⟨Bi, 0, none⟩ = some (.int .i64 1)) (hl : Bi < w.heap.size) :
    Calls Tryz.prog 110 #[.agg (hC p m (.slice a n c) t x), .pointer (some ⟨Bi, 0, none⟩)] w (LtBool true w) := by
  unfold hC
  go_enter Tryz.func110, Tryz.ntmps110
  go_wp2_with fail
  go_ret
  exact ⟨rfl, below_one _ _⟩
set_option maxRecDepth 100000 in
set_option maxHeartbeats 2000000 in
theorem indexH_any (p : ByteArray) (m : Int) (a : Option Addr) (n c : Nat) (t x : Int) (Bi b cap : Nat) (w : World) (hi : w.cell? ⟨Bi, 0, none⟩ = some (.int .i64 1)) (hl : Bi < w.heap.size) (hb : b < w.heap.size) (hc : ∀ i, i < 9 → w.cell? ⟨b, i, none⟩ = (hC p m (.slice a n c) t x)[i]?) :
    Calls Tryz.prog 109 #[.slice (some ⟨b, 0, none⟩) 1 cap, .func (.func 110) #[] #[.pointer (some ⟨Bi, 0, none⟩)]] w fun e w' => e = .returned (.int .i64 0) ∧ Below w.heap.size w w' := by
  have k0 := hc 0 (by omega)
  have k1 := hc 1 (by omega)
  have k2 := hc 2 (by omega)
  have k3 := hc 3 (by omega)
  have k4 := hc 4 (by omega)
  have k5 := hc 5 (by omega)
  have k6 := hc 6 (by omega)
  have k7 := hc 7 (by omega)
  have k8 := hc 8 (by omega)
  have HE := Lib.hid (held1_any p m a n c t x Bi w hi hl)
  clear hc
  unfold hC at k0 k1 k2 k3 k4 k5 k6 k7 k8 HE
  go_enter Tryz.func109, Tryz.ntmps109
  go_wp2_with fail
  refine wp_loop_rounds 1 ?_
  rw [rounds_succ]
  go_wp2_with fail
  refine HE.out.mono ?_
  rintro e w1 ⟨rfl, hb1⟩
  go_wp2_with fail
  go_ret
  exact ⟨rfl, hb1⟩
def HeldP (g : Gr) (x : Int) (w : World) (e : Ending) (w' : World) : Prop := ∃ sb so sc, e = .returned (.tuple #[.agg (hC g.p g.m (.slice (some ⟨sb, so, none⟩) 1 sc) g.t x), .bool true]) ∧ Ck8.IntsV (fun k => w.heap.size ≤ k) w' (.slice (some ⟨sb, so, none⟩) 1 sc) [g.s] ∧ Below w.heap.size w w'
set_option maxRecDepth 100000 in
set_option maxHeartbeats 4000000 in
theorem held_any (F : Nat → Prop) (q : Gs) (L : Lst) (g : Gr) (en : Ent) (x : Int) (w : World) (h : GrAt F q L (some en) x w) (ho : L.o = some g) : Calls Tryz.prog 62 #[.pointer (some ⟨q.g, 0, none⟩), .int .i64 1] w (HeldP g x w) := by
  obtain ⟨iH, hiH, hz0, hz1, hz2⟩ := info_parts Tryz.infoH
  have hmf : ∀ (fn : Fn) (first cap : Array Value) (w : World), (Instr.makeFunc fn first cap).run Tryz.prog w = .ok (.func fn first cap) w := fun _ _ _ _ => rfl
  obtain ⟨w0, hw0⟩ : ∃ w0, w0 = (w.alloc (.cells #[.int .i64 1] 3)).alloc (.cells #[.int .i64 0, .int .i64 0, .string estr, .int .i64 0, .slice none 0 0, .int .i64 0, .int .i64 0, .int .i64 0, .int .i64 0] 114) := ⟨_, rfl⟩
  have hB0 : Below w.heap.size w w0 := by rw [hw0]; exact below_two _ _ _
  have hx0 : w0.heap[w.heap.size]? = some (.cells #[.int .i64 1] 3 (0, 0)) := by rw [hw0, heap_past _ _ _ (by simp), heap_at _ _ _ rfl]
  have hx1 : w0.heap[w.heap.size + 1]? = some (.cells #[.int .i64 0, .int .i64 0, .string estr, .int .i64 0, .slice none 0 0, .int .i64 0, .int .i64 0, .int .i64 0, .int .i64 0] 114 (0, 0)) := by rw [hw0, heap_at _ _ _ (by simp)]
  have HB0 := Lib.hid hB0
  have HZ0 := Lib.hid (show w0.heap.size = w.heap.size + 2 by rw [hw0]; simp)
  have HX0 := Lib.hid hx0
  have HX1 := Lib.hid hx1
  have HH0 := Lib.hid (h.below hB0)
  have HO := Lib.hid ho
  clear h ho hB0 hx0 hx1
  unfold estr at hw0
  go_enter Tryz.func62, Tryz.ntmps62
  go_wp2_with fail
  rw [← hw0]
  clear hw0
  refine (glist_any F q L g en x _ HH0.out HO.out).mono ?_
  rintro e w1 ⟨b, c, sb, so, sc, rfl, hc1, hbb, hbl, hcell, hiv, hb1⟩
  have HX01 := Lib.hid ((hb1.block _ (lt_of_heap HX0.out)).trans HX0.out)
  have HX11 := Lib.hid ((hb1.block _ (lt_of_heap HX1.out)).trans HX1.out)
  have HIX := Lib.hid (indexH_any g.p g.m (some ⟨sb, so, none⟩) 1 sc g.t x w.heap.size b c w1 (blk_cell HX01.out 0) (lt_of_heap HX01.out) hbl hcell)
  have HCL := Lib.hid hcell
  have HIV := Lib.hid hiv
  have HBB := Lib.hid hbl
  have HB1 := Lib.hid (below_step HB0.out hb1)
  clear hcell hiv hbb hb1 hbl
  go_wp2_with fail
  refine HIX.out.mono ?_
  rintro e w2 ⟨rfl, hb2⟩
  have k := fun i hi => ((hb2.cell (p := ⟨b, i, none⟩) HBB.out).trans (HCL.out i hi))
  have k0 := k 0 (by omega)
  have k1 := k 1 (by omega)
  have k2 := k 2 (by omega)
  have k3 := k 3 (by omega)
  have k4 := k 4 (by omega)
  have k5 := k 5 (by omega)
  have k6 := k 6 (by omega)
  have k7 := k 7 (by omega)
  have k8 := k 8 (by omega)
  have HX12 := Lib.hid ((hb2.block _ (lt_of_heap HX11.out)).trans HX11.out)
  have HIV2 := Lib.hid (HIV.out.below hb2)
  have HB2 := Lib.hid (below_step HB1.out hb2)
  clear k hb2
  obtain ⟨pa, m, st, t⟩ := g
  unfold hC at k0 k1 k2 k3 k4 k5 k6 k7 k8
  go_wp2_with (first
    | (refine wpList_store_row rfl 114 (.tmp 4) (.tmp 19) rfl (w.heap.size + 1) (hC pa m (.slice (some ⟨sb, so, none⟩) 1 sc) t x) rfl rfl 114 _ HX12.out (by kernel_rfl) rfl (hC_one _ _ _ _ _ _ _) ?_))
  refine bodyPost_ret (v := .tuple #[.agg (hC pa m (.slice (some ⟨sb, so, none⟩) 1 sc) t x), .bool true]) (results_cell_tmp2 (fn := Tryz.f62) rfl _ _ (w.heap.size + 1) 114 (hC pa m (.slice (some ⟨sb, so, none⟩) 1 sc) t x) (0, 0) _ _ rfl rfl (setRow_heap _ _ _ _ _ _ HX12.out) Tryz.underlying114 rfl (by kernel_rfl)) rfl ⟨sb, so, sc, rfl, ?_, below_row HB2.out (by omega) _⟩
  have hz := HZ0.out
  exact (HIV2.out.keep (fun k hk hd => setRow_other w2 _ k _ (by have : w0.heap.size ≤ k := hd; omega)) (by rw [setRow_size]; exact Nat.le_refl _)).mono (fun k _ hd => by have : w0.heap.size ≤ k := hd; show _ ≤ k; omega)
end Go.Proofs.YtchdfogifhfclaaGreatDoor
namespace Go.Proofs.YtchdfogifhfclaaGreatDoor
open Go.RowKit Go.Maps Go.MapKept
open Go.ChangeMaps (setBlock)

set_option maxRecDepth 100000 in
set_option maxHeartbeats 2000000 in
theorem known_any (pa : ByteArray) (m : Int) (sb so sc : Nat) (t x now : Int) (Bt Bx Bn Bh : Nat) (w : World) (ht : w.cell? ⟨Bt, 0, none⟩ = some (.bool true)) (hx : ∀ i, w.cell? ⟨Bx, i, none⟩ = (hC pa m (.slice (some ⟨sb, so, none⟩) 1 sc) t x)[i]?) (hn : w.cell? ⟨Bn, 0, none⟩ = some (.int .i64 now)) (hh : w.cell? ⟨Bh, 0, none⟩ = some (.int .i64 1)) :
    Calls Tryz.prog 63 #[.pointer (some ⟨Bt, 0, none⟩), .pointer (some ⟨Bx, 0, none⟩), .pointer (some ⟨Bn, 0, none⟩), .pointer (some ⟨Bh, 0, none⟩)] w (CodeP (if x ≤ now then 63 else 0) w) := by
  unfold hC at hx
  by_cases hd : x ≤ now
  · rw [if_pos hd]
    have d1 : decide (x ≤ now) = true := decide_eq_true hd
    clear hd
    go_enter Tryz.func63, Tryz.ntmps63
    go_wp2_with fail
    go_ret
    exact ⟨rfl, Below.refl _ _⟩
  · rw [if_neg hd]
    have d1 : decide (x ≤ now) = false := decide_eq_false hd
    clear hd
    go_enter Tryz.func63, Tryz.ntmps63
    go_wp2_with fail
    go_ret
    exact ⟨rfl, Below.refl _ _⟩
def rnwL (q : Gs) (now who t : Int) (pa : ByteArray) (m : Int) (Bt Bx Bn Bh Bg Bl : Nat) : List FnV :=
  [⟨39, #[.agg (reqC now who t pa m)], #[]⟩, ⟨41, #[.agg (reqC now who t pa m)], #[]⟩,
   ⟨63, #[], #[.pointer (some ⟨Bt, 0, none⟩), .pointer (some ⟨Bx, 0, none⟩), .pointer (some ⟨Bn, 0, none⟩), .pointer (some ⟨Bh, 0, none⟩)]⟩,
   ⟨42, #[.agg (reqC now who t pa m)], #[]⟩, ⟨43, #[.agg (reqC now who t pa m)], #[]⟩, ⟨44, #[.agg (reqC now who t pa m)], #[]⟩,
   ⟨45, #[.pointer (some ⟨q.g, 0, none⟩)], #[]⟩,
   ⟨64, #[], #[.pointer (some ⟨Bg, 0, none⟩), .pointer (some ⟨Bl, 0, none⟩)]⟩]
/-- Renew's variables and its list. -/
structure RnwS (q : Gs) (now t : Int) (pa : ByteArray) (m x : Int) (b Bt Bx Bn Bh Bg Bl : Nat) (w : World) : Prop where
  cells : ∀ i y, (rnwL q now 1 t pa m Bt Bx Bn Bh Bg Bl)[i]? = some y → w.cell? ⟨b, i, none⟩ = some y.val
  bt : w.cell? ⟨Bt, 0, none⟩ = some (.bool true)
  bx : ∃ sb so sc t0, ∀ i, w.cell? ⟨Bx, i, none⟩ = (hC pa m (.slice (some ⟨sb, so, none⟩) 1 sc) t0 x)[i]?
  bn : w.cell? ⟨Bn, 0, none⟩ = some (.int .i64 now)
  bh : w.cell? ⟨Bh, 0, none⟩ = some (.int .i64 1)
  bg : w.cell? ⟨Bg, 0, none⟩ = some (.pointer (some ⟨q.g, 0, none⟩))
  bl : w.cell? ⟨Bl, 0, none⟩ = some (.int .i64 t)
  lt : b < w.heap.size ∧ Bt < w.heap.size ∧ Bx < w.heap.size ∧ Bn < w.heap.size ∧ Bh < w.heap.size ∧ Bg < w.heap.size ∧ Bl < w.heap.size
set_option maxRecDepth 100000 in
theorem rnw_ent (q : Gs) (now who t : Int) (pa : ByteArray) (m : Int) (Bt Bx Bn Bh Bg Bl : Nat) : ∀ y ∈ rnwL q now who t pa m Bt Bx Bn Bh Bg Bl, ∀ args w, (callFunc y.f args).run Tryz.prog w = .ok (.enter y.f args) w := by
  intro y hy args W
  simp only [rnwL, List.mem_cons, List.not_mem_nil, or_false] at hy
  rcases hy with rfl | rfl | rfl | rfl | rfl | rfl | rfl | rfl <;> rfl
section
variable {F : Nat → Prop} {q : Gs} {L : Lst} {os : Option Ent} {x now t : Int} {pa : ByteArray} {m : Int} {b Bt Bx Bn Bh Bg Bl : Nat} {w W : World}
theorem RnwS.below (h : RnwS q now t pa m x b Bt Bx Bn Bh Bg Bl w) (hb : Below w.heap.size w W) : RnwS q now t pa m x b Bt Bx Bn Bh Bg Bl W := by
  obtain ⟨sb, so, sc, t0, hx⟩ := h.bx
  exact ⟨fun i y hy => (hb.cell (p := ⟨b, i, none⟩) h.lt.1).trans (h.cells i y hy), (hb.cell (p := ⟨Bt, 0, none⟩) h.lt.2.1).trans h.bt, ⟨sb, so, sc, t0, fun i => (hb.cell (p := ⟨Bx, i, none⟩) h.lt.2.2.1).trans (hx i)⟩, (hb.cell (p := ⟨Bn, 0, none⟩) h.lt.2.2.2.1).trans h.bn,
    (hb.cell (p := ⟨Bh, 0, none⟩) h.lt.2.2.2.2.1).trans h.bh, (hb.cell (p := ⟨Bg, 0, none⟩) h.lt.2.2.2.2.2.1).trans h.bg, (hb.cell (p := ⟨Bl, 0, none⟩) h.lt.2.2.2.2.2.2).trans h.bl,
    ⟨Nat.lt_of_lt_of_le h.lt.1 hb.size, Nat.lt_of_lt_of_le h.lt.2.1 hb.size, Nat.lt_of_lt_of_le h.lt.2.2.1 hb.size, Nat.lt_of_lt_of_le h.lt.2.2.2.1 hb.size, Nat.lt_of_lt_of_le h.lt.2.2.2.2.1 hb.size, Nat.lt_of_lt_of_le h.lt.2.2.2.2.2.1 hb.size, Nat.lt_of_lt_of_le h.lt.2.2.2.2.2.2 hb.size⟩⟩
theorem ask_below {r : Int} {f : Nat} {args : Array Value} (hI : Below w.heap.size w W) (h : Calls Tryz.prog f args W (CodeP r W)) : Calls Tryz.prog f args W (IntP r (Below w.heap.size w)) := by
  refine h.mono ?_
  rintro e W' ⟨rfl, hb⟩
  exact ⟨rfl, below_step hI hb⟩
theorem rnw_ok {c : Nat} (hA : RnwS q now t pa m x b Bt Bx Bn Bh Bg Bl w) (h : GrAt F q L os x w) (hr : ReqOK now 1 t) (hp : pathOK pa = true) (hm : ModeB m = true) (hn : L.next ≤ 3) (ht : t ≤ L.longest) (hx : now < x) (hc : 8 ≤ c) :
    Calls Tryz.prog 34 #[.slice (some ⟨b, 0, none⟩) 8 c] w (IntP 0 (Below w.heap.size w)) := by
  refine firsts_any (rnwL q now 1 t pa m Bt Bx Bn Bh Bg Bl) b c (fun i W => Below w.heap.size w W) _ 8 0 w (.inr ⟨rfl, rfl⟩) (by simp [rnwL]) (by simpa [rnwL] using hc) (fun W _ h => h) (fun W h _ => absurd h (by simp [rnwL]))
    (fun W i y hI hy => (hA.below hI).cells i y hy) (rnw_ent _ _ _ _ _ _ _ _ _ _ _ _) ?_ ?_ (Below.refl _ _)
  · intro i y W hi hy hI
    have hA := hA.below hI
    have hg := h.below hI
    match i, hy with
    | 0, hy => cases hy; exact ask_below hI (numbers_any now 1 t pa m W hr)
    | 1, hy => cases hy; exact ask_below hI (length_any now 1 t pa m W hr)
    | 2, hy =>
      cases hy
      obtain ⟨sb, so, sc, t0, hx0⟩ := hA.bx
      have := known_any pa m sb so sc t0 x now Bt Bx Bn Bh W hA.bt hx0 hA.bn hA.bh
      rw [if_neg (by omega)] at this
      exact ask_below hI this
    | 3, hy => cases hy; exact ask_below hI (borne_any now 1 t pa m W hr hp hm)
    | 4, hy => cases hy; exact ask_below hI (deep_any now 1 t pa m W)
    | 5, hy => cases hy; exact ask_below hI (outlasts_any now 1 t pa m W hr)
    | 6, hy => cases hy; exact ask_below hI (counts_g F q L os x W hg hn)
    | 7, hy =>
      cases hy
      refine ask_below hI ?_
      exact longr_of q t (fun _ W' => Below W.heap.size W W') Bg Bl W hA.bg hA.bl (long_old F q L os x t W hg ht)
  · intro y W hy
    cases hy
theorem rnw_dead {c : Nat} (hA : RnwS q now t pa m x b Bt Bx Bn Bh Bg Bl w) (hr : ReqOK now 1 t) (hx : x ≤ now) (hc : 8 ≤ c) :
    Calls Tryz.prog 34 #[.slice (some ⟨b, 0, none⟩) 8 c] w (IntP 63 (Below w.heap.size w)) := by
  refine firsts_any (rnwL q now 1 t pa m Bt Bx Bn Bh Bg Bl) b c (fun i W => Below w.heap.size w W) _ 2 63 w (.inl ⟨by simp [rnwL], by decide⟩) (by simp [rnwL]) (by simpa [rnwL] using hc) (fun W _ h => h) (fun W _ h => h)
    (fun W i y hI hy => (hA.below hI).cells i y hy) (rnw_ent _ _ _ _ _ _ _ _ _ _ _ _) ?_ ?_ (Below.refl _ _)
  · intro i y W hi hy hI
    match i, hy with
    | 0, hy => cases hy; exact ask_below hI (numbers_any now 1 t pa m W hr)
    | 1, hy => cases hy; exact ask_below hI (length_any now 1 t pa m W hr)
  · intro y W hy hI
    cases hy
    have hA := hA.below hI
    obtain ⟨sb, so, sc, t0, hx0⟩ := hA.bx
    have := known_any pa m sb so sc t0 x now Bt Bx Bn Bh W hA.bt hx0 hA.bn hA.bh
    rw [if_pos hx] at this
    exact ask_below hI this
end
end Go.Proofs.YtchdfogifhfclaaGreatDoor
namespace Go.Proofs.YtchdfogifhfclaaGreatDoor
open Go.RowKit Go.Maps Go.MapKept
open Go.ChangeMaps (setBlock)

/-- Renew's variables. -/
def renewW (q : Gs) (now t : Int) (w : World) : World := (((((w.alloc (.cells #[.pointer (some ⟨q.g, 0, none⟩)] 36)).alloc (.cells #[.int .i64 now] 3)).alloc (.cells rootC 49)).alloc (.cells #[.int .i64 1] 3)).alloc (.cells #[.int .i64 t] 3)).alloc (.cells (gC 0 0 estr 0 (.slice none 0 0) 0) 45)
structure RenewS (q : Gs) (now t : Int) (w w0 : World) : Prop where
  h0 : w0.heap[w.heap.size]? = some (.cells #[.pointer (some ⟨q.g, 0, none⟩)] 36 (0, 0))
  h1 : w0.heap[w.heap.size + 1]? = some (.cells #[.int .i64 now] 3 (0, 0))
  h2 : w0.heap[w.heap.size + 1 + 1]? = some (.cells rootC 49 (0, 0))
  h3 : w0.heap[w.heap.size + 1 + 1 + 1]? = some (.cells #[.int .i64 1] 3 (0, 0))
  h4 : w0.heap[w.heap.size + 1 + 1 + 1 + 1]? = some (.cells #[.int .i64 t] 3 (0, 0))
  h5 : w0.heap[w.heap.size + 1 + 1 + 1 + 1 + 1]? = some (.cells (gC 0 0 estr 0 (.slice none 0 0) 0) 45 (0, 0))
  b : Below w.heap.size w w0
theorem renewS (q : Gs) (now t : Int) (w : World) : RenewS q now t w (renewW q now t w) := by
  unfold renewW
  refine ⟨?_, ?_, ?_, ?_, ?_, ?_, ?_⟩
  · rw [heap_past _ _ _ (by (simp <;> omega)), heap_past _ _ _ (by (simp <;> omega)), heap_past _ _ _ (by (simp <;> omega)), heap_past _ _ _ (by (simp <;> omega)), heap_past _ _ _ (by (simp <;> omega)), heap_at _ _ _ rfl]
  · rw [heap_past _ _ _ (by (simp <;> omega)), heap_past _ _ _ (by (simp <;> omega)), heap_past _ _ _ (by (simp <;> omega)), heap_past _ _ _ (by (simp <;> omega)), heap_at _ _ _ (by (simp <;> omega))]
  · rw [heap_past _ _ _ (by (simp <;> omega)), heap_past _ _ _ (by (simp <;> omega)), heap_past _ _ _ (by (simp <;> omega)), heap_at _ _ _ (by (simp <;> omega))]
  · rw [heap_past _ _ _ (by (simp <;> omega)), heap_past _ _ _ (by (simp <;> omega)), heap_at _ _ _ (by (simp <;> omega))]
  · rw [heap_past _ _ _ (by (simp <;> omega)), heap_at _ _ _ (by (simp <;> omega))]
  · rw [heap_at _ _ _ (by (simp <;> omega))]
  · exact ((((((Below.refl _ _).alloc (Nat.le_refl _) _).alloc (by (simp <;> omega)) _).alloc (by (simp <;> omega)) _).alloc (by (simp <;> omega)) _).alloc (by (simp <;> omega)) _).alloc (by (simp <;> omega)) _
theorem RenewS.below {q : Gs} {now t : Int} {w w0 w1 : World} (h : RenewS q now t w w0) (hb : Below w0.heap.size w0 w1) : RenewS q now t w w1 :=
  ⟨(hb.block _ (lt_of_heap h.h0)).trans h.h0, (hb.block _ (lt_of_heap h.h1)).trans h.h1, (hb.block _ (lt_of_heap h.h2)).trans h.h2, (hb.block _ (lt_of_heap h.h3)).trans h.h3, (hb.block _ (lt_of_heap h.h4)).trans h.h4, (hb.block _ (lt_of_heap h.h5)).trans h.h5, h.b.trans (hb.mono h.b.size)⟩
theorem Tryz.infoFn : (Tryz.prog.info? 79).map (fun i => (i.zero, i.size, i.bytes)) = some (some .nilFunc, 1, 8) := by kernel_rfl
theorem own_block {w : World} {g n : Nat} {e : TypeId} {cs : Array Value} (h : w.heap[g]? = some (.cells cs e (0, 0))) (hn : cs.size = n) (hm : n ≤ maxLen) (base : Nat) (hb : base ≤ g) : w.ownsRow base e 1 (.slice (some ⟨g, 0, none⟩) n n) n cs.toList := by
  refine ⟨by simp [hn], .inr ⟨g, n, cs, rfl, hb, h, Nat.le_refl _, hm, by omega, ?_⟩⟩
  rw [List.take_of_length_le (by simp [hn])]
theorem own_cells {w : World} {base g n cap : Nat} {e : TypeId} {xs : List Value} (h : w.ownsRow base e 1 (.slice (some ⟨g, 0, none⟩) n cap) n xs) : (base ≤ g ∧ g < w.heap.size ∧ n ≤ cap) ∧ ∀ i u, xs[i]? = some u → w.cell? ⟨g, i, none⟩ = some u := by
  obtain ⟨hl, ⟨hr, _⟩ | ⟨g', cap', cur, hr, h1, h2, h3, h4, h5, h6⟩⟩ := h
  · cases hr
  · cases hr
    refine ⟨⟨h1, lt_of_heap h2, h3⟩, fun i u hu => ?_⟩
    rw [blk_cell h2 i]
    have hi : i < n := by have := (List.getElem?_eq_some_iff.1 hu).1; omega
    rw [← h6, List.getElem?_take, if_pos (by omega)] at hu
    simpa using hu
set_option maxRecDepth 100000 in
set_option maxHeartbeats 4000000 in
theorem renew_dead (F : Nat → Prop) (q : Gs) (L : Lst) (x now t : Int) (pa : ByteArray) (m st t0 : Int) (w : World) (h : GrAt F q L (some ⟨pa, m⟩) x w) (ho : L.o = some ⟨pa, m, st, t0⟩) (hr : ReqOK now 1 t) (hx : x ≤ now) :
    Calls Tryz.prog 14 #[.pointer (some ⟨q.g, 0, none⟩), .int .i64 now, .agg rootC, .int .i64 1, .int .i64 1, .int .i64 t, .bool true] w (fun e w' => e = .returned (.tuple #[.agg (gC 0 0 estr 0 (.slice none 0 0) 0), .int .i64 63]) ∧ Below w.heap.size w w') := by
  obtain ⟨iE, hiE, hz0, hz1, hz2⟩ := info_parts Tryz.infoFn
  obtain ⟨iG, hiG, hy0, hy1, hy2⟩ := info_parts Tryz.infoG
  obtain ⟨w0, hw0⟩ : ∃ w0, w0 = renewW q now t w := ⟨_, rfl⟩
  have hS := renewS q now t w
  rw [← hw0] at hS
  have HS := Lib.hid hS
  have H := Lib.hid (h.below hS.b)
  have HO := Lib.hid ho
  have HR := Lib.hid hr
  have HX := Lib.hid hx
  have hmf : ∀ (fn : Fn) (first cap : Array Value) (w : World), (Instr.makeFunc fn first cap).run Tryz.prog w = .ok (.func fn first cap) w := fun _ _ _ _ => rfl
  have c0 := blk_cell hS.h0 0
  have l0 := lt_of_heap hS.h5
  clear h ho hr hx hS
  unfold renewW rootC gC estr at hw0
  unfold rootC estr
  go_enter Tryz.func14, Tryz.ntmps14
  go_upto_region 1 with fail
  rw [← hw0]
  clear hw0
  go_wp2_with fail
  refine (held_any F q L ⟨pa, m, st, t0⟩ ⟨pa, m⟩ x _ H.out HO.out).mono ?_
  rintro e w1 ⟨sb, so, sc, rfl, hiv, hb1⟩
  have HS1 := Lib.hid (HS.out.below hb1)
  have HB1 := Lib.hid hb1
  have HIV1 := Lib.hid hiv
  have HH1 := Lib.hid (H.out.below hb1)
  clear hiv hb1 c0
  unfold hC
  go_upto_region 4 with fail
  generalize hw2 : World.alloc _ _ = w2
  have hb2 : Below w1.heap.size w1 w2 := by rw [← hw2]; exact below_two _ _ _
  have hx2 : w2.heap[w1.heap.size]? = some (.cells (hC pa m (.slice (some ⟨sb, so, none⟩) 1 sc) t0 x) 114 (0, 0)) := by rw [← hw2, heap_past _ _ _ (by simp)]; exact heap_at _ _ _ rfl
  have hy2 : w2.heap[w1.heap.size + 1]? = some (.cells #[.bool true] 4 (0, 0)) := by rw [← hw2]; exact heap_at _ _ _ (by simp)
  have hS2 := HS1.out.below hb2
  have HS2 := Lib.hid hS2
  have HX2 := Lib.hid hx2
  have HY2 := Lib.hid hy2
  have HZ2 := Lib.hid (show w2.heap.size = w1.heap.size + 2 by rw [← hw2]; simp)
  have HH2 := Lib.hid (HH1.out.below hb2)
  have HB2 := Lib.hid hb2
  have c0 := blk_cell hS2.h0 0
  have c1 := blk_cell hS2.h1 0
  have c3 := blk_cell hS2.h3 0
  have c4 := blk_cell hS2.h4 0
  have c5 := blk_cell hx2
  clear hw2 hb2 hx2 hy2 hS2
  unfold hC at c5
  go_upto_region 5 with (first
    | (refine wpList_load_row rfl 49 (.tmp 9) rfl (w.heap.size + 1 + 1) rfl 49 rootC (0, 0) _ HS2.out.h2 Tryz.underlying49 rfl (by kernel_rfl) ?_; unfold rootC estr))
  generalize hw3 : World.alloc _ _ = w3
  have hb3 : Below w2.heap.size w2 w3 := by rw [← hw3]; exact below_one _ _
  have hx3 : w3.heap[w2.heap.size]? = some (.cells (reqC now 1 t pa m) 90 (0, 0)) := by rw [← hw3]; exact heap_at _ _ _ rfl
  have hS3 := HS2.out.below hb3
  have HS3 := Lib.hid hS3
  have HX3 := Lib.hid hx3
  have HHx3 := Lib.hid ((hb3.block _ (lt_of_heap HX2.out)).trans HX2.out)
  have HY3 := Lib.hid ((hb3.block _ (lt_of_heap HY2.out)).trans HY2.out)
  have HB3 := Lib.hid hb3
  have c0 := blk_cell hS3.h0 0
  clear hw3 hb3 hx3 hS3 c1 c3 c4 c5
  go_upto_region 8 with (first
    | (refine wpList_load_row rfl 90 (.tmp 18) rfl w2.heap.size rfl 90 (reqC now 1 t pa m) (0, 0) _ HX3.out Tryz.underlying90 rfl (by kernel_rfl) ?_))
  generalize hw4 : World.alloc _ _ = w4
  have hb4 : Below w3.heap.size w3 w4 := by rw [← hw4]; exact below_one _ _
  have hx4 : w4.heap[w3.heap.size]? = some (.cells (((rnwL q now 1 t pa m (w1.heap.size + 1) w1.heap.size (w.heap.size + 1) (w.heap.size + 1 + 1 + 1) w.heap.size (w.heap.size + 1 + 1 + 1 + 1)).take 4).map FnV.val).toArray 79 (0, 0)) := by rw [← hw4]; exact heap_at _ _ _ rfl
  have hS4 := HS3.out.below hb4
  have HS4 := Lib.hid hS4
  have HX4 := Lib.hid ((hb4.block _ (lt_of_heap HX3.out)).trans HX3.out)
  have HL4 := Lib.hid hx4
  have HB4 := Lib.hid hb4
  have c0 := blk_cell hS4.h0 0
  clear hw4 hb4 hx4 hS4
  go_upto_region 10 with (first
    | (refine wpList_load_row rfl 90 (.tmp 18) rfl w2.heap.size rfl 90 (reqC now 1 t pa m) (0, 0) _ HX4.out Tryz.underlying90 rfl (by kernel_rfl) ?_)
    | (at_builtin; refine wpList_append_lies _ rfl (.tmp 55) (.tmp 62) _ rfl w3.heap.size 79 iE _ 1 8 Tryz.underlying117 hiE hz0 hz1 hz2 rfl (by omega) (.slice (some ⟨w3.heap.size, 0, none⟩) 4 4) 4 _ rfl (own_block ((heap_past _ _ _ (lt_of_heap HL4.out)).trans HL4.out) (by simp [rnwL]) (by unfold maxLen; omega) _ (Nat.le_refl _)) ⟨w4.heap.size, 0, none⟩ 3 3 (((rnwL q now 1 t pa m (w1.heap.size + 1) w1.heap.size (w.heap.size + 1) (w.heap.size + 1 + 1 + 1) w.heap.size (w.heap.size + 1 + 1 + 1 + 1)).drop 4).take 3 |>.map FnV.val) rfl rfl (World.news_of_block (heap_at w4 _ _ rfl)) (by simp [rnwL, FnV.val, Value.oneCell']) (by omega) (by unfold maxLen; omega) (by omega) (by simp; have := HB4.out.size; omega) _ rfl ?_; intro g6 cap6 w6 hown6 hgrow6 hat6 hlt6; have HOWN := Lib.hid hown6; have HG6 := Lib.hid hgrow6; have HLT6 := Lib.hid hlt6; clear hown6 hgrow6 hat6 hlt6))
  have hb6 : Below w3.heap.size w3 w6 := ((HB4.out.alloc (by have := HB4.out.size; omega) _).grown HG6.out (by simp; have := HB4.out.size; omega) (by intro k hk; cases hk; exact Nat.le_refl _))
  have HB6 := Lib.hid hb6
  have HS6 := Lib.hid (HS3.out.below hb6)
  clear hb6 c0
  go_upto_region 11 with (first
    | (at_builtin; refine wpList_append_lies _ rfl (.tmp 69) (.tmp 71) _ rfl w3.heap.size 79 iE _ 1 8 Tryz.underlying117 hiE hz0 hz1 hz2 rfl (by omega) (.slice (some ⟨g6, 0, none⟩) 7 cap6) 7 _ rfl (Ck8.ownsRow_keep HOWN.out (fun g hg => by cases hg; exact heap_past _ _ _ HLT6.out)) ⟨w6.heap.size, 0, none⟩ 1 1 [.func (.func 64) #[] #[.pointer (some ⟨w.heap.size, 0, none⟩), .pointer (some ⟨w.heap.size + 1 + 1 + 1 + 1, 0, none⟩)]] rfl rfl (World.news_of_block (heap_at w6 _ _ rfl)) (by simp [Value.oneCell']) (by omega) (by unfold maxLen; omega) (by omega) (by simp; have := HB6.out.size; omega) _ rfl ?_; intro g8 cap8 w8 hown8 hgrow8 hat8 hlt8; have HOWN8 := Lib.hid hown8; have HG8 := Lib.hid hgrow8; have HLT8 := Lib.hid hlt8; clear hown8 hgrow8 hat8 hlt8))
  have hb8 : Below w3.heap.size w3 w8 := ((HB6.out.alloc (by have := HB6.out.size; omega) _).grown HG8.out (by simp; have := HB6.out.size; omega) (by intro k hk; cases hk; exact (own_cells HOWN.out).1.1))
  obtain ⟨⟨hg81, hg82, hg83⟩, hcells⟩ := own_cells HOWN8.out
  have hS8 := HS3.out.below hb8
  have hA : RnwS q now t pa m x g8 (w1.heap.size + 1) w1.heap.size (w.heap.size + 1) (w.heap.size + 1 + 1 + 1) w.heap.size (w.heap.size + 1 + 1 + 1 + 1) w8 := by
    have l1 := lt_of_heap hS8.h5
    have l2 := Nat.lt_of_lt_of_le (lt_of_heap HY3.out) hb8.size
    refine ⟨fun i y hy => hcells i _ ?_, blk_cell ((hb8.block _ (lt_of_heap HY3.out)).trans HY3.out) 0, ⟨sb, so, sc, t0, blk_cell ((hb8.block _ (lt_of_heap HHx3.out)).trans HHx3.out)⟩, blk_cell hS8.h1 0, blk_cell hS8.h3 0, blk_cell hS8.h0 0, blk_cell hS8.h4 0, ⟨hg82, by omega, by omega, by omega, by omega, by omega, by omega⟩⟩
    have he : (rnwL q now 1 t pa m (w1.heap.size + 1) w1.heap.size (w.heap.size + 1) (w.heap.size + 1 + 1 + 1) w.heap.size (w.heap.size + 1 + 1 + 1 + 1)).map FnV.val = _ := rfl
    have hy2 := congrArg (Option.map FnV.val) hy
    rw [← List.getElem?_map] at hy2
    exact hy2
  have HA := Lib.hid hA
  have HB8 := Lib.hid hb8
  have HS8 := Lib.hid hS8
  have HC8 := Lib.hid hg83
  clear hA hb8 hS8 hcells hg81 hg82 hg83
  go_wp2_with fail
  refine (rnw_dead HA.out HR.out HX.out HC8.out).mono ?_
  rintro e w9 ⟨rfl, hb9⟩
  have HS9 := Lib.hid (HS8.out.below hb9)
  have l9 := lt_of_heap HS9.out.h5
  clear hb9
  go_wp2_with (first
    | (refine wpList_store_row rfl 45 (.tmp 14) (.tmp 77) rfl (w.heap.size + 1 + 1 + 1 + 1 + 1) (gC 0 0 estr 0 (.slice none 0 0) 0) rfl rfl 45 _ HS9.out.h5 (by kernel_rfl) rfl (gC_one _ _ _ _ _ _ _ _) ?_))
  refine bodyPost_ret (v := .tuple #[.agg (gC 0 0 estr 0 (.slice none 0 0) 0), .int .i64 63]) (results_cell_tmp2 (fn := Tryz.f14) rfl _ _ (w.heap.size + 1 + 1 + 1 + 1 + 1) 45 (gC 0 0 estr 0 (.slice none 0 0) 0) (0, 0) _ _ rfl rfl (setRow_heap _ _ _ _ _ _ HS9.out.h5) Tryz.underlying45 rfl (by kernel_rfl)) rfl ⟨rfl, below_row HS9.out.b (by omega) _⟩
end Go.Proofs.YtchdfogifhfclaaGreatDoor
namespace Go.Proofs.YtchdfogifhfclaaGreatDoor
open Go.RowKit Go.Maps Go.MapKept
open Go.ChangeMaps (setBlock)

def RenewOk (F : Nat → Prop) (q : Gs) (x now t : Int) (pa : ByteArray) (m : Int) (w : World) (e : Ending) (w' : World) : Prop := ∃ sb so sc, e = .returned (.tuple #[.agg (gC 1 1 pa m (.slice (some ⟨sb, so, none⟩) 1 sc) t), .int .i64 0]) ∧ Ck8.IntsV (fun k => w.heap.size ≤ k) w' (.slice (some ⟨sb, so, none⟩) 1 sc) [2] ∧ Within F q ⟨3, 3, t, some ⟨pa, m, 2, t⟩⟩ (some ⟨pa, m⟩) (max x (now + t)) w w'
set_option maxRecDepth 100000 in
set_option maxHeartbeats 8000000 in
theorem renew_ok (F : Nat → Prop) (q : Gs) (L : Lst) (x now t : Int) (pa : ByteArray) (m : Int) (w : World) (h : GrAt F q L (some ⟨pa, m⟩) x w) (ho : L.o = some ⟨pa, m, 1, t⟩) (ht : L = ⟨2, 2, t, some ⟨pa, m, 1, t⟩⟩) (hF : ∀ k, F k → k < w.heap.size) (hr : ReqOK now 1 t) (hp : pathOK pa = true) (hm : ModeB m = true) (hx : now < x) :
    Calls Tryz.prog 14 #[.pointer (some ⟨q.g, 0, none⟩), .int .i64 now, .agg rootC, .int .i64 1, .int .i64 1, .int .i64 t, .bool true] w (RenewOk F q x now t pa m w) := by
  obtain ⟨iE, hiE, hz0, hz1, hz2⟩ := info_parts Tryz.infoFn
  obtain ⟨iG, hiG, hy0, hy1, hy2⟩ := info_parts Tryz.infoG
  obtain ⟨w0, hw0⟩ : ∃ w0, w0 = renewW q now t w := ⟨_, rfl⟩
  have hS := renewS q now t w
  rw [← hw0] at hS
  have HS := Lib.hid hS
  have H := Lib.hid (h.below hS.b)
  have HO := Lib.hid ho
  have HR := Lib.hid hr
  have HX := Lib.hid hx
  have HP := Lib.hid hp
  have HM := Lib.hid hm
  have HT := Lib.hid ht
  have HF := Lib.hid hF
  have hmf : ∀ (fn : Fn) (first cap : Array Value) (w : World), (Instr.makeFunc fn first cap).run Tryz.prog w = .ok (.func fn first cap) w := fun _ _ _ _ => rfl
  have c0 := blk_cell hS.h0 0
  have l0 := lt_of_heap hS.h5
  clear h ho hr hx hp hm ht hF hS
  unfold renewW rootC gC estr at hw0
  unfold rootC estr
  go_enter Tryz.func14, Tryz.ntmps14
  go_upto_region 1 with fail
  rw [← hw0]
  clear hw0
  go_wp2_with fail
  refine (held_any F q L ⟨pa, m, 1, t⟩ ⟨pa, m⟩ x _ H.out HO.out).mono ?_
  rintro e w1 ⟨sb, so, sc, rfl, hiv, hb1⟩
  have HS1 := Lib.hid (HS.out.below hb1)
  have HB1 := Lib.hid hb1
  have HIV1 := Lib.hid hiv
  have HH1 := Lib.hid (H.out.below hb1)
  clear hiv hb1 c0
  unfold hC
  go_upto_region 4 with fail
  generalize hw2 : World.alloc _ _ = w2
  have hb2 : Below w1.heap.size w1 w2 := by rw [← hw2]; exact below_two _ _ _
  have hx2 : w2.heap[w1.heap.size]? = some (.cells (hC pa m (.slice (some ⟨sb, so, none⟩) 1 sc) t x) 114 (0, 0)) := by rw [← hw2, heap_past _ _ _ (by simp)]; exact heap_at _ _ _ rfl
  have hy2 : w2.heap[w1.heap.size + 1]? = some (.cells #[.bool true] 4 (0, 0)) := by rw [← hw2]; exact heap_at _ _ _ (by simp)
  have hS2 := HS1.out.below hb2
  have HS2 := Lib.hid hS2
  have HX2 := Lib.hid hx2
  have HY2 := Lib.hid hy2
  have HZ2 := Lib.hid (show w2.heap.size = w1.heap.size + 2 by rw [← hw2]; simp)
  have HH2 := Lib.hid (HH1.out.below hb2)
  have HB2 := Lib.hid hb2
  have c0 := blk_cell hS2.h0 0
  have c1 := blk_cell hS2.h1 0
  have c3 := blk_cell hS2.h3 0
  have c4 := blk_cell hS2.h4 0
  have c5 := blk_cell hx2
  clear hw2 hb2 hx2 hy2 hS2
  unfold hC at c5
  go_upto_region 5 with (first
    | (refine wpList_load_row rfl 49 (.tmp 9) rfl (w.heap.size + 1 + 1) rfl 49 rootC (0, 0) _ HS2.out.h2 Tryz.underlying49 rfl (by kernel_rfl) ?_; unfold rootC estr))
  generalize hw3 : World.alloc _ _ = w3
  have hb3 : Below w2.heap.size w2 w3 := by rw [← hw3]; exact below_one _ _
  have hx3 : w3.heap[w2.heap.size]? = some (.cells (reqC now 1 t pa m) 90 (0, 0)) := by rw [← hw3]; exact heap_at _ _ _ rfl
  have hS3 := HS2.out.below hb3
  have HS3 := Lib.hid hS3
  have HX3 := Lib.hid hx3
  have HHx3 := Lib.hid ((hb3.block _ (lt_of_heap HX2.out)).trans HX2.out)
  have HY3 := Lib.hid ((hb3.block _ (lt_of_heap HY2.out)).trans HY2.out)
  have HB3 := Lib.hid hb3
  have c0 := blk_cell hS3.h0 0
  clear hw3 hb3 hx3 hS3 c1 c3 c4 c5
  go_upto_region 8 with (first
    | (refine wpList_load_row rfl 90 (.tmp 18) rfl w2.heap.size rfl 90 (reqC now 1 t pa m) (0, 0) _ HX3.out Tryz.underlying90 rfl (by kernel_rfl) ?_))
  generalize hw4 : World.alloc _ _ = w4
  have hb4 : Below w3.heap.size w3 w4 := by rw [← hw4]; exact below_one _ _
  have hx4 : w4.heap[w3.heap.size]? = some (.cells (((rnwL q now 1 t pa m (w1.heap.size + 1) w1.heap.size (w.heap.size + 1) (w.heap.size + 1 + 1 + 1) w.heap.size (w.heap.size + 1 + 1 + 1 + 1)).take 4).map FnV.val).toArray 79 (0, 0)) := by rw [← hw4]; exact heap_at _ _ _ rfl
  have hS4 := HS3.out.below hb4
  have HS4 := Lib.hid hS4
  have HX4 := Lib.hid ((hb4.block _ (lt_of_heap HX3.out)).trans HX3.out)
  have HL4 := Lib.hid hx4
  have HB4 := Lib.hid hb4
  have c0 := blk_cell hS4.h0 0
  clear hw4 hb4 hx4 hS4
  go_upto_region 10 with (first
    | (refine wpList_load_row rfl 90 (.tmp 18) rfl w2.heap.size rfl 90 (reqC now 1 t pa m) (0, 0) _ HX4.out Tryz.underlying90 rfl (by kernel_rfl) ?_)
    | (at_builtin; refine wpList_append_lies _ rfl (.tmp 55) (.tmp 62) _ rfl w3.heap.size 79 iE _ 1 8 Tryz.underlying117 hiE hz0 hz1 hz2 rfl (by omega) (.slice (some ⟨w3.heap.size, 0, none⟩) 4 4) 4 _ rfl (own_block ((heap_past _ _ _ (lt_of_heap HL4.out)).trans HL4.out) (by simp [rnwL]) (by unfold maxLen; omega) _ (Nat.le_refl _)) ⟨w4.heap.size, 0, none⟩ 3 3 (((rnwL q now 1 t pa m (w1.heap.size + 1) w1.heap.size (w.heap.size + 1) (w.heap.size + 1 + 1 + 1) w.heap.size (w.heap.size + 1 + 1 + 1 + 1)).drop 4).take 3 |>.map FnV.val) rfl rfl (World.news_of_block (heap_at w4 _ _ rfl)) (by simp [rnwL, FnV.val, Value.oneCell']) (by omega) (by unfold maxLen; omega) (by omega) (by simp; have := HB4.out.size; omega) _ rfl ?_; intro g6 cap6 w6 hown6 hgrow6 hat6 hlt6; have HOWN := Lib.hid hown6; have HG6 := Lib.hid hgrow6; have HLT6 := Lib.hid hlt6; clear hown6 hgrow6 hat6 hlt6))
  have hb6 : Below w3.heap.size w3 w6 := ((HB4.out.alloc (by have := HB4.out.size; omega) _).grown HG6.out (by simp; have := HB4.out.size; omega) (by intro k hk; cases hk; exact Nat.le_refl _))
  have HB6 := Lib.hid hb6
  have HS6 := Lib.hid (HS3.out.below hb6)
  clear hb6 c0
  go_upto_region 11 with (first
    | (at_builtin; refine wpList_append_lies _ rfl (.tmp 69) (.tmp 71) _ rfl w3.heap.size 79 iE _ 1 8 Tryz.underlying117 hiE hz0 hz1 hz2 rfl (by omega) (.slice (some ⟨g6, 0, none⟩) 7 cap6) 7 _ rfl (Ck8.ownsRow_keep HOWN.out (fun g hg => by cases hg; exact heap_past _ _ _ HLT6.out)) ⟨w6.heap.size, 0, none⟩ 1 1 [.func (.func 64) #[] #[.pointer (some ⟨w.heap.size, 0, none⟩), .pointer (some ⟨w.heap.size + 1 + 1 + 1 + 1, 0, none⟩)]] rfl rfl (World.news_of_block (heap_at w6 _ _ rfl)) (by simp [Value.oneCell']) (by omega) (by unfold maxLen; omega) (by omega) (by simp; have := HB6.out.size; omega) _ rfl ?_; intro g8 cap8 w8 hown8 hgrow8 hat8 hlt8; have HOWN8 := Lib.hid hown8; have HG8 := Lib.hid hgrow8; have HLT8 := Lib.hid hlt8; clear hown8 hgrow8 hat8 hlt8))
  have hb8 : Below w3.heap.size w3 w8 := ((HB6.out.alloc (by have := HB6.out.size; omega) _).grown HG8.out (by simp; have := HB6.out.size; omega) (by intro k hk; cases hk; exact (own_cells HOWN.out).1.1))
  obtain ⟨⟨hg81, hg82, hg83⟩, hcells⟩ := own_cells HOWN8.out
  have hS8 := HS3.out.below hb8
  have hA : RnwS q now t pa m x g8 (w1.heap.size + 1) w1.heap.size (w.heap.size + 1) (w.heap.size + 1 + 1 + 1) w.heap.size (w.heap.size + 1 + 1 + 1 + 1) w8 := by
    have l1 := lt_of_heap hS8.h5
    have l2 := Nat.lt_of_lt_of_le (lt_of_heap HY3.out) hb8.size
    refine ⟨fun i y hy => hcells i _ ?_, blk_cell ((hb8.block _ (lt_of_heap HY3.out)).trans HY3.out) 0, ⟨sb, so, sc, t, blk_cell ((hb8.block _ (lt_of_heap HHx3.out)).trans HHx3.out)⟩, blk_cell hS8.h1 0, blk_cell hS8.h3 0, blk_cell hS8.h0 0, blk_cell hS8.h4 0, ⟨hg82, by omega, by omega, by omega, by omega, by omega, by omega⟩⟩
    have he : (rnwL q now 1 t pa m (w1.heap.size + 1) w1.heap.size (w.heap.size + 1) (w.heap.size + 1 + 1 + 1) w.heap.size (w.heap.size + 1 + 1 + 1 + 1)).map FnV.val = _ := rfl
    have hy2 := congrArg (Option.map FnV.val) hy
    rw [← List.getElem?_map] at hy2
    exact hy2
  have HA := Lib.hid hA
  have HB8 := Lib.hid hb8
  have HS8 := Lib.hid hS8
  have HC8 := Lib.hid hg83
  clear hA hb8 hS8 hcells hg81 hg82 hg83
  go_wp2_with fail
  refine (rnw_ok HA.out (((HH2.out.below HB3.out).below HB8.out)) HR.out HP.out HM.out (by rw [HT.out]; show (2 : Int) ≤ 3; decide) (by rw [HT.out]; exact Int.le_refl _) HX.out HC8.out).mono ?_
  rintro e w9 ⟨rfl, hb9⟩
  have HS9 := Lib.hid (HS8.out.below hb9)
  have HB9 := Lib.hid (show Below w.heap.size w w9 from HS9.out.b)
  have HB98 := Lib.hid hb9
  have HG9 := Lib.hid (show GrAt F q L (some ⟨pa, m⟩) x w9 from ((HH2.out.below HB3.out).below HB8.out).below hb9)
  obtain rfl := HT.out
  have HBK := Lib.hid HG9.out.book
  have c9 := blk_cell HS9.out.h0 0
  have g9 := blk_cell HG9.out.head
  have l9 := lt_of_heap HS9.out.h5
  have lg := lt_of_heap HG9.out.head
  clear hb9
  unfold headC at g9
  go_wp2_with fail
  have c9 := blk_cell HS9.out.h0
  have c2 := blk_cell HS9.out.h2
  unfold rootC estr at c2
  go_region_held_law (fun u => (∀ i, u.cell? ⟨w.heap.size, i, none⟩ = #[Value.pointer (some ⟨q.g, 0, none⟩)][i]?) ∧ (∀ i, u.cell? ⟨q.g, i, none⟩ = #[Value.pointer (some ⟨q.lp, 0, none⟩), .pointer (some ⟨q.sp, 0, none⟩), .map (some q.nm), .int .i64 0][i]?) ∧ (∀ i, u.cell? ⟨w.heap.size + 1 + 1, i, none⟩ = #[Value.int .i64 0, .int .i64 0, .string ⟨#[]⟩, .int .i64 2, .slice none 0 0, .int .i64 0, .int .i64 0, .int .i64 4611686018427387904, .bool false][i]?)) ((go_split_ands; refine ⟨?_, ?_, ?_⟩ <;> (repeat (first | (with_reducible assumption) | (with_reducible refine cells_drew ?_))))) (first
    | (go_simp; go_at_call 26; (refine (GrAt.book (HG9.out.below (Ck8.below_drew w9))).mono ?_); rintro e w10 ⟨gs, rfl, hgs, hb10⟩; have HB10 := Lib.hid (below_step (Ck8.below_drew w9) hb10); have hfb := Tryz.fieldB 2 0 t gs w10; have q0 := blk_cell ((HB10.out.block _ (lt_of_heap HS9.out.h0)).trans HS9.out.h0); have q1 := blk_cell ((HB10.out.block _ (lt_of_heap HG9.out.head)).trans HG9.out.head); have q2 := blk_cell ((HB10.out.block _ (lt_of_heap HS9.out.h2)).trans HS9.out.h2); unfold headC at q1; unfold rootC estr at q2; clear hb10 hgs; unfold bV)
    | (go_simp; go_at_call 46; (refine (extended_any 2 _ (by omega)).mono ?_); rintro e w11 ⟨eb, ec, rfl, hi11, hb11⟩; have HI11 := Lib.hid hi11; have HB11 := Lib.hid (below_step HB10.out hb11); have r0 := blk_cell ((HB11.out.block _ (lt_of_heap HS9.out.h0)).trans HS9.out.h0); have r1 := blk_cell ((HB11.out.block _ (lt_of_heap HG9.out.head)).trans HG9.out.head); have r2 := blk_cell ((HB11.out.block _ (lt_of_heap HS9.out.h2)).trans HS9.out.h2); unfold headC at r1; unfold rootC estr at r2; clear hb11 hi11))
  have HS11 := Lib.hid (HS9.out.below HB11.out)
  have hg11 := HG9.out.below HB11.out
  obtain ⟨FL, hled, hsub, hup⟩ := hg11.led
  have HUP := Lib.hid (hup ⟨3, 3, t, some ⟨pa, m, 2, t⟩⟩)
  have HSUB := Lib.hid hsub
  have HG11 := Lib.hid hg11
  have hmm : m = 1 ∨ m = 2 := by have := HM.out; unfold ModeB at this; simpa using this
  have HAP := Lib.hid (show Calls Tryz.prog 47 #[.pointer (some ⟨q.lp, 0, none⟩), .agg #[.int .i64 5, .int .i64 0, .int .i64 0, .string ⟨#[]⟩, .int .i64 0, .slice none 0 0, .int .i64 0, .int .i64 1, .slice (some ⟨eb, 0, none⟩) 1 ec, .int .i64 0, .int .i64 0, .int .i64 0]] w11 (AppPost FL q.lp q.d q.s 3 3 t (some ⟨pa, m, 2, t⟩) w11) from
    append_fresh FL _ q.lp q.d q.s 2 t pa m t (.slice (some ⟨eb, 0, none⟩) 1 ec) w11 hled (by omega) HR.out.t ⟨HP.out, hmm, (by show (1 : Int) ≤ 1 ∧ (1 : Int) ≤ 2; decide), HR.out.t⟩ HI11.out)
  have c9 := blk_cell HS11.out.h0
  have g9 := blk_cell HG11.out.head
  have l9 := lt_of_heap HS11.out.h5
  have lg := lt_of_heap HG11.out.head
  clear hg11 hled hsub hup c2 hmm
  unfold headC at g9
  go_wp2_with fail
  refine HAP.out.mono ?_
  rintro e w12 ⟨rfl, hl12, hm12⟩
  have HM12 := Lib.hid hm12
  have hg12 := HUP.out w12 hl12 hm12
  have HG12 := Lib.hid hg12
  have HS12 := Lib.hid (show (w12.heap[w.heap.size]? = some (.cells #[.pointer (some ⟨q.g, 0, none⟩)] 36 (0, 0))) ∧ (w12.heap[w.heap.size + 1]? = some (.cells #[.int .i64 now] 3 (0, 0))) ∧ (w12.heap[w.heap.size + 1 + 1 + 1 + 1]? = some (.cells #[.int .i64 t] 3 (0, 0))) ∧ (w12.heap[w.heap.size + 1 + 1 + 1 + 1 + 1]? = some (.cells (gC 0 0 estr 0 (.slice none 0 0) 0) 45 (0, 0))) ∧ w12.heap[w1.heap.size]? = some (.cells (hC pa m (.slice (some ⟨sb, so, none⟩) 1 sc) t x) 114 (0, 0)) from by
    have hout : ∀ k, w.heap.size ≤ k → ¬ FL k := fun k hk hf => by have := HF.out k (HSUB.out k hf).1; omega
    have hk : ∀ k o, w.heap.size ≤ k → w11.heap[k]? = some o → w12.heap[k]? = some o := fun k o hk h => (hm12.block k (lt_of_heap h) (hout k hk)).trans h
    have hw1 : w.heap.size ≤ w1.heap.size := HS1.out.b.size
    refine ⟨hk _ _ (by omega) HS11.out.h0, hk _ _ (by omega) HS11.out.h1, hk _ _ (by omega) HS11.out.h4, hk _ _ (by omega) HS11.out.h5, hk _ _ hw1 ?_⟩
    have hb39 := (HB8.out.block _ (lt_of_heap HHx3.out)).trans HHx3.out
    exact (HB11.out.block _ (lt_of_heap ((HB98.out.block _ (lt_of_heap hb39)).trans hb39))).trans ((HB98.out.block _ (lt_of_heap hb39)).trans hb39))
  have c0 := blk_cell HS12.out.1
  have c1 := blk_cell HS12.out.2.1
  have c4 := blk_cell HS12.out.2.2.1
  have g12 := blk_cell HG12.out.1.head
  have hnote : w12.heap[q.nm]? = some (.map #[⟨.int .i64 1, noteV x, 0⟩] 1) := HG12.out.1.note
  have hl1 := mlook_one (w := w12) (int_keyed Tryz.underlying3) Tryz.underlying82 hnote (keyI (x := 1) (by omega)) false
  have hwr : IntKind.i64.wrap (now + t) = now + t := by
    have h1 := HR.out.now
    have h2 := HR.out.t
    rw [IntKind.wrap_i64]; omega
  have HN12 := Lib.hid hnote
  have lA := lt_of_heap HS12.out.1
  have lB := lt_of_heap HS12.out.2.1
  have lC := lt_of_heap HS12.out.2.2.1
  have lD := lt_of_heap HG12.out.1.head
  clear hl12 hm12 hg12 hnote c9 g9
  unfold noteV at hl1
  unfold headC at g12
  go_upto_region 21 with fail
  obtain ⟨X, hX⟩ : ∃ X, X = max x (now + t) := ⟨_, rfl⟩
  rw [← hX]
  obtain ⟨w13, hw13⟩ : ∃ w13, w13 = w12.alloc (.cells #[.int .i64 X, .int .i64 0, .int .i64 0] 119) := ⟨_, rfl⟩
  have hb13 : Below w12.heap.size w12 w13 := by rw [hw13]; exact below_one _ _
  have hx13 : w13.heap[w12.heap.size]? = some (.cells #[.int .i64 X, .int .i64 0, .int .i64 0] 119 (0, 0)) := by rw [hw13]; exact heap_at _ _ _ rfl
  have HB13 := Lib.hid hb13
  have HG13 := Lib.hid (HG12.out.1.below hb13)
  have hnm := (hb13.block _ (lt_of_heap HN12.out)).trans HN12.out
  have hu := mupd_one (w := w13.drew) (v := noteV X) (int_keyed Tryz.underlying3) Tryz.underlying82 (show w13.drew.heap[q.nm]? = _ from hnm) (keyI (x := 1) (by omega))
  have r0 := blk_cell ((hb13.block _ (lt_of_heap HS12.out.1)).trans HS12.out.1)
  have r1 := blk_cell HG13.out.head
  have r2 := blk_cell hx13
  have lnm := lt_of_heap HN12.out
  have hne : w.heap.size ≠ q.nm := by
    intro e
    have h1 := HN12.out
    rw [← e, HS12.out.1] at h1
    cases h1
  have R0 := Lib.hid (fun o i => show (setBlock w13.drew q.nm o).cell? ⟨w.heap.size, i, none⟩ = _ from (cell_set hne).trans (r0 i))
  have R1 := Lib.hid (fun o i => show (setBlock w13.drew q.nm o).cell? ⟨q.g, i, none⟩ = _ from (cell_set HG13.out.own.2.2).trans (r1 i))
  have R2 := Lib.hid (fun o i => show (setBlock w13.drew q.nm o).cell? ⟨w12.heap.size, i, none⟩ = _ from (cell_set (by omega)).trans (r2 i))
  have HX := Lib.hid hX
  unfold headC at r1 R1
  unfold noteV at hu
  rw [← hw13]
  clear hw13 hb13 hx13 hnm hl1 c0 c1 c4 g12 hX hne
  go_region_held_law (fun u => (∀ i, u.cell? ⟨w.heap.size, i, none⟩ = #[Value.pointer (some ⟨q.g, 0, none⟩)][i]?) ∧ (∀ i, u.cell? ⟨q.g, i, none⟩ = #[Value.pointer (some ⟨q.lp, 0, none⟩), .pointer (some ⟨q.sp, 0, none⟩), .map (some q.nm), .int .i64 0][i]?) ∧ (∀ i, u.cell? ⟨w12.heap.size, i, none⟩ = #[Value.int .i64 X, Value.int .i64 0, Value.int .i64 0][i]?)) (first | exact ⟨r0, r1, r2⟩ | exact ⟨R0.out _, R1.out _, R2.out _⟩) (fail)
  obtain ⟨w14, hw14⟩ : ∃ w14, w14 = setBlock w13.drew q.nm (.map #[⟨.int .i64 1, .agg #[.int .i64 X, .int .i64 0, .int .i64 0], 0⟩] 1) := ⟨_, rfl⟩
  have hz14 : w14.heap.size = w13.heap.size := by rw [hw14, set_size]; rfl
  have hk14 : ∀ k o, k < w13.heap.size → w13.heap[k]? = some o → k ≠ q.nm → w14.heap[k]? = some o := fun k o _ hk hne => by rw [hw14, set_other hne]; exact hk
  have HG14 := Lib.hid (show GrAt (Up F w11) q ⟨3, 3, t, some ⟨pa, m, 2, t⟩⟩ (some ⟨pa, m⟩) X w14 by rw [hw14]; exact (HG13.out.below (Ck8.below_drew w13)).renote X 1 rfl)
  have HM14 := Lib.hid (show Mod F w w14 by
    rw [hw14]
    exact Mod.set ((((Mod.of_below (F := F) HS11.out.b).trans HG12.out.2 (fun _ _ f => f)).below HB13.out).drew) (fun _ => H.out.own.2.1) _)
  have hmapne : ∀ k cs ty fr, w12.heap[k]? = some (.cells cs ty fr) → k ≠ q.nm := by
    intro k cs ty fr hk e
    rw [e, HN12.out] at hk
    cases hk
  have hX14 : w14.heap[w1.heap.size]? = some (.cells (hC pa m (.slice (some ⟨sb, so, none⟩) 1 sc) t x) 114 (0, 0)) := hk14 _ _ (Nat.lt_of_lt_of_le (lt_of_heap HS12.out.2.2.2.2) HB13.out.size) ((HB13.out.block _ (lt_of_heap HS12.out.2.2.2.2)).trans HS12.out.2.2.2.2) (hmapne _ _ _ _ HS12.out.2.2.2.2)
  have hR14 : w14.heap[w.heap.size + 1 + 1 + 1 + 1 + 1]? = some (.cells (gC 0 0 estr 0 (.slice none 0 0) 0) 45 (0, 0)) := hk14 _ _ (Nat.lt_of_lt_of_le (lt_of_heap HS12.out.2.2.2.1) HB13.out.size) ((HB13.out.block _ (lt_of_heap HS12.out.2.2.2.1)).trans HS12.out.2.2.2.1) (hmapne _ _ _ _ HS12.out.2.2.2.1)
  have s0 : w14.cell? ⟨w.heap.size, 0, none⟩ = some (.pointer (some ⟨q.g, 0, none⟩)) := by rw [hw14]; exact R0.out _ 0
  have HX14 := Lib.hid hX14
  have HR14 := Lib.hid hR14
  have l14 := lt_of_heap HR14.out
  rw [← hw14]
  have HLT14 := Lib.hid (show w11.heap.size ≤ w14.heap.size from Nat.le_trans HG12.out.2.size (Nat.le_trans HB13.out.size (by rw [hz14]; exact Nat.le_refl _)))
  clear hw14 hz14 hk14 hmapne hX14 hR14 r0 r1 r2 hu
  go_wp2_with fail
  refine (held_any (Up F w11) q ⟨3, 3, t, some ⟨pa, m, 2, t⟩⟩ ⟨pa, m, 2, t⟩ ⟨pa, m⟩ X _ HG14.out rfl).mono ?_
  rintro e w15 ⟨sb2, so2, sc2, rfl, hiv, hb15⟩
  have HIV15 := Lib.hid hiv
  have HB15 := Lib.hid hb15
  have HX15 := Lib.hid ((hb15.block _ (lt_of_heap HX14.out)).trans HX14.out)
  have HR15 := Lib.hid ((hb15.block _ (lt_of_heap HR14.out)).trans HR14.out)
  have HNE := Lib.hid (show w.heap.size + 1 + 1 + 1 + 1 + 1 ≠ w1.heap.size by have := HS1.out.b.size; have := lt_of_heap HS1.out.h5; omega)
  have hl15 := lt_of_heap HX15.out
  have hl16 := lt_of_heap HR15.out
  clear hiv hb15 s0
  go_wp2_with (first
    | (refine wpList_store_row rfl 114 (.tmp 16) (.tmp 123) rfl w1.heap.size (hC pa m (.slice (some ⟨sb2, so2, none⟩) 1 sc2) t X) rfl rfl 114 _ HX15.out (by kernel_rfl) rfl (hC_one _ _ _ _ _ _ _) ?_; obtain ⟨w16, hw16⟩ : ∃ w16, w16 = w15.setRow w1.heap.size (hC pa m (.slice (some ⟨sb2, so2, none⟩) 1 sc2) t X) := ⟨_, rfl⟩; rw [← hw16]; have HW16 := Lib.hid hw16; have k16 := blk_cell (show w16.heap[w1.heap.size]? = some (.cells (hC pa m (.slice (some ⟨sb2, so2, none⟩) 1 sc2) t X) 114 (0, 0)) by rw [hw16]; exact setRow_heap _ _ _ _ _ _ HX15.out); have HR16 := Lib.hid (show w16.heap[w.heap.size + 1 + 1 + 1 + 1 + 1]? = some (.cells (gC 0 0 estr 0 (.slice none 0 0) 0) 45 (0, 0)) by rw [hw16, setRow_other w15 _ _ _ HNE.out]; exact HR15.out); have hl17 := lt_of_heap HR16.out; clear hw16; unfold hC at k16)
    | (refine wpList_store_row rfl 45 (.tmp 14) (.tmp 126) rfl (w.heap.size + 1 + 1 + 1 + 1 + 1) (gC 1 1 pa m (.slice (some ⟨sb2, so2, none⟩) 1 sc2) t) rfl rfl 45 _ HR16.out (by kernel_rfl) rfl (gC_one _ _ _ _ _ _ _ _) ?_))
  have hsz11 : w.heap.size + 1 + 1 + 1 + 1 + 1 < w11.heap.size := lt_of_heap HS11.out.h5
  have hsz1 : w.heap.size ≤ w1.heap.size ∧ w1.heap.size < w11.heap.size := ⟨HS1.out.b.size, Nat.lt_of_lt_of_le (lt_of_heap HHx3.out) (Nat.le_trans HB8.out.size (Nat.le_trans HB98.out.size HB11.out.size))⟩
  have hlt14 := HLT14.out
  have hlt15 := HB15.out.size
  refine bodyPost_ret (v := .tuple #[.agg (gC 1 1 pa m (.slice (some ⟨sb2, so2, none⟩) 1 sc2) t), .int .i64 0]) (results_cell_tmp2 (fn := Tryz.f14) rfl _ _ (w.heap.size + 1 + 1 + 1 + 1 + 1) 45 (gC 1 1 pa m (.slice (some ⟨sb2, so2, none⟩) 1 sc2) t) (0, 0) _ _ rfl rfl (setRow_heap _ _ _ _ _ _ HR16.out) Tryz.underlying45 rfl (by kernel_rfl)) rfl ⟨sb2, so2, sc2, rfl, ?_, ?_⟩
  · refine (HIV15.out.keep (fun k hk hd => ?_) (by rw [setRow_size, HW16.out, setRow_size]; exact Nat.le_refl _)).mono (fun k _ hd => ?_)
    · have hd : w14.heap.size ≤ k := hd
      rw [setRow_other w16 _ k _ (by omega), HW16.out, setRow_other w15 _ k _ (by omega)]
    · have hd : w14.heap.size ≤ k := hd
      show w.heap.size ≤ k
      omega
  · have hs : (w16.setRow (w.heap.size + 1 + 1 + 1 + 1 + 1) (gC 1 1 pa m (.slice (some ⟨sb2, so2, none⟩) 1 sc2) t)).heap.size = w15.heap.size := by rw [setRow_size, HW16.out, setRow_size]
    have ho : ∀ k, k ≠ w1.heap.size → k ≠ w.heap.size + 1 + 1 + 1 + 1 + 1 → (w16.setRow (w.heap.size + 1 + 1 + 1 + 1 + 1) (gC 1 1 pa m (.slice (some ⟨sb2, so2, none⟩) 1 sc2) t)).heap[k]? = w15.heap[k]? := fun k h1 h2 => by rw [setRow_other w16 _ k _ h2, HW16.out, setRow_other w15 _ k _ h1]
    obtain rfl := HX.out
    refine ⟨((HG14.out.below HB15.out).keep (fun k hk hf => ?_) (by rw [hs]; exact Nat.le_refl _)).mono (up_back HS11.out.b.size), ?_⟩
    · rcases hf with hf | hf
      · have := HF.out _ hf
        exact ho k (by omega) (by omega)
      · have hf : w11.heap.size ≤ k := hf
        exact ho k (by omega) (by omega)
    · have hm := HM14.out.below HB15.out
      have e16 := HW16.out
      exact ⟨by rw [e16]; exact hm.os, by rw [e16]; exact hm.tape, by rw [e16]; exact hm.output, by rw [hs]; exact hm.size, fun k hk hf => (ho k (by omega) (by omega)).trans (hm.block k hk hf)⟩
end Go.Proofs.YtchdfogifhfclaaGreatDoor
namespace Go.Proofs.YtchdfogifhfclaaGreatDoor
open Go.RowKit Go.Maps Go.MapKept
open Go.ChangeMaps (setBlock)

def GrNew (FL : Nat → Prop) (lp d s : Nat) (w : World) (e : Ending) (w' : World) : Prop := ∃ q : Gs, e = .returned (.tuple #[.pointer (some ⟨q.g, 0, none⟩), .int .i64 0]) ∧ q.lp = lp ∧ q.d = d ∧ q.s = s ∧ GrAt (Up FL w) q ⟨0, 1, 0, none⟩ none 0 w' ∧ Below w.heap.size w w'
/-- The new parts, in whichever order they were made. -/
structure GrnS (w1 : World) (sp nm : Nat) (w2 : World) : Prop where
  set : SetAt (fun k => w1.heap.size ≤ k ∧ k ≠ nm) sp none w2
  note : w2.heap[nm]? = some (.map #[] 0)
  new : w1.heap.size ≤ nm
  b : Below w1.heap.size w1 w2
theorem GrnS.one {w1 w2 : World} {sp : Nat} (hs : SetAt (fun k => w1.heap.size ≤ k) sp none w2) (hb : Below w1.heap.size w1 w2) : GrnS w1 sp w2.heap.size (w2.alloc (.map #[] 0)) :=
  ⟨SetAt.mono (F := fun k => w1.heap.size ≤ k ∧ k < w2.heap.size) ((hs.mono (fun k hk hf => ⟨hf, hk⟩)).keep (fun k hk _ => heap_past _ _ _ hk)) (fun k _ hf => ⟨hf.1, by omega⟩), heap_at _ _ _ rfl, hb.size, below_step hb (below_one _ _)⟩
theorem GrnS.two {w1 w2 : World} {sp : Nat} (hs : SetAt (fun k => (w1.alloc (.map #[] 0)).heap.size ≤ k) sp none w2) (hb : Below (w1.alloc (.map #[] 0)).heap.size (w1.alloc (.map #[] 0)) w2) : GrnS w1 sp w1.heap.size w2 :=
  ⟨hs.mono (fun k _ hf => by have hf : (w1.alloc (.map #[] 0)).heap.size ≤ k := hf; simp at hf; exact ⟨by omega, by omega⟩), (hb.block _ (by simp)).trans (heap_at _ _ _ rfl), Nat.le_refl _, below_step (below_one _ _) hb⟩
theorem GrnS.drew {w1 w2 : World} {sp nm : Nat} (h : GrnS w1.drew sp nm w2) : GrnS w1 sp nm w2 := ⟨h.set, h.note, h.new, below_step (Ck8.below_drew w1) h.b⟩
theorem GrnS.grat {FL : Nat → Prop} {w w1 w2 : World} {lp d s sp nm : Nat} (h : GrnS w1 sp nm w2) (hw : Below w.heap.size w w1) (hl : LedAt FL lp d s 0 1 0 none w) (hF : ∀ k, FL k → k < w.heap.size) :
    GrAt (Up FL w) ⟨w2.heap.size, lp, sp, nm, d, s⟩ ⟨0, 1, 0, none⟩ none 0 (w2.alloc (.cells (headC ⟨w2.heap.size, lp, sp, nm, d, s⟩) 84)) := by
  have h1 := hw.size
  have h2 := h.b.size
  have h3 := lt_of_heap h.note
  have h4 := h.new
  refine ⟨heap_at _ _ _ rfl, (heap_past _ _ _ (lt_of_heap h.note)).trans h.note, ⟨.inr (by show w.heap.size ≤ w2.heap.size; omega), .inr (Nat.le_trans h1 h.new), by show w2.heap.size ≠ nm; omega⟩, FL, fun k => (w1.heap.size ≤ k ∧ k ≠ nm) ∧ k < w2.heap.size, ?_, ?_, ?_, ?_⟩
  · exact hl.below (below_step (below_step hw h.b) (below_one _ _))
  · exact (h.set.mono (fun k hk hf => ⟨hf, hk⟩)).keep (fun k hk _ => heap_past _ _ _ hk)
  · intro k hf
    have := hF k hf
    refine ⟨by simp; omega, .inl hf, by show k ≠ w2.heap.size; omega, by show k ≠ nm; omega, fun hh => by omega⟩
  · intro k hf
    refine ⟨by simp; omega, .inr (by show w.heap.size ≤ k; omega), by show k ≠ w2.heap.size; omega, hf.1.2⟩
set_option maxRecDepth 100000 in
set_option maxHeartbeats 4000000 in
theorem openG_any (FL : Nat → Prop) (lp d s : Nat) (w : World) (hl : LedAt FL lp d s 0 1 0 none w) (hF : ∀ k, FL k → k < w.heap.size) :
    Calls Tryz.prog 7 #[.pointer (some ⟨lp, 0, none⟩), .int .i64 0] w (GrNew FL lp d s w) := by
  have hmm := @run_makeMap Tryz.prog
  have HL := Lib.hid hl
  have HF := Lib.hid hF
  clear hl hF
  go_enter Tryz.func7, Tryz.ntmps7
  go_wp2_with fail
  refine (isTime_any 0 _ (by omega)).mono ?_
  rintro e w1 ⟨rfl, rfl⟩
  go_wp2_with fail
  refine (ledBook_none FL lp d s 0 1 0 _ HL.out).mono ?_
  rintro e w1 ⟨gs, rfl, hgs, hb1⟩
  obtain rfl : gs = .slice none 0 0 := hgs
  have HB1 := Lib.hid hb1
  clear hb1
  unfold bV
  go_wp2_with fail
  obtain ⟨w2, hw2⟩ : ∃ w2, w2 = w1.alloc (.cells #[.int .i64 1, .int .i64 0, .int .i64 0, .slice none 0 0] 72) := ⟨_, rfl⟩
  have hb2 : Below w1.heap.size w1 w2 := by rw [hw2]; exact below_one _ _
  have hx2 : w2.heap[w1.heap.size]? = some (.cells #[.int .i64 1, .int .i64 0, .int .i64 0, .slice none 0 0] 72 (0, 0)) := by rw [hw2]; exact heap_at _ _ _ rfl
  rw [← hw2]
  have HB2 := Lib.hid (below_step HB1.out hb2)
  have HX2 := Lib.hid hx2
  have c2 := blk_cell hx2
  have l2 := lt_of_heap hx2
  have hw0 : IntKind.i64.wrap 0 = 0 := by rw [IntKind.wrap_i64]; omega
  clear hw2 hb2 hx2
  go_region_held_law (fun u => (∀ i, u.cell? ⟨w1.heap.size, i, none⟩ = #[Value.int .i64 1, Value.int .i64 0, Value.int .i64 0, Value.slice none 0 0][i]?)) ((refine ?_; (repeat (first | (with_reducible assumption) | (with_reducible refine cells_drew ?_) | (with_reducible refine cells_alloc ?_ (by first | assumption | omega | (simp; omega)) _))))) (first
    | (go_simp; go_at_call 27; (refine (newSet_any _).mono ?_); rintro e w5 ⟨sp, rfl, hs5, hb5⟩; first
        | (have hchk : Below w2.drew.heap.size w2.drew w5 := hb5; have q0 := blk_cell ((hchk.block _ l2).trans (show w2.drew.heap[w1.heap.size]? = _ from HX2.out)); have q3 : w1.heap.size < w5.heap.size := Nat.lt_of_lt_of_le l2 hchk.size; have HS5 := Lib.hid (GrnS.drew (GrnS.one hs5 hchk)); clear hb5 hs5 hchk)
        | (have hchk : Below (w2.drew.alloc (.map #[] 0)).heap.size (w2.drew.alloc (.map #[] 0)) w5 := hb5; have q0 := blk_cell ((hchk.block _ (by simp; omega)).trans ((heap_past w2.drew _ _ l2).trans (show w2.drew.heap[w1.heap.size]? = _ from HX2.out))); have q3 : w1.heap.size < w5.heap.size := Nat.lt_of_lt_of_le (Nat.lt_succ_of_lt l2) (show w2.heap.size + 1 ≤ w5.heap.size by have h1 := hchk.size; simpa using h1); have HS5 := Lib.hid (GrnS.drew (GrnS.two hs5 hchk)); clear hb5 hs5 hchk)))
  all_goals have hg := GrnS.grat HS5.out HB2.out HL.out HF.out
  all_goals first
    | (obtain ⟨gb, hgb⟩ : ∃ gb, gb = w5.heap.size + 1 := ⟨_, rfl⟩; obtain ⟨nb, hnb⟩ : ∃ nb, nb = w5.heap.size := ⟨_, rfl⟩; have hz : (w5.alloc (.map #[] 0)).heap.size = w5.heap.size + 1 := by simp
       obtain ⟨w7, hw7⟩ : ∃ w7, w7 = (w5.alloc (.map #[] 0)).alloc (.cells #[.pointer (some ⟨lp, 0, none⟩), .pointer (some ⟨sp, 0, none⟩), .map (some w5.heap.size), .int .i64 0] 84) := ⟨_, rfl⟩
       rw [← hw7, ← hgb, ← hnb]
       rw [hz] at hg
       have HG7 := Lib.hid (show GrAt (Up FL w) ⟨gb, lp, sp, nb, d, s⟩ ⟨0, 1, 0, none⟩ none 0 w7 by rw [hw7, hgb, hnb]; exact hg)
       have HB7 := Lib.hid (show Below w2.heap.size w2 w7 by rw [hw7]; exact below_step HS5.out.b (below_one _ _)))
    | (obtain ⟨gb, hgb⟩ : ∃ gb, gb = w5.heap.size := ⟨_, rfl⟩; obtain ⟨nb, hnb⟩ : ∃ nb, nb = w2.heap.size := ⟨_, rfl⟩
       obtain ⟨w7, hw7⟩ : ∃ w7, w7 = w5.alloc (.cells #[.pointer (some ⟨lp, 0, none⟩), .pointer (some ⟨sp, 0, none⟩), .map (some w2.heap.size), .int .i64 0] 84) := ⟨_, rfl⟩
       rw [← hw7, ← hgb, ← hnb]
       have HG7 := Lib.hid (show GrAt (Up FL w) ⟨gb, lp, sp, nb, d, s⟩ ⟨0, 1, 0, none⟩ none 0 w7 by rw [hw7, hgb, hnb]; exact hg)
       have HB7 := Lib.hid (show Below w2.heap.size w2 w7 by rw [hw7]; exact below_step HS5.out.b (below_one _ _)))
  all_goals
    have c7 := blk_cell ((HB7.out.block _ (lt_of_heap HX2.out)).trans HX2.out)
    have HB8 := Lib.hid (below_step HB2.out HB7.out)
    clear hw7 hgb hnb hg q0 q3 c2 HS5
    go_wp2_with fail
    refine wp_loop_rounds 1 ?_
    rw [rounds_succ]
    go_wp2_with fail
    go_ret2
    exact ⟨_, rfl, rfl, rfl, rfl, HG7.out, HB8.out⟩
end Go.Proofs.YtchdfogifhfclaaGreatDoor
