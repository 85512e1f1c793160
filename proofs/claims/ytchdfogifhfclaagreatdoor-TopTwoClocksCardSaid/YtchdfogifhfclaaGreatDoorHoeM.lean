/- The holder: its state; New, until, moments, stamped, twin.  The holder: twin, fault of a first lease, Sweep of none.  The holder: Sweep of none, Add of a first lease.  The holder: Add of a first lease that stands.  The holder: Get. -/
import Derived.Test.YtchdfogifhfclaaGreatDoorGroM
import Derived.DeepKeys4
namespace Go.Proofs.YtchdfogifhfclaaGreatDoor
open Go.RowKit Go.Maps Go.MapKept
open Go.ChangeMaps (setBlock)

theorem Tryz.nameK : Keyed Tryz.prog 102 := Keyed.of_law (deep_law_laid (P := Tryz.prog) (by kernel_rfl) (m := 2) (by omega) (of_decide_eq_true (by kernel_rfl)) (by kernel_rfl) (by rw [Tryz.underlying102]))
def nmV : Value := .agg #[.int .i64 0, .int .i64 1]
theorem keyN : ∃ l, keyOf Tryz.prog 102 nmV = some l := Option.isSome_iff_exists.1 (by kernel_rfl)
/-- A lease. -/
structure Ls where
  p : ByteArray
  m : Int
  s : Int
  t : Int
  sent : Int
  exp : Int
def lC (p : ByteArray) (m : Int) (sv : Value) (t sent exp : Int) : Array Value := #[.int .i64 0, .int .i64 1, .string p, .int .i64 m, sv, .int .i64 t, .int .i64 sent, .int .i64 exp, .bool false]
def zlC : Array Value := #[.int .i64 0, .int .i64 0, .string estr, .int .i64 0, .slice none 0 0, .int .i64 0, .int .i64 0, .int .i64 0, .bool false]
theorem lC_one (p : ByteArray) (m : Int) (a : Option Addr) (n c : Nat) (t sent exp : Int) : (lC p m (.slice a n c) t sent exp).all (·.oneCell') = true := by simp [lC, Value.oneCell']
/-- What the leases' map holds. -/
def LsV (D : Nat → Prop) (w : World) (hm : Nat) : Option Ls → Prop
  | none => w.heap[hm]? = some (.map #[] 0)
  | some l => ∃ sb so sc, w.heap[hm]? = some (.map #[⟨nmV, .agg (lC l.p l.m (.slice (some ⟨sb, so, none⟩) 1 sc) l.t l.sent l.exp), 0⟩] 1) ∧ Ck8.IntsV D w (.slice (some ⟨sb, so, none⟩) 1 sc) [l.s]
structure HoAt (F : Nat → Prop) (h : Nat) (rho : Int) (o : Option Ls) (w : World) : Prop where
  head : ∃ hm, w.heap[h]? = some (.cells #[.int .i64 rho, .map (some hm)] 88 (0, 0)) ∧ (F h ∧ F hm ∧ h ≠ hm) ∧ LsV (fun k => F k ∧ k ≠ h ∧ k ≠ hm) w hm o
theorem LsV.keep {D : Nat → Prop} {w w' : World} {hm : Nat} {o : Option Ls} (h : LsV D w hm o) (h0 : hm < w.heap.size → w'.heap[hm]? = w.heap[hm]?) (hk : ∀ k, k < w.heap.size → D k → w'.heap[k]? = w.heap[k]?) (hs : w.heap.size ≤ w'.heap.size) : LsV D w' hm o := by
  cases o with
  | none => have h : w.heap[hm]? = some (.map #[] 0) := h; exact (h0 (lt_of_heap h)).trans h
  | some l => obtain ⟨sb, so, sc, h1, h2⟩ := h; exact ⟨sb, so, sc, (h0 (lt_of_heap h1)).trans h1, h2.keep hk hs⟩
theorem HoAt.keep {F : Nat → Prop} {h : Nat} {rho : Int} {o : Option Ls} {w w' : World} (H : HoAt F h rho o w) (hk : ∀ k, k < w.heap.size → F k → w'.heap[k]? = w.heap[k]?) (hs : w.heap.size ≤ w'.heap.size) : HoAt F h rho o w' := by
  obtain ⟨hm, h1, h2, h3⟩ := H.head
  exact ⟨hm, (hk _ (lt_of_heap h1) h2.1).trans h1, h2, h3.keep (fun hl => hk _ hl h2.2.1) (fun k hl hd => hk k hl hd.1) hs⟩
theorem HoAt.below {F : Nat → Prop} {h : Nat} {rho : Int} {o : Option Ls} {w w' : World} (H : HoAt F h rho o w) (hb : Below w.heap.size w w') : HoAt F h rho o w' := H.keep (fun k hk _ => hb.block k hk) hb.size
theorem HoAt.mod {F D : Nat → Prop} {h : Nat} {rho : Int} {o : Option Ls} {w w' : World} (H : HoAt F h rho o w) (hm : Mod D w w') (hd : ∀ k, k < w.heap.size → F k → ¬ D k) : HoAt F h rho o w' := H.keep (fun k hk hf => hm.block k hk (hd k hk hf)) hm.size
theorem HoAt.mono {F F' : Nat → Prop} {h : Nat} {rho : Int} {o : Option Ls} {w : World} (H : HoAt F h rho o w) (hF : ∀ k, k < w.heap.size → F k → F' k) : HoAt F' h rho o w := by
  obtain ⟨hm, h1, h2, h3⟩ := H.head
  cases o with
  | none =>
    have h3' : w.heap[hm]? = some (.map #[] 0) := h3
    exact ⟨hm, h1, ⟨hF _ (lt_of_heap h1) h2.1, hF _ (lt_of_heap h3') h2.2.1, h2.2.2⟩, h3⟩
  | some l =>
    obtain ⟨sb, so, sc, h4, h5⟩ := h3
    exact ⟨hm, h1, ⟨hF _ (lt_of_heap h1) h2.1, hF _ (lt_of_heap h4) h2.2.1, h2.2.2⟩, sb, so, sc, h4, h5.mono (fun k hk hf => ⟨hF k hk hf.1, hf.2⟩)⟩
def NewHo (rho : Int) (w : World) (e : Ending) (w' : World) : Prop := ∃ h, e = .returned (.tuple #[.pointer (some ⟨h, 0, none⟩), .int .i64 0]) ∧ HoAt (fun k => w.heap.size ≤ k) h rho none w' ∧ Below w.heap.size w w'
theorem newH_ok (rho : Int) (w : World) (h : 0 ≤ rho ∧ rho ≤ 999) : Calls Tryz.prog 8 #[.int .i64 rho] w (NewHo rho w) := by
  have hmm := @run_makeMap Tryz.prog
  have d1 : decide (rho < 0) = false := decide_eq_false (by omega)
  have d2 : decide (999 < rho) = false := decide_eq_false (by omega)
  clear h
  go_enter Tryz.func8, Tryz.ntmps8
  go_wp2_with fail
  go_ret2
  refine ⟨w.heap.size + 1, rfl, ⟨w.heap.size, heap_at _ _ _ (by simp), ⟨by omega, Nat.le_refl _, by omega⟩, ?_⟩, ((Below.refl _ _).alloc (Nat.le_refl _) _).alloc (by simp) _⟩
  exact (heap_past _ _ _ (by simp)).trans (heap_at w _ _ rfl)
theorem newH_no (rho : Int) (w : World) (h : rho < 0 ∨ 999 < rho) : Calls Tryz.prog 8 #[.int .i64 rho] w fun e w' => e = .returned (.tuple #[.pointer none, .int .i64 2]) ∧ w = w' := by
  by_cases h0 : rho < 0
  · have d1 : decide (rho < 0) = true := decide_eq_true h0
    clear h h0
    go_enter Tryz.func8, Tryz.ntmps8
    go_wp2_with fail
    go_ret2
    exact ⟨rfl, rfl⟩
  · have d1 : decide (rho < 0) = false := decide_eq_false h0
    have d2 : decide (999 < rho) = true := decide_eq_true (by omega)
    clear h h0
    go_enter Tryz.func8, Tryz.ntmps8
    go_wp2_with fail
    go_ret2
    exact ⟨rfl, rfl⟩
theorem moments_any (now sent : Int) (w : World) (h : 0 ≤ sent ∧ sent ≤ now ∧ now ≤ 1152921504606846976) : Calls Tryz.prog 66 #[.int .i64 now, .int .i64 sent] w fun e w' => e = .returned (.bool true) ∧ w = w' := by
  have d1 : decide (0 ≤ sent) = true := decide_eq_true h.1
  have d2 : decide (sent ≤ now) = true := decide_eq_true h.2.1
  have d3 : decide (now ≤ 1152921504606846976) = true := decide_eq_true h.2.2
  clear h
  go_enter Tryz.func66, Tryz.ntmps66
  go_wp2_with fail
  go_ret
  exact ⟨rfl, rfl⟩
theorem stamped_any (D : Nat → Prop) (s : Int) (sv : Value) (w : World) (hd : Ck8.IntsV D w sv [s]) (h : 1 ≤ s ∧ s ≤ 1099511627776) : Calls Tryz.prog 68 #[sv] w fun e w' => e = .returned (.bool true) ∧ w = w' := by
  have HV := Lib.hid (stampValid_any D [s] sv w hd (fun x hx => by simp at hx; subst hx; exact h) (by simp))
  obtain ⟨sb, so, sc, rfl, _, _, _, _, _⟩ := hd.at_ (j := 0) rfl
  clear hd h
  go_enter Tryz.func68, Tryz.ntmps68
  go_wp2_with fail
  refine HV.out.mono ?_
  rintro e w1 ⟨rfl, rfl⟩
  go_wp2_with fail
  go_ret
  exact ⟨rfl, rfl⟩
theorem shr_le {t rho : Int} (h : 4 ≤ t ∧ t ≤ 1048576) (hr : 0 ≤ rho ∧ rho ≤ 999) : 0 ≤ T3.shrT t rho ∧ T3.shrT t rho ≤ t := by
  have hb : T3.shrB t rho = true := decide_eq_true ⟨by omega, by omega, by omega, by omega⟩
  obtain ⟨s0, s1, s2, s3⟩ := T3.shr_spec hb
  refine ⟨s0, ?_⟩
  by_cases hc : T3.shrT t rho ≤ t
  · exact hc
  · exfalso
    have h1 : (t + 1) * (1000 + rho) ≤ T3.shrT t rho * (1000 + rho) := Int.mul_le_mul_of_nonneg_right (by omega) (by omega)
    have h2 : t * (1000 - rho) ≤ t * (1000 + rho) := Int.mul_le_mul_of_nonneg_left (by omega) (by omega)
    have h3 : (t + 1) * (1000 + rho) = t * (1000 + rho) + (1000 + rho) := by rw [Int.add_mul, Int.one_mul]
    omega
theorem until_any (F : Nat → Prop) (h : Nat) (rho sent t : Int) (o : Option Ls) (w : World) (H : HoAt F h rho o w) (ht : 4 ≤ t ∧ t ≤ 1048576) (hr : 0 ≤ rho ∧ rho ≤ 999) (hs : 0 ≤ sent ∧ sent ≤ 1152921504606846976) :
    Calls Tryz.prog 51 #[.pointer (some ⟨h, 0, none⟩), .int .i64 sent, .int .i64 t] w fun e w' => e = .returned (.int .i64 (sent + T3.shrT t rho)) ∧ w = w' := by
  obtain ⟨hm, h1, -, -⟩ := H.head
  have c0 := blk_cell h1 0
  have HS := Lib.hid (shrink_any t rho w ht hr)
  have hw : IntKind.i64.wrap (sent + T3.shrT t rho) = sent + T3.shrT t rho := by
    have := shr_le ht hr
    rw [IntKind.wrap_i64]; omega
  clear H h1 ht hr hs
  go_enter Tryz.func51, Tryz.ntmps51
  go_wp2_with fail
  refine HS.out.mono ?_
  rintro e w1 ⟨rfl, rfl⟩
  go_wp2_with fail
  go_ret
  exact ⟨rfl, rfl⟩
end Go.Proofs.YtchdfogifhfclaaGreatDoor
namespace Go.Proofs.YtchdfogifhfclaaGreatDoor
open Go.RowKit Go.Maps Go.MapKept
open Go.ChangeMaps (setBlock)

def LTwin (p : ByteArray) (m s t sent exp : Int) (w : World) (e : Ending) (w' : World) : Prop := ∃ vb vc, e = .returned (.agg (lC p m (.slice (some ⟨vb, 0, none⟩) 1 vc) t sent exp)) ∧ Ck8.IntsV (fun k => w.heap.size ≤ k) w' (.slice (some ⟨vb, 0, none⟩) 1 vc) [s] ∧ Below w.heap.size w w'
set_option maxRecDepth 100000 in
set_option maxHeartbeats 2000000 in
theorem ltwin_any (D : Nat → Prop) (p : ByteArray) (m s t sent exp : Int) (sv : Value) (w : World) (hs : Ck8.IntsV D w sv [s]) : Calls Tryz.prog 50 #[.agg (lC p m sv t sent exp)] w (LTwin p m s t sent exp w) := by
  obtain ⟨i0, hi, hz0, hz1, hz2⟩ := info_parts Ck8.Tryz.info3
  obtain ⟨sb, so, sc, rfl, _, _, _, _, _⟩ := hs.at_ (j := 0) rfl
  obtain ⟨w0, hw0⟩ : ∃ w0, w0 = (w.alloc (.cells (lC p m (.slice (some ⟨sb, so, none⟩) 1 sc) t sent exp) 49)).alloc (.cells zlC 49) := ⟨_, rfl⟩
  have hB0 : Below w.heap.size w w0 := by rw [hw0]; exact below_two _ _ _
  have hx1 : w0.heap[w.heap.size]? = some (.cells (lC p m (.slice (some ⟨sb, so, none⟩) 1 sc) t sent exp) 49 (0, 0)) := by rw [hw0, heap_past _ _ _ (by simp), heap_at _ _ _ rfl]
  have hx2 : w0.heap[w.heap.size + 1]? = some (.cells zlC 49 (0, 0)) := by rw [hw0, heap_at _ _ _ (by simp)]
  have HB0 := Lib.hid hB0
  have HX1 := Lib.hid hx1
  have HX2 := Lib.hid hx2
  have HS := Lib.hid (hs.below hB0)
  have HS0 := Lib.hid (show w0.heap.size = w.heap.size + 2 by rw [hw0]; simp)
  have c0 := blk_cell hx1 4
  have l1 := lt_of_heap hx1
  clear hs hB0 hx1 hx2
  unfold lC zlC estr at hw0
  unfold lC at c0
  unfold lC
  go_enter Tryz.func50, Tryz.ntmps50
  go_upto_region 1 with fail
  rw [← hw0]
  clear hw0
  go_wp2_with (first
    | (at_builtin; refine Ck8.wpList_append_ints rfl (.const (.slice none 0 0)) (.tmp 4) _ rfl w0.heap.size 3 i0 Tryz.underlying43 hi hz0 hz1 hz2 (.slice none 0 0) 0 [] rfl (World.ownsRow_nil _ _ _ _) _ _ [s] rfl HS.out (by simp) (Nat.le_refl _) ?_; intro v7 w7 hown7 hgrow7 hat7; obtain ⟨vb, vc, rfl⟩ := own1 (base := w0.heap.size) (n := s) (by simpa [Ck8.I8] using hown7); have HOWN := Lib.hid (show w7.ownsRow w0.heap.size 3 1 (.slice (some ⟨vb, 0, none⟩) 1 vc) 1 [.int .i64 s] by simpa [Ck8.I8] using hown7); have HB7 := Lib.hid ((Below.refl w0.heap.size w0).grown hgrow7 (Nat.le_refl _) (by intro k hk; simp [Value.ownBlock] at hk)); have c4 := blk_cell ((HB7.out.block _ (lt_of_heap HX1.out)).trans HX1.out) 4; have f4 := blk_free ((HB7.out.block _ (lt_of_heap HX1.out)).trans HX1.out) 4; have HX3 := Lib.hid (show (w7.setCell ⟨w.heap.size, 4, none⟩ (.slice (some ⟨vb, 0, none⟩) 1 vc)).heap[w.heap.size]? = some (.cells (lC p m (.slice (some ⟨vb, 0, none⟩) 1 vc) t sent exp) 49 (0, 0)) from blk_set ((HB7.out.block _ (lt_of_heap HX1.out)).trans HX1.out) 4 _); have HX4 := Lib.hid (show (w7.setCell ⟨w.heap.size, 4, none⟩ (.slice (some ⟨vb, 0, none⟩) 1 vc)).heap[w.heap.size + 1]? = some (.cells zlC 49 (0, 0)) from blk_far ((HB7.out.block _ (lt_of_heap HX2.out)).trans HX2.out) (by show w.heap.size + 1 ≠ w.heap.size; omega) _); clear hown7 hgrow7 hat7; unfold lC at c4)
    | (refine wpList_load_row rfl 49 (.tmp 1) rfl w.heap.size rfl 49 (lC p m (.slice (some ⟨vb, 0, none⟩) 1 vc) t sent exp) (0, 0) _ HX3.out Tryz.underlying49 rfl (by kernel_rfl) ?_)
    | (refine wpList_store_row rfl 49 (.tmp 2) (.tmp 7) rfl (w.heap.size + 1) (lC p m (.slice (some ⟨vb, 0, none⟩) 1 vc) t sent exp) rfl rfl 49 _ HX4.out (by kernel_rfl) rfl (lC_one _ _ _ _ _ _ _ _) ?_))
  have hb7 := HB7.out.size
  have hz := HS0.out
  refine bodyPost_ret (v := .agg (lC p m (.slice (some ⟨vb, 0, none⟩) 1 vc) t sent exp)) (results_cell_row (fn := Tryz.f50) rfl _ _ (w.heap.size + 1) 49 (lC p m (.slice (some ⟨vb, 0, none⟩) 1 vc) t sent exp) (0, 0) _ rfl (setRow_heap _ _ _ _ _ _ HX4.out) Tryz.underlying49 rfl (by kernel_rfl)) rfl ⟨_, _, rfl, ?_, below_row ((below_step HB0.out HB7.out).setCell (p := ⟨w.heap.size, 4, none⟩) (Nat.le_refl _) _) (by omega) _⟩
  have hiv : Ck8.IntsV (fun k => w0.heap.size ≤ k) w7 (.slice (some ⟨vb, 0, none⟩) 1 vc) [s] := Ck8.IntsV.of_own (l := [s]) HOWN.out
  refine (hiv.keep (fun k hk hd => ?_) (by rw [setRow_size]; simp [World.setCell])).mono (fun k _ hd => by have hd : w0.heap.size ≤ k := hd; show w.heap.size ≤ k; omega)
  have hd : w0.heap.size ≤ k := hd
  rw [setRow_other _ _ _ _ (by omega)]
  exact Below.heap_setCell w7 ⟨w.heap.size, 4, none⟩ _ k (by show k ≠ w.heap.size; omega)
theorem Tryz.zeroLs (w : World) : (zeroValue 49).run Tryz.prog w = .ok (.agg zlC) w := by kernel_rfl
theorem faultEq (p : ByteArray) (m : Int) (h : ModeB m = true) : m = 1 ∨ m = 2 := by unfold ModeB at h; simpa using h
/-- What the first lease is answered. -/
def faultR (now sent t rho : Int) : Int := if sent + T3.shrT t rho ≤ now then 62 else 0
structure LeaseOK (now sent : Int) (p : ByteArray) (m s t rho : Int) : Prop where
  mo : 0 ≤ sent ∧ sent ≤ now ∧ now ≤ 1152921504606846976
  p : pathOK p = true
  m : ModeB m = true
  s : 1 ≤ s ∧ s ≤ 1099511627776
  t : 4 ≤ t ∧ t ≤ 1048576
  r : 0 ≤ rho ∧ rho ≤ 999
set_option maxRecDepth 100000 in
set_option maxHeartbeats 4000000 in
theorem fault_any (F D : Nat → Prop) (h : Nat) (rho now sent : Int) (p : ByteArray) (m s t : Int) (sv : Value) (w : World) (H : HoAt F h rho none w) (hs : Ck8.IntsV D w sv [s]) (hO : LeaseOK now sent p m s t rho) :
    Calls Tryz.prog 48 #[.pointer (some ⟨h, 0, none⟩), .int .i64 now, .int .i64 sent, .agg (lC p m sv t 0 0)] w (CodeP (faultR now sent t rho) w) := by
  obtain ⟨l, hkey⟩ := keyN
  obtain ⟨R, hR⟩ : ∃ R, R = faultR now sent t rho := ⟨_, rfl⟩
  rw [← hR]
  have HR := Lib.hid hR
  have HO := Lib.hid hO
  have hmm := faultEq p m hO.m
  obtain ⟨sb, so, sc, rfl, _, _, _, _, _⟩ := hs.at_ (j := 0) rfl
  obtain ⟨w1, hw1⟩ : ∃ w1, w1 = w.alloc (.cells (lC p m (.slice (some ⟨sb, so, none⟩) 1 sc) t 0 0) 49) := ⟨_, rfl⟩
  have hb1 : Below w.heap.size w w1 := by rw [hw1]; exact below_one _ _
  have hx1 : w1.heap[w.heap.size]? = some (.cells (lC p m (.slice (some ⟨sb, so, none⟩) 1 sc) t 0 0) 49 (0, 0)) := by rw [hw1]; exact heap_at _ _ _ rfl
  have HB1 := Lib.hid hb1
  have HX1 := Lib.hid hx1
  have hh1 := H.below hb1
  have HH1 := Lib.hid hh1
  have HS1 := Lib.hid (hs.below hb1)
  obtain ⟨hm, hp1, -, hp3⟩ := hh1.head
  have hmap : w1.heap[hm]? = some (.map #[] 0) := hp3
  have HP1 := Lib.hid hp1
  have HMAP := Lib.hid hmap
  have c1 := blk_cell hx1
  have l1 := lt_of_heap hx1
  clear H hs hO hR hb1 hx1 hh1 hp1 hp3 hmap
  unfold lC at hw1 c1
  unfold lC
  go_enter Tryz.func48, Tryz.ntmps48
  go_upto_region 1 with fail
  rw [← hw1]
  clear hw1
  go_wp2_with fail
  refine (moments_any now sent _ HO.out.mo).mono ?_
  rintro e w2 ⟨rfl, rfl⟩
  go_wp2_with fail
  refine (valid_any p _ (by have := pathOK_size HO.out.p; omega)).mono ?_
  rintro e w2 ⟨rfl, rfl⟩
  rw [HO.out.p]
  have hb : ((m != 1) = false) ∨ ((m != 1) = true ∧ (m != 2) = false) := by rcases hmm with h | h <;> rw [h] <;> decide
  clear hmm
  rcases hb with b1 | ⟨b1, b2⟩
  all_goals
    go_wp2_with fail
    refine (stamped_any D s _ _ HS1.out HO.out.s).mono ?_
    rintro e w2 ⟨rfl, rfl⟩
    go_wp2_with fail
    refine (legal_any t _ HO.out.t).mono ?_
    rintro e w2 ⟨rfl, rfl⟩
    have hl1 := mlook_none (w := w1.drew) Tryz.nameK Tryz.underlying86 (Tryz.zeroLs _) (show w1.drew.heap[hm]? = _ from HMAP.out) hkey true
    have hl2 := fun o => mlook_none (w := (w1.alloc o).drew) Tryz.nameK Tryz.underlying86 (Tryz.zeroLs _) (show (w1.alloc o).drew.heap[hm]? = _ from (heap_past w1 o hm (lt_of_heap HMAP.out)).trans HMAP.out) hkey true
    have p0 := blk_cell HP1.out
    have l2 := lt_of_heap HP1.out
    unfold nmV zlC estr at hl1 hl2
    go_wp2_with fail
    go_region_held_law (fun u => (∀ i, u.cell? ⟨h, i, none⟩ = #[Value.int .i64 rho, .map (some hm)][i]?) ∧ (∀ i, u.cell? ⟨w.heap.size, i, none⟩ = #[Value.int .i64 0, Value.int .i64 1, Value.string p, Value.int .i64 m, Value.slice (some ⟨sb, so, none⟩) 1 sc, Value.int .i64 t, Value.int .i64 0, Value.int .i64 0, Value.bool false][i]?)) ((go_split_ands; refine ⟨?_, ?_⟩ <;> (repeat (first | (with_reducible assumption) | (with_reducible refine cells_drew ?_) | ((with_reducible refine cells_set ?_ _ _ ?_); rotate_left; (dsimp only; omega)) | (with_reducible refine cells_alloc ?_ (by first | assumption | omega) _))))) (fail)
    all_goals
      obtain ⟨w3, hw3⟩ : ∃ w3, w3 = (w1.alloc (.cells #[.int .i64 0, .int .i64 0, .string ⟨#[]⟩, .int .i64 0, .slice none 0 0, .int .i64 0, .int .i64 0, .int .i64 0, .bool false] 49)).drew := ⟨_, rfl⟩
      have hb3 : Below w1.heap.size w1 w3 := by rw [hw3]; exact below_step (below_one w1 _) (Ck8.below_drew _)
      rw [← hw3]
      have HB3 := Lib.hid (below_step HB1.out hb3)
      have HH3 := Lib.hid (HH1.out.below hb3)
      have hx3 := (hb3.block _ (lt_of_heap HX1.out)).trans HX1.out
      have hp3 := (hb3.block _ (lt_of_heap HP1.out)).trans HP1.out
      have c3 := blk_cell hx3
      have p3 := blk_cell hp3
      have l3 := lt_of_heap hx3
      have hown := own_none Tryz.prog 102 anyR ((hb3.block hm (lt_of_heap HMAP.out)).trans HMAP.out)
      clear hw3 hb3 hx3 hp3 hl1 hl2 p0 c1
      unfold lC at c3
      go_wp2_with fail
      refine (until_any F h rho sent t none _ HH3.out HO.out.t HO.out.r ⟨HO.out.mo.1, Int.le_trans HO.out.mo.2.1 HO.out.mo.2.2⟩).mono ?_
      rintro e w4 ⟨rfl, rfl⟩
      by_cases hd : sent + T3.shrT t rho ≤ now
      · have HD := Lib.hid hd
        have d9 : decide (sent + T3.shrT t rho ≤ now) = true := decide_eq_true hd
        have e62 : R = 62 := by rw [HR.out]; unfold faultR; rw [if_pos hd]
        clear hd
        go_wp2_with fail
        go_ret
        exact ⟨by rw [e62]; rfl, HB3.out⟩
      · have HD := Lib.hid hd
        have d9 : decide (sent + T3.shrT t rho ≤ now) = false := decide_eq_false hd
        have e62 : R = 0 := by rw [HR.out]; unfold faultR; rw [if_neg hd]
        clear hd
        go_wp2_with (at_range; refine wpList_range_own _ rfl _ 86 rfl 102 49 Tryz.nameK Tryz.underlying86 _ hm 0 _ rfl hown ?_; intro w5 hrg hg5 hs5)
        clear hown
        go_frame
        refine wp_loop_rounds 1 ?_
        rw [rounds_succ]
        go_wp2_with (at_next; refine wpList_next_ranges _ rfl _ rfl 102 Tryz.nameK anyR id id (fun key kl hk => ⟨key, rfl⟩) (fun v _ _ => ⟨v, rfl⟩) hm _ 0 _ _ _ rfl hrg ?_ ?_)
        · intro _ _
          go_wp2_with fail
          go_ret
          exact ⟨by rw [e62]; rfl, HB3.out.grown hg5 HB3.out.size (fun k e => by cases e)⟩
        · intro x c kl yd yp w5 cnt2 hkey hlk hv hat hrg2 hlt hg2 hs5 hen
          exact absurd hlt (by simp [Maps.size])
end Go.Proofs.YtchdfogifhfclaaGreatDoor
namespace Go.Proofs.YtchdfogifhfclaaGreatDoor
open Go.RowKit Go.Maps Go.MapKept
open Go.ChangeMaps (setBlock)

set_option maxRecDepth 100000 in
set_option maxHeartbeats 1000000 in
theorem delm0_any (f : Value) (hm : Nat) (w : World) (h : w.heap[hm]? = some (.map #[] 0)) : Calls Tryz.prog 96 #[.map (some hm), f] w fun e w' => e = .returned (.tuple #[]) ∧ Below w.heap.size w w' := by
  have hown := own_none Tryz.prog 102 anyR h
  clear h
  go_enter Tryz.func96, Tryz.ntmps96
  go_wp2_with (at_range; refine wpList_range_own _ rfl _ 86 rfl 102 49 Tryz.nameK Tryz.underlying86 _ hm 0 _ rfl hown ?_; intro w5 hrg hg5 hs5)
  clear hown
  go_frame
  refine wp_loop_rounds 1 ?_
  rw [rounds_succ]
  go_wp2_with (at_next; refine wpList_next_ranges _ rfl _ rfl 102 Tryz.nameK anyR id id (fun key kl hk => ⟨key, rfl⟩) (fun v _ _ => ⟨v, rfl⟩) hm _ 0 _ _ _ rfl hrg ?_ ?_)
  · intro _ _
    go_wp2_with fail
    go_end0
    exact ⟨rfl, (Below.refl _ _).grown hg5 (Nat.le_refl _) (fun k e => by cases e)⟩
  · intro x c kl yd yp w5 cnt2 hkey hlk hv hat hrg2 hlt hg2 hs5 hen
    exact absurd hlt (by simp [Maps.size])
set_option maxRecDepth 100000 in
set_option maxHeartbeats 1000000 in
theorem sweepH_none (F : Nat → Prop) (h : Nat) (rho now : Int) (w : World) (H : HoAt F h rho none w) : Calls Tryz.prog 49 #[.pointer (some ⟨h, 0, none⟩), .int .i64 now] w fun e w' => e = .returned (.int .i64 0) ∧ Below w.heap.size w w' := by
  have hmf : ∀ (fn : Fn) (first cap : Array Value) (w : World), (Instr.makeFunc fn first cap).run Tryz.prog w = .ok (.func fn first cap) w := fun _ _ _ _ => rfl
  obtain ⟨w1, hw1⟩ : ∃ w1, w1 = w.alloc (.cells #[.int .i64 now] 3) := ⟨_, rfl⟩
  have hb1 : Below w.heap.size w w1 := by rw [hw1]; exact below_one _ _
  obtain ⟨hm, hp, -, hp3⟩ := (H.below hb1).head
  have hmap : w1.heap[hm]? = some (.map #[] 0) := hp3
  have hln := mlen (w := w1) Tryz.underlying86 hmap
  have HP := Lib.hid hp
  have HMAP := Lib.hid hmap
  have HB1 := Lib.hid hb1
  have c0 := blk_cell hp
  clear H hp hp3 hmap hb1
  go_enter Tryz.func49, Tryz.ntmps49
  go_upto_region 1 with fail
  rw [← hw1]
  clear hw1
  go_wp2_with fail
  refine (delm0_any _ hm _ HMAP.out).mono ?_
  rintro e w2 ⟨rfl, hb2⟩
  have HB2 := Lib.hid (below_step HB1.out hb2)
  have hln2 := mlen (w := w2) Tryz.underlying86 ((hb2.block _ (lt_of_heap HMAP.out)).trans HMAP.out)
  have c2 := blk_cell ((hb2.block _ (lt_of_heap HP.out)).trans HP.out)
  clear hln c0 hb2
  go_wp2_with fail
  go_ret
  exact ⟨rfl, HB2.out⟩
/-- What Add answers. -/
def AddP (F : Nat → Prop) (h : Nat) (rho now sent : Int) (p : ByteArray) (m s t : Int) (w : World) (e : Ending) (w' : World) : Prop :=
  (sent + T3.shrT t rho ≤ now ∧ e = .returned (.int .i64 62) ∧ Below w.heap.size w w') ∨
  (now < sent + T3.shrT t rho ∧ e = .returned (.int .i64 0) ∧ HoAt (Up F w) h rho (some ⟨p, m, s, t, sent, sent + T3.shrT t rho⟩) w' ∧ Mod F w w')
theorem add_no (F D : Nat → Prop) (h : Nat) (rho now sent : Int) (p : ByteArray) (m s t : Int) (sv : Value) (w : World) (H : HoAt F h rho none w) (hs : Ck8.IntsV D w sv [s]) (hO : LeaseOK now sent p m s t rho) (hd : sent + T3.shrT t rho ≤ now) :
    Calls Tryz.prog 12 #[.pointer (some ⟨h, 0, none⟩), .int .i64 now, .int .i64 sent, .agg (lC p m sv t 0 0)] w (AddP F h rho now sent p m s t w) := by
  obtain ⟨sb, so, sc, rfl, _, _, _, _, _⟩ := hs.at_ (j := 0) rfl
  obtain ⟨w1, hw1⟩ : ∃ w1, w1 = w.alloc (.cells (lC p m (.slice (some ⟨sb, so, none⟩) 1 sc) t 0 0) 49) := ⟨_, rfl⟩
  have hb1 : Below w.heap.size w w1 := by rw [hw1]; exact below_one _ _
  have hx1 : w1.heap[w.heap.size]? = some (.cells (lC p m (.slice (some ⟨sb, so, none⟩) 1 sc) t 0 0) 49 (0, 0)) := by rw [hw1]; exact heap_at _ _ _ rfl
  have HB1 := Lib.hid hb1
  have HX1 := Lib.hid hx1
  have HD := Lib.hid hd
  have hf := fault_any F D h rho now sent p m s t _ w1 (H.below hb1) (hs.below hb1) hO
  rw [show faultR now sent t rho = 62 from if_pos hd] at hf
  have HF := Lib.hid hf
  clear H hs hO hd hb1 hx1 hf
  unfold lC at hw1
  unfold lC
  go_enter Tryz.func12, Tryz.ntmps12
  go_upto_region 1 with fail
  rw [← hw1]
  clear hw1
  go_wp2_with (refine wpList_load_row rfl 49 (.tmp 7) rfl w.heap.size rfl 49 (lC p m (.slice (some ⟨sb, so, none⟩) 1 sc) t 0 0) (0, 0) _ HX1.out Tryz.underlying49 rfl (by kernel_rfl) ?_)
  refine HF.out.mono ?_
  rintro e w2 ⟨rfl, hb2⟩
  go_wp2_with fail
  go_ret
  exact .inl ⟨HD.out, rfl, below_step HB1.out hb2⟩
end Go.Proofs.YtchdfogifhfclaaGreatDoor
namespace Go.Proofs.YtchdfogifhfclaaGreatDoor
open Go.RowKit Go.Maps Go.MapKept
open Go.ChangeMaps (setBlock)

/-- A lease noted in an empty map. -/
theorem HoAt.put {F : Nat → Prop} {h hm : Nat} {rho : Int} {l : Ls} {sb so sc : Nat} {w W : World} {ls0 : Array Value} (H : w.heap[h]? = some (.cells #[.int .i64 rho, .map (some hm)] 88 (0, 0))) (hF : F h ∧ F hm ∧ h ≠ hm) (hmap : ∃ es c, w.heap[hm]? = some (.map es c))
    (hb : Mod F w W) (hh : W.heap[h]? = w.heap[h]?) (hhm : W.heap[hm]? = w.heap[hm]?) (hiv : Ck8.IntsV (fun k => w.heap.size ≤ k) W (.slice (some ⟨sb, so, none⟩) 1 sc) [l.s]) (hls : ls0 = lC l.p l.m (.slice (some ⟨sb, so, none⟩) 1 sc) l.t l.sent l.exp) (n c : Nat) (hn : n = 0) (hc : c = 1) :
    HoAt (Up F w) h rho (some l) (setBlock W hm (.map #[⟨nmV, .agg ls0, n⟩] c)) ∧ Mod F w (setBlock W hm (.map #[⟨nmV, .agg ls0, n⟩] c)) := by
  subst hls hn hc
  obtain ⟨es, c, hmap⟩ := hmap
  have l1 := lt_of_heap H
  have l2 := lt_of_heap hmap
  refine ⟨⟨hm, (set_other hF.2.2).trans (hh.trans H), ⟨.inl hF.1, .inl hF.2.1, hF.2.2⟩, sb, so, sc, set_same (hhm.trans hmap), ?_⟩, hb.set (fun _ => hF.2.1) _⟩
  refine (hiv.keep (fun k hk hd => set_other ?_) (by rw [set_size]; exact Nat.le_refl _)).mono (fun k _ hd => ?_)
  · have hd : w.heap.size ≤ k := hd
    omega
  · have hd : w.heap.size ≤ k := hd
    exact ⟨.inr hd, by omega, by omega⟩
set_option maxRecDepth 100000 in
set_option maxHeartbeats 4000000 in
theorem add_ok (F D : Nat → Prop) (h : Nat) (rho now sent : Int) (p : ByteArray) (m s t : Int) (sv : Value) (w : World) (H : HoAt F h rho none w) (hs : Ck8.IntsV D w sv [s]) (hO : LeaseOK now sent p m s t rho) (hd : now < sent + T3.shrT t rho) :
    Calls Tryz.prog 12 #[.pointer (some ⟨h, 0, none⟩), .int .i64 now, .int .i64 sent, .agg (lC p m sv t 0 0)] w (AddP F h rho now sent p m s t w) := by
  obtain ⟨l, hkey⟩ := keyN
  obtain ⟨sb, so, sc, rfl, _, _, _, _, _⟩ := hs.at_ (j := 0) rfl
  obtain ⟨w1, hw1⟩ : ∃ w1, w1 = w.alloc (.cells (lC p m (.slice (some ⟨sb, so, none⟩) 1 sc) t 0 0) 49) := ⟨_, rfl⟩
  have hb1 : Below w.heap.size w w1 := by rw [hw1]; exact below_one _ _
  have hx1 : w1.heap[w.heap.size]? = some (.cells (lC p m (.slice (some ⟨sb, so, none⟩) 1 sc) t 0 0) 49 (0, 0)) := by rw [hw1]; exact heap_at _ _ _ rfl
  have HB1 := Lib.hid hb1
  have HX1 := Lib.hid hx1
  have HD := Lib.hid hd
  have HO := Lib.hid hO
  have H0 := Lib.hid H
  have hf := fault_any F D h rho now sent p m s t _ w1 (H.below hb1) (hs.below hb1) hO
  rw [show faultR now sent t rho = 0 from if_neg (by omega)] at hf
  have HF := Lib.hid hf
  have HS1 := Lib.hid (hs.below hb1)
  have HH1 := Lib.hid (H.below hb1)
  clear H hs hO hd hb1 hx1 hf
  unfold lC at hw1
  unfold lC
  go_enter Tryz.func12, Tryz.ntmps12
  go_upto_region 1 with fail
  rw [← hw1]
  clear hw1
  go_wp2_with (refine wpList_load_row rfl 49 (.tmp 7) rfl w.heap.size rfl 49 (lC p m (.slice (some ⟨sb, so, none⟩) 1 sc) t 0 0) (0, 0) _ HX1.out Tryz.underlying49 rfl (by kernel_rfl) ?_)
  refine HF.out.mono ?_
  rintro e w2 ⟨rfl, hb2⟩
  have HH2 := Lib.hid (HH1.out.below hb2)
  have HB2 := Lib.hid hb2
  clear hb2
  go_wp2_with fail
  refine (sweepH_none F h rho now w2 HH2.out).mono ?_
  rintro e w3 ⟨rfl, hb3⟩
  have HH3 := Lib.hid (HH2.out.below hb3)
  have HX3 := Lib.hid ((hb3.block _ (lt_of_heap ((HB2.out.block _ (lt_of_heap HX1.out)).trans HX1.out))).trans ((HB2.out.block _ (lt_of_heap HX1.out)).trans HX1.out))
  have HS3 := Lib.hid ((HS1.out.below HB2.out).below hb3)
  have HB3 := Lib.hid (below_step (below_step HB1.out HB2.out) hb3)
  clear hb3
  go_wp2_with (refine wpList_load_row rfl 49 (.tmp 7) rfl w.heap.size rfl 49 (lC p m (.slice (some ⟨sb, so, none⟩) 1 sc) t 0 0) (0, 0) _ HX3.out Tryz.underlying49 rfl (by kernel_rfl) ?_)
  refine (ltwin_any D p m s t 0 0 _ w3 HS3.out).mono ?_
  rintro e w4 ⟨vb, vc, rfl, hiv, hb4⟩
  have HIV := Lib.hid hiv
  have HB4 := Lib.hid hb4
  have HH4 := Lib.hid (HH3.out.below hb4)
  have HX4 := Lib.hid ((hb4.block _ (lt_of_heap HX3.out)).trans HX3.out)
  clear hiv hb4
  unfold lC
  go_upto_region 8 with fail
  obtain ⟨w5, hw5⟩ : ∃ w5, w5 = w4.alloc (.cells #[.int .i64 0, .int .i64 1, .string p, .int .i64 m, .slice (some ⟨vb, 0, none⟩) 1 vc, .int .i64 t, .int .i64 0, .int .i64 0, .bool false] 49) := ⟨_, rfl⟩
  rw [← hw5]
  have hb5 : Below w4.heap.size w4 w5 := by rw [hw5]; exact below_one _ _
  have hx5 : w5.heap[w4.heap.size]? = some (.cells (lC p m (.slice (some ⟨vb, 0, none⟩) 1 vc) t 0 0) 49 (0, 0)) := by rw [hw5]; exact heap_at _ _ _ rfl
  have HB5 := Lib.hid hb5
  have HX5 := Lib.hid hx5
  have HH5 := Lib.hid (HH4.out.below hb5)
  have hy5 := (hb5.block _ (lt_of_heap HX4.out)).trans HX4.out
  have HY5 := Lib.hid hy5
  have c5 := blk_cell hx5
  have f5 := blk_free hx5
  have b5 := blk_cell hy5
  have l5 := lt_of_heap hx5
  clear hw5 hb5 hx5 hy5
  unfold lC at c5 b5
  go_wp2_with fail
  refine (until_any F h rho sent t none _ HH5.out HO.out.t HO.out.r ⟨HO.out.mo.1, Int.le_trans HO.out.mo.2.1 HO.out.mo.2.2⟩).mono ?_
  rintro e w6 ⟨rfl, rfl⟩
  have hsum := shr_le HO.out.t HO.out.r
  obtain ⟨ex, hex⟩ : ∃ ex, ex = sent + T3.shrT t rho := ⟨_, rfl⟩
  have HEX := Lib.hid hex
  rw [← hex]
  clear hex hsum
  go_upto_region 9 with fail
  obtain ⟨w7, hw7⟩ : ∃ w7, w7 = ((w5.setCell ⟨w4.heap.size, 6, none⟩ (.int .i64 sent)).setCell ⟨w4.heap.size, 7, none⟩ (.int .i64 ex)).setCell ⟨w4.heap.size, 8, none⟩ (.bool false) := ⟨_, rfl⟩
  rw [← hw7]
  have HO7 := Lib.hid (show ∀ k, k ≠ w4.heap.size → w7.heap[k]? = w5.heap[k]? from fun k hk => by
    rw [hw7, Below.heap_setCell _ _ _ _ (by show k ≠ w4.heap.size; omega), Below.heap_setCell _ _ _ _ (by show k ≠ w4.heap.size; omega), Below.heap_setCell _ _ _ _ (by show k ≠ w4.heap.size; omega)])
  have HX7 := Lib.hid (show w7.heap[w4.heap.size]? = some (.cells (lC p m (.slice (some ⟨vb, 0, none⟩) 1 vc) t sent ex) 49 (0, 0)) from by
    rw [hw7]
    exact blk_set (blk_set (blk_set HX5.out 6 _) 7 _) 8 _)
  have HZ7 := Lib.hid (show w7.heap.size = w5.heap.size by rw [hw7]; simp [World.setCell])
  have HB7 := Lib.hid (show Below w.heap.size w w7 by
    rw [hw7]
    have hz : w.heap.size ≤ w4.heap.size := Nat.le_trans HB3.out.size HB4.out.size
    exact (((below_step (below_step HB3.out HB4.out) HB5.out).setCell (p := ⟨w4.heap.size, 6, none⟩) hz _).setCell (p := ⟨w4.heap.size, 7, none⟩) hz _).setCell (p := ⟨w4.heap.size, 8, none⟩) hz _)
  obtain ⟨hm, hp, hFF, hp3⟩ := H0.out.head
  have hmap0 : w.heap[hm]? = some (.map #[] 0) := hp3
  have HP0 := Lib.hid hp
  have HMAP0 := Lib.hid hmap0
  have HFF := Lib.hid hFF
  have HBX := Lib.hid ((HB7.out.block _ (lt_of_heap hp)).trans hp)
  have HMX := Lib.hid ((HB7.out.block _ (lt_of_heap hmap0)).trans hmap0)
  have HY7 := Lib.hid ((HO7.out _ (by have := HB1.out.size; have h1 := lt_of_heap HX4.out; omega)).trans HY5.out)
  have q0 := blk_cell HBX.out
  have q1 := blk_cell HY7.out
  have q2 := blk_cell HX7.out
  have hu := mupd_none (w := w7.drew) (v := .agg (lC p m (.slice (some ⟨vb, 0, none⟩) 1 vc) t sent ex)) Tryz.nameK Tryz.underlying86 (show w7.drew.heap[hm]? = some (.map #[] 0) from HMX.out) hkey
  have hne1 : w.heap.size ≠ hm := Nat.ne_of_gt (lt_of_heap hmap0)
  have hne2 : w4.heap.size ≠ hm := Nat.ne_of_gt (Nat.lt_of_lt_of_le (lt_of_heap hmap0) (Nat.le_trans HB3.out.size HB4.out.size))
  have R0 := Lib.hid (fun o i => show (setBlock w7.drew hm o).cell? ⟨h, i, none⟩ = _ from (cell_set hFF.2.2).trans (q0 i))
  have R1 := Lib.hid (fun o i => show (setBlock w7.drew hm o).cell? ⟨w.heap.size, i, none⟩ = _ from (cell_set hne1).trans (q1 i))
  have R2 := Lib.hid (fun o i => show (setBlock w7.drew hm o).cell? ⟨w4.heap.size, i, none⟩ = _ from (cell_set hne2).trans (q2 i))
  clear hw7 c5 f5 b5 l5 hp hp3 hmap0 hFF hne1 hne2
  unfold lC at q1 q2 R1 R2 hu
  unfold nmV at hu
  go_region_held_law (fun u => (∀ i, u.cell? ⟨h, i, none⟩ = #[Value.int .i64 rho, Value.map (some hm)][i]?) ∧ (∀ i, u.cell? ⟨w.heap.size, i, none⟩ = #[Value.int .i64 0, Value.int .i64 1, Value.string p, Value.int .i64 m, Value.slice (some ⟨sb, so, none⟩) 1 sc, Value.int .i64 t, Value.int .i64 0, Value.int .i64 0, Value.bool false][i]?) ∧ (∀ i, u.cell? ⟨w4.heap.size, i, none⟩ = #[Value.int .i64 0, Value.int .i64 1, Value.string p, Value.int .i64 m, Value.slice (some ⟨vb, 0, none⟩) 1 vc, Value.int .i64 t, Value.int .i64 sent, Value.int .i64 ex, Value.bool false][i]?)) (first | exact ⟨q0, q1, q2⟩ | exact ⟨R0.out _, R1.out _, R2.out _⟩) (fail)
  go_wp2_with fail
  go_ret
  have hiv7 : Ck8.IntsV (fun k => w.heap.size ≤ k) w7 (.slice (some ⟨vb, 0, none⟩) 1 vc) [s] := by
    have h5 : Ck8.IntsV (fun k => w3.heap.size ≤ k ∧ k < w4.heap.size) w5 (.slice (some ⟨vb, 0, none⟩) 1 vc) [s] := (HIV.out.mono (G' := fun k => w3.heap.size ≤ k ∧ k < w4.heap.size) (fun k hk hd => ⟨hd, hk⟩)).below HB5.out
    exact (h5.keep (fun k hk hd => HO7.out k (by omega)) (by rw [HZ7.out]; exact Nat.le_refl _)).mono (fun k _ hd => Nat.le_trans HB3.out.size hd.1)
  obtain ⟨h1, h2⟩ := HoAt.put (l := ⟨p, m, s, t, sent, ex⟩) HP0.out HFF.out ⟨_, _, HMAP0.out⟩ ((Mod.of_below (F := F) HB7.out).drew) (HB7.out.block _ (lt_of_heap HP0.out)) (HB7.out.block _ (lt_of_heap HMAP0.out)) (hiv7.below (Ck8.below_drew w7)) rfl 0 (0 + 1) rfl rfl
  refine .inr ⟨HD.out, rfl, ?_, h2⟩
  rw [← HEX.out]
  exact h1
end Go.Proofs.YtchdfogifhfclaaGreatDoor
namespace Go.Proofs.YtchdfogifhfclaaGreatDoor
open Go.RowKit Go.Maps Go.MapKept
open Go.ChangeMaps (setBlock)

set_option maxRecDepth 100000 in
set_option maxHeartbeats 2000000 in
/-- twin of the zero lease. -/
theorem ltwin0_any (w : World) : Calls Tryz.prog 50 #[.agg zlC] w fun e w' => e = .returned (.agg zlC) ∧ Below w.heap.size w w' := by
  obtain ⟨i0, hi, hz0, hz1, hz2⟩ := info_parts Ck8.Tryz.info3
  have hap : ∀ (W : World) (ty : TypeId), (Builtin.append_ #[43, 43] ty #[.slice none 0 0, .slice none 0 0]).run Tryz.prog W = .ok (.slice none 0 0) W := fun W ty => Ck8.append_none (P := Tryz.prog) W 0 43 ty 3 i0 1 Tryz.underlying43 hi _ 0 [] (World.ownsRow_nil _ _ _ _) 0
  have HB := Lib.hid (below_two w (.cells zlC 49) (.cells zlC 49))
  unfold zlC estr at HB
  unfold zlC estr
  go_enter Tryz.func50, Tryz.ntmps50
  go_wp2_with fail
  refine bodyPost_ret (v := .agg #[.int .i64 0, .int .i64 0, .string ⟨#[]⟩, .int .i64 0, .slice none 0 0, .int .i64 0, .int .i64 0, .int .i64 0, .bool false]) (results_cell_row (fn := Tryz.f50) rfl _ _ (w.heap.size + 1) 49 #[.int .i64 0, .int .i64 0, .string ⟨#[]⟩, .int .i64 0, .slice none 0 0, .int .i64 0, .int .i64 0, .int .i64 0, .bool false] (0, 0) _ rfl (heap_at _ _ _ (by simp)) Tryz.underlying49 rfl (by kernel_rfl)) rfl ⟨rfl, HB.out⟩
def GetNo (w : World) (e : Ending) (w' : World) : Prop := e = .returned (.tuple #[.agg zlC, .bool false]) ∧ Below w.heap.size w w'
def GetOk (l : Ls) (w : World) (e : Ending) (w' : World) : Prop := ∃ vb vc, e = .returned (.tuple #[.agg (lC l.p l.m (.slice (some ⟨vb, 0, none⟩) 1 vc) l.t l.sent l.exp), .bool true]) ∧ Ck8.IntsV (fun k => w.heap.size ≤ k) w' (.slice (some ⟨vb, 0, none⟩) 1 vc) [l.s] ∧ Below w.heap.size w w'
theorem zlC_one : zlC.all (·.oneCell') = true := by simp [zlC, Value.oneCell']
set_option maxRecDepth 100000 in
set_option maxHeartbeats 2000000 in
theorem getH_none (F : Nat → Prop) (h : Nat) (rho : Int) (w : World) (H : HoAt F h rho none w) : Calls Tryz.prog 65 #[.pointer (some ⟨h, 0, none⟩), .int .i64 0, .int .i64 1] w (GetNo w) := by
  obtain ⟨l, hkey⟩ := keyN
  obtain ⟨w1, hw1⟩ : ∃ w1, w1 = w.alloc (.cells zlC 49) := ⟨_, rfl⟩
  have hb1 : Below w.heap.size w w1 := by rw [hw1]; exact below_one _ _
  have hx1 : w1.heap[w.heap.size]? = some (.cells zlC 49 (0, 0)) := by rw [hw1]; exact heap_at _ _ _ rfl
  obtain ⟨hm, hp, -, hp3⟩ := (H.below hb1).head
  have hmap : w1.heap[hm]? = some (.map #[] 0) := hp3
  have hl1 := mlook_none (w := w1) Tryz.nameK Tryz.underlying86 (Tryz.zeroLs _) hmap hkey true
  have HB1 := Lib.hid hb1
  have HX1 := Lib.hid hx1
  have c0 := blk_cell hp
  have l0 := lt_of_heap hx1
  clear H hp hp3 hmap hb1 hx1
  unfold zlC estr at hw1 hl1
  unfold nmV at hl1
  go_enter Tryz.func65, Tryz.ntmps65
  go_upto_region 1 with fail
  rw [← hw1]
  clear hw1
  go_upto_region 4 with fail
  obtain ⟨w2, hw2⟩ : ∃ w2, w2 = w1.alloc (.cells #[.int .i64 0, .int .i64 0, .string ⟨#[]⟩, .int .i64 0, .slice none 0 0, .int .i64 0, .int .i64 0, .int .i64 0, .bool false] 49) := ⟨_, rfl⟩
  rw [← hw2]
  have hb2 : Below w1.heap.size w1 w2 := by rw [hw2]; exact below_one _ _
  have HX2 := Lib.hid (show w2.heap[w1.heap.size]? = some (.cells zlC 49 (0, 0)) by rw [hw2]; exact heap_at _ _ _ rfl)
  have HX12 := Lib.hid ((hb2.block _ (lt_of_heap HX1.out)).trans HX1.out)
  have HB2 := Lib.hid (below_step HB1.out hb2)
  clear hw2 hb2 hl1 c0 l0
  go_wp2_with (refine wpList_load_row rfl 49 (.tmp 8) rfl w1.heap.size rfl 49 zlC (0, 0) _ HX2.out Tryz.underlying49 rfl (by kernel_rfl) ?_)
  refine (ltwin0_any _).mono ?_
  rintro e w3 ⟨rfl, hb3⟩
  have HX3 := Lib.hid ((hb3.block _ (lt_of_heap HX12.out)).trans HX12.out)
  have HB3 := Lib.hid (below_step HB2.out hb3)
  clear hb3
  go_wp2_with (refine wpList_store_row rfl 49 (.tmp 6) (.tmp 25) rfl w.heap.size zlC rfl rfl 49 _ HX3.out (by kernel_rfl) rfl zlC_one ?_)
  refine bodyPost_ret (v := .tuple #[.agg zlC, .bool false]) (results_cell_tmp2 (fn := Tryz.f65) rfl _ _ w.heap.size 49 zlC (0, 0) _ _ rfl rfl (setRow_heap _ _ _ _ _ _ HX3.out) Tryz.underlying49 rfl (by kernel_rfl)) rfl ⟨rfl, below_row HB3.out (Nat.le_refl _) _⟩
set_option maxRecDepth 100000 in
set_option maxHeartbeats 2000000 in
theorem getH_some (F : Nat → Prop) (h : Nat) (rho : Int) (l : Ls) (w : World) (H : HoAt F h rho (some l) w) : Calls Tryz.prog 65 #[.pointer (some ⟨h, 0, none⟩), .int .i64 0, .int .i64 1] w (GetOk l w) := by
  obtain ⟨lk, hkey⟩ := keyN
  obtain ⟨w1, hw1⟩ : ∃ w1, w1 = w.alloc (.cells zlC 49) := ⟨_, rfl⟩
  have hb1 : Below w.heap.size w w1 := by rw [hw1]; exact below_one _ _
  have hx1 : w1.heap[w.heap.size]? = some (.cells zlC 49 (0, 0)) := by rw [hw1]; exact heap_at _ _ _ rfl
  obtain ⟨hm, hp, -, sb, so, sc, hmap, hiv⟩ := (H.below hb1).head
  have hl1 := mlook_one (w := w1) Tryz.nameK Tryz.underlying86 hmap hkey true
  have HB1 := Lib.hid hb1
  have HX1 := Lib.hid hx1
  have HIV := Lib.hid hiv
  have c0 := blk_cell hp
  have l0 := lt_of_heap hx1
  clear H hp hmap hb1 hx1 hiv
  obtain ⟨p, m, s, t, sent, exp⟩ := l
  simp only at hl1 HIV
  unfold zlC estr at hw1
  unfold nmV lC at hl1
  go_enter Tryz.func65, Tryz.ntmps65
  go_upto_region 1 with fail
  rw [← hw1]
  clear hw1
  go_upto_region 4 with fail
  obtain ⟨w2, hw2⟩ : ∃ w2, w2 = w1.alloc (.cells #[.int .i64 0, .int .i64 1, .string p, .int .i64 m, .slice (some ⟨sb, so, none⟩) 1 sc, .int .i64 t, .int .i64 sent, .int .i64 exp, .bool false] 49) := ⟨_, rfl⟩
  rw [← hw2]
  have hb2 : Below w1.heap.size w1 w2 := by rw [hw2]; exact below_one _ _
  have HX2 := Lib.hid (show w2.heap[w1.heap.size]? = some (.cells (lC p m (.slice (some ⟨sb, so, none⟩) 1 sc) t sent exp) 49 (0, 0)) by rw [hw2]; exact heap_at _ _ _ rfl)
  have HX12 := Lib.hid ((hb2.block _ (lt_of_heap HX1.out)).trans HX1.out)
  have HB2 := Lib.hid (below_step HB1.out hb2)
  have HIV2 := Lib.hid (HIV.out.below hb2)
  clear hw2 hb2 hl1 c0 l0
  go_wp2_with (refine wpList_load_row rfl 49 (.tmp 8) rfl w1.heap.size rfl 49 (lC p m (.slice (some ⟨sb, so, none⟩) 1 sc) t sent exp) (0, 0) _ HX2.out Tryz.underlying49 rfl (by kernel_rfl) ?_)
  refine (ltwin_any _ p m s t sent exp _ _ HIV2.out).mono ?_
  rintro e w3 ⟨vb, vc, rfl, hiv3, hb3⟩
  have HX3 := Lib.hid ((hb3.block _ (lt_of_heap HX12.out)).trans HX12.out)
  have HIV3 := Lib.hid hiv3
  have HB3 := Lib.hid (below_step HB2.out hb3)
  have HZ2 := Lib.hid (show w.heap.size < w2.heap.size from lt_of_heap HX12.out)
  clear hb3 hiv3
  go_wp2_with (refine wpList_store_row rfl 49 (.tmp 6) (.tmp 25) rfl w.heap.size (lC p m (.slice (some ⟨vb, 0, none⟩) 1 vc) t sent exp) rfl rfl 49 _ HX3.out (by kernel_rfl) rfl (lC_one _ _ _ _ _ _ _ _) ?_)
  have hz2 := HZ2.out
  refine bodyPost_ret (v := .tuple #[.agg (lC p m (.slice (some ⟨vb, 0, none⟩) 1 vc) t sent exp), .bool true]) (results_cell_tmp2 (fn := Tryz.f65) rfl _ _ w.heap.size 49 (lC p m (.slice (some ⟨vb, 0, none⟩) 1 vc) t sent exp) (0, 0) _ _ rfl rfl (setRow_heap _ _ _ _ _ _ HX3.out) Tryz.underlying49 rfl (by kernel_rfl)) rfl ⟨vb, vc, rfl, ?_, below_row HB3.out (Nat.le_refl _) _⟩
  exact (HIV3.out.keep (fun k hk hd => setRow_other w3 _ k _ (by have hd : w2.heap.size ≤ k := hd; omega)) (by rw [setRow_size]; exact Nat.le_refl _)).mono (fun k _ hd => by have hd : w2.heap.size ≤ k := hd; show w.heap.size ≤ k; omega)
end Go.Proofs.YtchdfogifhfclaaGreatDoor
