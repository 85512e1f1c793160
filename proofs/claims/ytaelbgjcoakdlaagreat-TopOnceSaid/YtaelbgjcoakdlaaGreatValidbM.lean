/- Same: a message is the same as itself.  Valid: the messages that ever are may be.  Valid: the walk. -/
import Derived.Test.YtaelbgjcoakdlaaGreatRead
import Derived.Deep.RegionHeld3
import Derived.Deep.MidRow
import Derived.Laws.StructEq
namespace Go.Proofs.YtaelbgjcoakdlaaGreat
open Go.RowKit

theorem range_box {w : World} {p : Nat} {t : TypeId} {m : Ms} (h : w.heap[p]? = some (.cells m.cells t (0, 0))) : w.rangeAt p 0 m.cells.toList := fun j v hv => by
  rw [blk_cell h, Nat.zero_add, ← hv]; simp
def AllAt (w : World) (p : Nat) (A : Array Value) : Prop := ∀ i, w.cell? ⟨p, i, none⟩ = A[i]?
theorem AllAt.below {w w' : World} {p : Nat} {A : Array Value} (h : AllAt w p A) (hb : Below w.heap.size w w') (hA : 0 < A.size) : AllAt w' p A := fun i => by
  have h0 := h 0
  rw [Array.getElem?_eq_getElem hA] at h0
  have hp := World.block_lt_of_cell? w _ h0
  rw [← h i]
  exact hb.cell (p := ⟨p, i, none⟩) hp
def Ms.rest (m : Ms) : Array Value :=
  #[.int .i64 m.kind, .int .i64 m.src, .int .i64 m.dst, .int .i64 m.boot, .int .i64 m.seq, .int .i64 m.low, .int .i64 m.term, .int .i64 m.id, .int .i64 0, .int .i64 0, .int .i64 m.verb, .string estr, .int .i64 0, .bool false, .int .i64 m.code]
def RestIs (m : Ms) (w : World) (e : Ending) (w' : World) : Prop := e = .returned (.agg m.rest) ∧ Below w.heap.size w w'
set_option maxRecDepth 100000 in
set_option maxHeartbeats 2000000 in
theorem rest_any (m : Ms) (w : World) : Calls Tryz.prog 81 #[m.val] w (RestIs m w) := by
  have hm : MsgAt (w.alloc (.cells m.cells 51)) w.heap.size m := heap_at w _ _ rfl
  have HB := Lib.hid (show Below w.heap.size w (w.alloc (.cells m.cells 51)) from (Below.refl _ _).alloc (Nat.le_refl _) _)
  unfold Ms.val Ms.cells
  go_enter Tryz.func81, Tryz.ntmps81
  go_wp2_with fail
  exact bodyPost_ret (v := .agg m.rest) (results_cell_row (fn := Tryz.f81) rfl _ _ (w.heap.size + 1) 148 m.rest (0, 0) _ rfl (heap_at _ _ _ (by simp)) Tryz.underlying148 rfl (by kernel_rfl)) rfl ⟨rfl, HB.out.alloc HB.out.size _⟩
theorem equal0_any (w : World) : Calls Tryz.prog 80 #[.slice none 0 0, .slice none 0 0] w fun e w' => e = .returned (.bool true) ∧ w = w' := by
  go_enter Tryz.func80, Tryz.ntmps80
  go_wp2_with fail
  go_loopw [13] (fun i wt => i = .int .i64 0 ∧ wt = w) (fun _ _ => 0)
  case atStart => exact ⟨rfl, rfl⟩
  case round =>
    obtain ⟨rfl, hwt⟩ := hrel
    subst hwt
    go_wp2_with fail
    go_ret
    exact ⟨rfl, rfl⟩
set_option maxRecDepth 100000 in
set_option maxHeartbeats 2000000 in
theorem same_any (m : Ms) (w : World) : Calls Tryz.prog 47 #[m.val, m.val] w (Yes w) := by
  unfold Ms.val Ms.cells
  go_enter Tryz.func47, Tryz.ntmps47
  go_wp2_with fail
  refine (equal0_any _).mono ?_
  rintro e w1 ⟨rfl, hw⟩
  have r0 : AllAt w1 w.heap.size m.cells := by rw [← hw]; exact fun i => blk_cell (blk_alloc (heap_at w _ _ rfl) _) i
  have r1 : AllAt w1 (w.heap.size + 1) m.cells := by rw [← hw]; exact fun i => blk_cell (heap_at _ _ _ (by simp)) i
  have HB := Lib.hid (show Below w.heap.size w w1 by rw [← hw]; exact ((Below.refl _ _).alloc (Nat.le_refl _) _).alloc (by simp) _)
  clear hw
  unfold AllAt Ms.cells at r0 r1
  have HB0 := HB.out
  have HBd := below_step HB0 (below_drew w1)
  go_wp2_with fail
  go_region_held3 (fun u => (∀ i, u.cell? ⟨w.heap.size, i, none⟩ = #[.int .i64 m.kind, .int .i64 m.src, .int .i64 m.dst, .int .i64 m.boot, .int .i64 m.seq, .int .i64 m.low, .int .i64 m.verb, .string estr, .int .i64 0, .int .i64 m.term, .int .i64 m.id, .bool false, .int .i64 m.code, .slice none 0 0, .int .i64 0, .int .i64 0][i]?) ∧ (∀ i, u.cell? ⟨w.heap.size + 1, i, none⟩ = #[.int .i64 m.kind, .int .i64 m.src, .int .i64 m.dst, .int .i64 m.boot, .int .i64 m.seq, .int .i64 m.low, .int .i64 m.verb, .string estr, .int .i64 0, .int .i64 m.term, .int .i64 m.id, .bool false, .int .i64 m.code, .slice none 0 0, .int .i64 0, .int .i64 0][i]?) ∧ Below w.heap.size w u) (first | (go_split_ands; exact ⟨by assumption, by assumption, by assumption⟩) | go_keep) ((go_at_call 81; (refine (rest_any m _).mono ?_); rintro e w2 ⟨he, hb2⟩; unfold Ms.rest at he; subst he; go_split_ands; have k1 := AllAt.below (p := w.heap.size) (A := #[.int .i64 m.kind, .int .i64 m.src, .int .i64 m.dst, .int .i64 m.boot, .int .i64 m.seq, .int .i64 m.low, .int .i64 m.verb, .string estr, .int .i64 0, .int .i64 m.term, .int .i64 m.id, .bool false, .int .i64 m.code, .slice none 0 0, .int .i64 0, .int .i64 0]) (by assumption) hb2 (by simp); have k2 := AllAt.below (p := w.heap.size + 1) (A := #[.int .i64 m.kind, .int .i64 m.src, .int .i64 m.dst, .int .i64 m.boot, .int .i64 m.seq, .int .i64 m.low, .int .i64 m.verb, .string estr, .int .i64 0, .int .i64 m.term, .int .i64 m.id, .bool false, .int .i64 m.code, .slice none 0 0, .int .i64 0, .int .i64 0]) (by assumption) hb2 (by simp); unfold AllAt at k1 k2; have k3 := below_step (w := w) (by assumption) hb2))
  all_goals
    go_wp2_with fail
    go_ret
    exact ⟨rfl, by assumption⟩
end Go.Proofs.YtaelbgjcoakdlaaGreat
namespace Go.Proofs.YtaelbgjcoakdlaaGreat
open Go.RowKit

/-- A message that may be. -/
structure Fine (m : Ms) : Prop where
  msg : Msg m
  src : 0 ≤ m.src ∧ m.src < 8
  dst : 0 ≤ m.dst ∧ m.dst < 8
  ne : m.src ≠ m.dst
  fine : ∀ k ∈ kinds m, FineOK k m
def No (w : World) (e : Ending) (w' : World) : Prop := e = .returned (.bool false) ∧ Below w.heap.size w w'
theorem isNode_any (n : Int) (w : World) (h : 0 ≤ n ∧ n < 8) : Calls Tryz.prog 44 #[.int .i64 n] w fun e w' => e = .returned (.bool true) ∧ w = w' := by
  obtain ⟨h1, h2⟩ := h
  have d1 : decide (0 ≤ n) = true := decide_eq_true h1
  have d2 : decide (n < 8) = true := decide_eq_true h2
  go_enter Tryz.func44, Tryz.ntmps44
  go_wp2_with fail
  go_ret
  exact ⟨rfl, rfl⟩
/-- The closure in Valid: is the field not fine? -/
theorem unfine_any (k : FK) (F : Nat → Prop) (c0 c1 c2 : Value) (p : Nat) (m : Ms) (w : World) (hm : MsgAt w p m) (hf : FieldV w F k c0 c1 c2) (ho : FineOK k m) :
    Calls Tryz.prog 46 #[.agg #[c0, c1, c2], .pointer (some ⟨p, 0, none⟩)] w (No w) := by
  have hbA : Below w.heap.size w (w.alloc (.cells #[c0, c1, c2] 116)) := (Below.refl _ _).alloc (Nat.le_refl _) _
  obtain ⟨f, caps, e0, hE, hcall⟩ := FieldV.fine (hf.below hbA) p m (hm.below hbA) ho
  obtain ⟨f0, a0, f1, a1, f2, a2, rfl, rfl, rfl⟩ := hf.form
  injection e0 with e1 e2 e3
  injection e1 with e1
  subst e1 e3
  have HCALL := Lib.hid hcall
  have HBA := Lib.hid hbA
  have ef : ∀ (args : Array Value) (w : World), (callFunc f2 args).run Tryz.prog w = .ok (.enter f2 args) w := hE
  clear hm hf ho e2 hE hcall hbA
  go_enter Tryz.func46, Tryz.ntmps46
  go_wp2_with fail
  refine HCALL.out.mono ?_
  rintro e w1 ⟨rfl, hb⟩
  have HB := Lib.hid (below_step HBA.out hb)
  clear hb ef
  go_wp2_with fail
  go_ret
  exact ⟨rfl, HB.out⟩
def Neg (w : World) (e : Ending) (w' : World) : Prop := e = .returned (.int .i64 (-1)) ∧ Below w.heap.size w w'
set_option maxRecDepth 100000 in
set_option maxHeartbeats 2000000 in
theorem indexNone_any (F : Nat → Prop) (fv : Value) (ks : List FK) (p : Nat) (m : Ms) (w : World) (hm : MsgAt w p m) (hF : FieldsV w F fv ks) (hl : ks.length ≤ 6) (ho : ∀ k ∈ ks, FineOK k m) :
    Calls Tryz.prog 79 #[fv, .func (.func 46) #[] #[.pointer (some ⟨p, 0, none⟩)]] w (Neg w) := by
  have HO := Lib.hid ho
  have HM := Lib.hid hm
  have HF := Lib.hid hF
  obtain ⟨fa, fc, rfl⟩ := hF.form
  clear hm hF ho
  go_enter Tryz.func79, Tryz.ntmps79
  go_wp2_with fail
  go_loopw [8] (fun i wt => ∃ j : Nat, j ≤ ks.length ∧ i = .int .i64 j ∧ Below w.heap.size w wt) (fun i _ => ks.length - (intOf i).toNat)
  case atStart => exact ⟨0, by omega, rfl, Below.refl _ _⟩
  case round =>
    obtain ⟨j, hj, rfl, hB⟩ := hrel
    have HB := Lib.hid hB
    clear hB
    by_cases hlt : j < ks.length
    · obtain ⟨k, hk⟩ : ∃ k, ks[j]? = some k := ⟨_, List.getElem?_eq_getElem hlt⟩
      have HK := Lib.hid hk
      obtain ⟨g, fc', c0, c1, c2, e1, hg, hgl, hc, hcm, q0, q1, q2, hf⟩ := (HF.out.below HB.out).at_ hk
      obtain ⟨rfl, rfl⟩ : fa = some ⟨g, 0, none⟩ ∧ fc = fc' := by simpa using e1
      clear e1
      have HFK := Lib.hid hf
      obtain ⟨f0, a0, f1, a1, f2, a2, rfl, rfl, rfl⟩ := hf.form
      have k0 : (0 : Int) ≤ (j : Int) := by omega
      have k1 : (j : Int) < (ks.length : Int) := by omega
      have k2 : (j : Int) ≤ 6 := by omega
      clear hf hk
      go_wp2_with fail
      refine (unfine_any k F _ _ _ p m _ (HM.out.below HB.out) HFK.out (HO.out k (List.mem_of_getElem? HK.out))).mono ?_
      rintro e w1 ⟨rfl, hb1⟩
      have HB1 := Lib.hid (HB.out.trans (hb1.mono HB.out.size))
      clear hb1
      go_wp2_with fail
      exact ⟨⟨j + 1, by omega, by push_cast; rfl, HB1.out⟩, by simp only [intOf]; omega⟩
    · obtain rfl : j = ks.length := by omega
      go_wp2_with fail
      go_ret
      exact ⟨rfl, HB.out⟩
theorem containsNone_any (F : Nat → Prop) (fv : Value) (ks : List FK) (p : Nat) (m : Ms) (w : World) (hm : MsgAt w p m) (hF : FieldsV w F fv ks) (hl : ks.length ≤ 6) (ho : ∀ k ∈ ks, FineOK k m) :
    Calls Tryz.prog 45 #[fv, .func (.func 46) #[] #[.pointer (some ⟨p, 0, none⟩)]] w (No w) := by
  have HO := Lib.hid ho
  have HM := Lib.hid hm
  have HF := Lib.hid hF
  obtain ⟨fa, fc, rfl⟩ := hF.form
  clear hm hF ho
  go_enter Tryz.func45, Tryz.ntmps45
  go_wp2_with fail
  refine (indexNone_any F _ ks p m _ HM.out HF.out hl HO.out).mono ?_
  rintro e w1 ⟨rfl, hb⟩
  have HB := Lib.hid hb
  clear hb
  go_wp2_with fail
  go_ret
  exact ⟨rfl, HB.out⟩
end Go.Proofs.YtaelbgjcoakdlaaGreat
namespace Go.Proofs.YtaelbgjcoakdlaaGreat
open Go.RowKit

def Msg5 (m : Ms) : Prop := (m.kind == 5) = false ∧ (m.kind != 5) = true
theorem Fine.five {m : Ms} (h : Fine m) : Msg5 m := by
  rcases h.msg.shape with ⟨h1, _⟩ | ⟨h1, _⟩ <;> (rw [Msg5, h1]; exact ⟨rfl, rfl⟩)
theorem kinds_pos {m : Ms} (h : Fine m) : 0 < (kinds m).length := by
  rcases h.msg.shape with ⟨h1, h2, _⟩ | ⟨h1, _⟩
  · rw [kinds_ask h1 h2]; simp
  · rw [kinds_reply h1]; simp
def VS (w0 : World) (p : Nat) (m : Ms) (F : Nat → Prop) (fv : Value) (u : World) : Prop := MsgAt u p m ∧ FieldsV u F fv (kinds m) ∧ Below w0.heap.size w0 u
theorem VS.below {w0 u u' : World} {p : Nat} {m : Ms} {F : Nat → Prop} {fv : Value} (h : VS w0 p m F fv u) (hb : Below u.heap.size u u') : VS w0 p m F fv u' := ⟨h.1.below hb, h.2.1.below hb, below_step h.2.2 hb⟩
theorem containsNone_vs {w0 u : World} {p : Nat} {m : Ms} (F : Nat → Prop) (fv : Value) (h : VS w0 p m F fv u) (ho : Fine m) :
    Calls Tryz.prog 45 #[fv, .func (.func 46) #[] #[.pointer (some ⟨p, 0, none⟩)]] u (No u) :=
  containsNone_any F fv (kinds m) p m u h.1 h.2.1 (kinds_len m) ho.fine
theorem new_slice {w w' : World} {v : Value} {l : List UInt8} (h : NewBytes w w' v l) : ∃ a n c, v = .slice a n c := by
  obtain ⟨n, hn⟩ := h
  obtain ⟨a, c, rfl⟩ := own_slice hn
  exact ⟨_, _, _, rfl⟩
theorem new_read {w w' : World} {v : Value} {l : List UInt8} (h : NewBytes w w' v l) : BytesV (fun _ => True) w' v (l ++ []) := by
  obtain ⟨n, hn⟩ := h
  rw [List.append_nil]
  exact (BytesV.of_own hn).mono (fun _ _ _ => trivial)
theorem encM_len {m : Ms} (h : Fine m) : (encM m ++ []).length ≤ 1000 := by
  have HO := h.msg.ok
  have a1 := flat9 (fun n : Int => enc n.toNat) [m.kind, m.src, m.dst] (fun a ha => enc_le9 (HO.b a (by simp at ha ⊢; rcases ha with h | h | h <;> simp [h])))
  have a2 := flat9 (fun k : FK => enc (k.get m).toNat) (kinds m) (fun a _ => enc_le9 (HO.get a))
  have a3 := kinds_len m
  simp only [List.length_append, encF, encM, List.length_nil]
  simp only [List.length_cons, List.length_nil] at a1
  omega
set_option maxRecDepth 100000 in
set_option maxHeartbeats 4000000 in
theorem valid_any (m : Ms) (w : World) (h : Fine m) : Calls Tryz.prog 34 #[m.val] w (Yes w) := by
  have HO := Lib.hid h
  have hp := kinds_pos h
  have hne : (m.src == m.dst) = false := by have := h.ne; simp [this]
  obtain ⟨h5, h6⟩ := h.five
  have hn0 : (((kinds m).length : Int) == 0) = false := by rw [beq_eq_false_iff_ne]; omega
  have hm : MsgAt (w.alloc (.cells m.cells 51)) w.heap.size m := heap_at w _ _ rfl
  have HM := Lib.hid hm
  have HB := Lib.hid (show Below w.heap.size w (w.alloc (.cells m.cells 51)) from (Below.refl _ _).alloc (Nat.le_refl _) _)
  clear hm h
  unfold Ms.val Ms.cells
  go_enter Tryz.func34, Tryz.ntmps34
  go_wp2_with fail
  refine (fields_any w.heap.size m _ HM.out HO.out.msg.ok.kn).mono ?_
  rintro e w1 ⟨v, rfl, hF, hb1⟩
  have HF := Lib.hid hF.tight
  obtain ⟨fa, fc, rfl⟩ := hF.form
  have HM1 := Lib.hid (HM.out.below hb1)
  have HB1 := Lib.hid (below_step HB.out hb1)
  have hs1 := hb1.size
  obtain ⟨c0, c1, c2, c3, c4, c5, c6, c7, c8, c9, c10, c11, c12, c13, c14, c15⟩ := HM1.out.cell
  clear hF hb1 c3 c4 c5 c6 c7 c8 c9 c10 c11 c12 c13 c14 c15
  go_wp2_with fail
  refine (isNode_any m.src _ HO.out.src).mono ?_
  rintro e w2 ⟨rfl, rfl⟩
  go_wp2_with fail
  refine (isNode_any m.dst _ HO.out.dst).mono ?_
  rintro e w2 ⟨rfl, rfl⟩
  go_wp2_with fail
  have hVS : VS w w.heap.size m (fun b => (w.alloc (.cells m.cells 51)).heap.size ≤ b ∧ b < w1.heap.size) (.slice fa (kinds m).length fc) w1 := ⟨HM1.out, HF.out, HB1.out⟩
  have hVSd := hVS.below (below_drew w1)
  have hall : AllAt w1 w.heap.size m.cells := fun i => blk_cell HM1.out i
  have halld : AllAt w1.drew w.heap.size m.cells := fun i => blk_cell HM1.out i
  unfold AllAt Ms.cells at hall halld
  generalize hFd : (fun b => (w.alloc (.cells m.cells 51)).heap.size ≤ b ∧ b < w1.heap.size) = F at hVS hVSd
  have hk6 := kinds_len m
  clear hFd
  go_region_held3 (fun u => (∀ i, u.cell? ⟨w.heap.size, i, none⟩ = #[.int .i64 m.kind, .int .i64 m.src, .int .i64 m.dst, .int .i64 m.boot, .int .i64 m.seq, .int .i64 m.low, .int .i64 m.verb, .string estr, .int .i64 0, .int .i64 m.term, .int .i64 m.id, .bool false, .int .i64 m.code, .slice none 0 0, .int .i64 0, .int .i64 0][i]?) ∧ VS w w.heap.size m F (.slice fa (kinds m).length fc) u) (first | (go_split_ands; exact ⟨by assumption, by assumption⟩) | go_keep) (first
    | (go_at_call 45; (refine (containsNone_vs _ _ (by assumption) HO.out).mono ?_); rintro e w2 ⟨rfl, hb2⟩; go_split_ands; have k1 := AllAt.below (p := w.heap.size) (A := #[.int .i64 m.kind, .int .i64 m.src, .int .i64 m.dst, .int .i64 m.boot, .int .i64 m.seq, .int .i64 m.low, .int .i64 m.verb, .string estr, .int .i64 0, .int .i64 m.term, .int .i64 m.id, .bool false, .int .i64 m.code, .slice none 0 0, .int .i64 0, .int .i64 0]) (by assumption) hb2 (by simp); have k2 := VS.below (m := m) (fv := .slice fa (kinds m).length fc) (by assumption) hb2; unfold AllAt at k1)
    | (go_at_call 35; (refine (body_any m _ HO.out.msg.ok).mono ?_); rintro e w2 ⟨v, rfl, hv, hb2⟩; have hbv := new_read hv; (obtain ⟨va, vn, vc, rfl⟩ := new_slice hv); go_split_ands; have k1 := AllAt.below (p := w.heap.size) (A := #[.int .i64 m.kind, .int .i64 m.src, .int .i64 m.dst, .int .i64 m.boot, .int .i64 m.seq, .int .i64 m.low, .int .i64 m.verb, .string estr, .int .i64 0, .int .i64 m.term, .int .i64 m.id, .bool false, .int .i64 m.code, .slice none 0 0, .int .i64 0, .int .i64 0]) (by assumption) hb2 (by simp); have k2 := VS.below (m := m) (fv := .slice fa (kinds m).length fc) (by assumption) hb2; unfold AllAt at k1)
    | (go_at_call 31; (refine (read_any (fun _ => True) m [] _ _ HO.out.msg (by assumption) (encM_len HO.out)).mono ?_); rintro e w2 ⟨he, hb2⟩; unfold Ms.val Ms.cells at he; subst he; go_split_ands; have k1 := AllAt.below (p := w.heap.size) (A := #[.int .i64 m.kind, .int .i64 m.src, .int .i64 m.dst, .int .i64 m.boot, .int .i64 m.seq, .int .i64 m.low, .int .i64 m.verb, .string estr, .int .i64 0, .int .i64 m.term, .int .i64 m.id, .bool false, .int .i64 m.code, .slice none 0 0, .int .i64 0, .int .i64 0]) (by assumption) hb2 (by simp); have k2 := VS.below (m := m) (fv := .slice fa (kinds m).length fc) (by assumption) hb2; unfold AllAt at k1)
    | (go_at_call 47; (refine (same_any m _).mono ?_); rintro e w2 ⟨rfl, hb2⟩; go_split_ands; have k1 := AllAt.below (p := w.heap.size) (A := #[.int .i64 m.kind, .int .i64 m.src, .int .i64 m.dst, .int .i64 m.boot, .int .i64 m.seq, .int .i64 m.low, .int .i64 m.verb, .string estr, .int .i64 0, .int .i64 m.term, .int .i64 m.id, .bool false, .int .i64 m.code, .slice none 0 0, .int .i64 0, .int .i64 0]) (by assumption) hb2 (by simp); have k2 := VS.below (m := m) (fv := .slice fa (kinds m).length fc) (by assumption) hb2; unfold AllAt at k1))
  all_goals
    go_wp2_with fail
    go_ret
    exact ⟨rfl, (show VS w w.heap.size m F (.slice fa (kinds m).length fc) _ from by assumption).2.2⟩
end Go.Proofs.YtaelbgjcoakdlaaGreat
