/- Encode, Decode of the messages that ever are. -/
import Derived.Test.YtaelbgjcoakdlaaGreatValidbM
import Derived.Deep.WholeRow
namespace Go.Proofs.YtaelbgjcoakdlaaGreat
open Go.RowKit

/-- A message's bytes. -/
def code (m : Ms) : List UInt8 := encM m ++ four (sumOf (encM m))
theorem code_len {m : Ms} (h : Fine m) : (code m).length ≤ 85 := by
  have HO := h.msg.ok
  have a1 := flat9 (fun n : Int => enc n.toNat) [m.kind, m.src, m.dst] (fun a ha => enc_le9 (HO.b a (by simp at ha ⊢; rcases ha with h | h | h <;> simp [h])))
  have a2 := flat9 (fun k : FK => enc (k.get m).toNat) (kinds m) (fun a _ => enc_le9 (HO.get a))
  have a3 := kinds_len m
  have a4 : (four (sumOf (encM m))).length = 4 := rfl
  simp only [code, List.length_append, encF, encM] at a4 ⊢
  simp only [List.length_cons, List.length_nil] at a1
  omega
def EncPost (m : Ms) (w : World) (e : Ending) (w' : World) : Prop := ∃ v, e = .returned (.tuple #[v, .int .i64 0]) ∧ NewBytes w w' v (code m) ∧ Below w.heap.size w w'
set_option maxRecDepth 100000 in
set_option maxHeartbeats 4000000 in
theorem encode_any (m : Ms) (w : World) (h : Fine m) : Calls Tryz.prog 26 #[m.val] w (EncPost m w) := by
  obtain ⟨i0, hi, hz0, hz1, hz2⟩ := info_parts Tryz.info8
  have HO := Lib.hid h
  have hm : MsgAt (w.alloc (.cells m.cells 51)) w.heap.size m := heap_at w _ _ rfl
  have HM := Lib.hid hm
  have HB := Lib.hid (show Below w.heap.size w (w.alloc (.cells m.cells 51)) from (Below.refl _ _).alloc (Nat.le_refl _) _)
  have HL := Lib.hid (code_len h)
  clear hm h
  unfold Ms.val
  go_enter Tryz.func26, Tryz.ntmps26
  go_wp2_with (refine wpList_load_row rfl 51 (.tmp 1) rfl w.heap.size rfl 51 m.cells (0, 0) _ HM.out Tryz.underlying51 rfl (by kernel_rfl) ?_)
  refine (valid_any m _ HO.out).mono ?_
  rintro e w1 ⟨rfl, hb1⟩
  have HM1 := Lib.hid (HM.out.below hb1)
  have HB1 := Lib.hid (below_step HB.out hb1)
  clear hb1
  go_wp2_with (refine wpList_load_row rfl 51 (.tmp 1) rfl w.heap.size rfl 51 m.cells (0, 0) _ HM1.out Tryz.underlying51 rfl (by kernel_rfl) ?_)
  refine (body_any m _ HO.out.msg.ok).mono ?_
  rintro e w2 ⟨v, rfl, hv, hb2⟩
  obtain ⟨n, hn⟩ := hv
  obtain ⟨va, vc, rfl⟩ := own_slice hn
  have HN := Lib.hid hn
  have hln : (encM m).length = n := by simpa using hn.1
  have HLN := Lib.hid hln
  have hbv := Lib.hid (BytesV.of_own hn)
  have HB2 := Lib.hid (below_step HB1.out hb2)
  have hs1 := HB1.out.size
  have hs2 := hb2.size
  have h85 : n + 4 ≤ 85 := by have := HL.out; rw [code, List.length_append, hln] at this; exact this
  clear hb2 hn hln
  go_wp2_with fail
  refine (sum_any _ _ _ _ hbv.out).mono ?_
  rintro e w3 ⟨rfl, rfl⟩
  go_wp2_with fail
  refine (four_any _ _ (sumOf_lt _)).mono ?_
  rintro e w3 ⟨rfl, hw3⟩
  have hb4 : BytesV (fun k => k = w2.heap.size) w3 (.slice (some ⟨w2.heap.size, 0, none⟩) 4 4) (four (sumOf (encM m))) := by
    rw [hw3]
    exact BytesV.of_block (l := four (sumOf (encM m))) (heap_at w2 _ _ rfl) (fun j x hx => by simp [hx]) (Nat.le_refl _) (by decide)
  have HB4 := Lib.hid hb4
  have HN3 := Lib.hid (show w3.ownsRow w1.heap.size 5 1 (.slice va n vc) n ((encM m).map B8) by
    rw [hw3]; exact ownsRow_keep HN.out (fun g hg => heap_past w2 _ g (HN.out.lt g hg).2))
  have HB3 := Lib.hid (show Below w.heap.size w w3 by rw [hw3]; exact HB2.out.alloc HB2.out.size _)
  have hs3 : w1.heap.size ≤ w3.heap.size := by rw [hw3]; simp; omega
  have h4l : (four (sumOf (encM m))).length = 4 := rfl
  have H4L := Lib.hid h4l
  clear hw3 hb4 h4l
  go_wp2_with (at_builtin; refine wpList_append_bytes rfl (.tmp 10) (.tmp 13) _ rfl w1.heap.size 5 i0 Tryz.underlying39 hi hz0 hz1 hz2 _ n _ rfl HN3.out _ _ (four (sumOf (encM m))) rfl HB4.out (by rw [H4L.out]; omega) hs3 ?_; intro v5 w5 hown5 hgrow5 hat5; have HOWN := Lib.hid hown5; (obtain ⟨xa, xc, hxv⟩ := own_slice hown5); have HG5 := Lib.hid hgrow5; subst hxv; clear hown5 hgrow5 hat5)
  go_ret2
  refine ⟨_, rfl, ⟨n + (four (sumOf (encM m))).length, ?_⟩, HB3.out.grown HG5.out HB3.out.size (fun k hk => by have := (HN3.out.lt k hk).1; omega)⟩
  have := own_base HOWN.out (b' := w.heap.size) (by omega)
  rw [← List.map_append] at this
  exact this
theorem results_cell_tmp2 {P : Program} {fn : Func} {p q : Tmp} {ty : TypeId} (h : fn.results = #[.cell p ty, .tmp q]) (tmps : Array Value) (w : World) (g : Nat) (t : TypeId) (cs : Array Value) (fr : Nat × Nat) (d : TypeDesc) (v : Value)
    (hp : tmps.getD p undef = .pointer (some ⟨g, 0, none⟩)) (hq : tmps.getD q undef = v) (hg : w.heap[g]? = some (.cells cs t fr))
    (hu : P.underlying ty = some d) (hd : (match d with | .struct _ | .array _ _ => true | _ => false) = true) (hi : (P.info? ty).map (·.size) = some cs.size) :
    (results fn tmps).run P w = .ok (.tuple #[.agg cs, v]) w := by
  have hp' : tmps[p]?.getD undef = .pointer (some ⟨g, 0, none⟩) := by simpa using hp
  have hq' : tmps[q]?.getD undef = v := by simpa using hq
  simp [results, h, hp', hq', asAddr, run_loadVar_row w g t ty cs fr d hg hu hd hi]
def DecPost (m : Ms) (w : World) (e : Ending) (w' : World) : Prop := e = .returned (.tuple #[m.val, .int .i64 0]) ∧ Below w.heap.size w w'
set_option maxRecDepth 100000 in
set_option maxHeartbeats 4000000 in
theorem decode_any (D : Nat → Prop) (m : Ms) (dv : Value) (w : World) (h : Fine m) (hd : BytesV D w dv (code m)) : Calls Tryz.prog 19 #[dv] w (DecPost m w) := by
  have HO := Lib.hid h
  have hbA : Below w.heap.size w (w.alloc (.cells (⟨0, 0, 0, 0, 0, 0, 0, 0, 0, 0⟩ : Ms).cells 51)) := (Below.refl _ _).alloc (Nat.le_refl _) _
  have hres : MsgAt (w.alloc (.cells (⟨0, 0, 0, 0, 0, 0, 0, 0, 0, 0⟩ : Ms).cells 51)) w.heap.size ⟨0, 0, 0, 0, 0, 0, 0, 0, 0, 0⟩ := heap_at w _ _ rfl
  have hl := code_len h
  have HD := Lib.hid (hd.below hbA)
  have HBA := Lib.hid hbA
  have HR := Lib.hid hres
  obtain ⟨da, dc, rfl, _⟩ := hd
  have hl1 : decide (200 < ((code m).length : Int)) = false := by simp; omega
  clear hbA hres h
  unfold Ms.cells at HD HBA HR
  go_enter Tryz.func19, Tryz.ntmps19
  go_wp2_with fail
  refine (read_any D m (four (sumOf (encM m))) _ _ HO.out.msg HD.out (by have : (encM m ++ four (sumOf (encM m))).length ≤ 85 := hl; omega)).mono ?_
  rintro e w1 ⟨rfl, hb1⟩
  have HB1 := Lib.hid (below_step HBA.out hb1)
  have HR1 := Lib.hid (HR.out.below hb1)
  have HD1 := Lib.hid (HD.out.below hb1)
  have hs1 := hb1.size
  clear hb1
  have HM2 := Lib.hid (show MsgAt (w1.alloc (.cells m.cells 51)) w1.heap.size m from heap_at w1 _ _ rfl)
  have hbB : Below w1.heap.size w1 (w1.alloc (.cells m.cells 51)) := (Below.refl _ _).alloc (Nat.le_refl _) _
  have HB2 := Lib.hid (below_step HB1.out hbB)
  have HR2 := Lib.hid (HR1.out.below hbB)
  have HD2 := Lib.hid (HD1.out.below hbB)
  clear hbB
  go_wp2_with (first
    | (refine wpList_store_row rfl 51 (.tmp 4) (.tmp 12) rfl w1.heap.size m.cells rfl rfl 51 _ (heap_at w1 _ _ rfl) (by kernel_rfl) rfl (Ms.one m) ?_; rw [World.setRow_alloc_new])
    | (refine wpList_load_row rfl 51 (.tmp 4) rfl w1.heap.size rfl 51 m.cells (0, 0) _ HM2.out Tryz.underlying51 rfl (by kernel_rfl) ?_))
  refine (encode_any m _ HO.out).mono ?_
  rintro e w3 ⟨v, rfl, hv, hb3⟩
  obtain ⟨va, vn, vc, rfl⟩ := new_slice hv
  have hc1 : (convert 39 9 (.slice va vn vc)).run Tryz.prog w3 = .ok (.string (strOf (code m))) w3 := by
    have := new_read hv
    rw [List.append_nil] at this
    exact this.string 39 9 5 Tryz.underlying39 Tryz.underlying5 Tryz.underlying9 (fun _ _ _ => rfl)
  have hc2 : (convert 39 9 (.slice da (code m).length dc)).run Tryz.prog w3 = .ok (.string (strOf (code m))) w3 :=
    (HD2.out.below hb3).string 39 9 5 Tryz.underlying39 Tryz.underlying5 Tryz.underlying9 (fun _ _ _ => rfl)
  have HM3 := Lib.hid (HM2.out.below hb3)
  have HR3 := Lib.hid (HR2.out.below hb3)
  have HB3 := Lib.hid (below_step HB2.out hb3)
  clear hv hb3
  go_wp2_with (first
    | (refine wpList_load_row rfl 51 (.tmp 4) rfl w1.heap.size rfl 51 m.cells (0, 0) _ HM3.out Tryz.underlying51 rfl (by kernel_rfl) ?_)
    | (refine wpList_store_row rfl 51 (.tmp 2) (.tmp 28) rfl w.heap.size m.cells rfl rfl 51 _ HR3.out (by kernel_rfl) rfl (Ms.one m) ?_))
  exact bodyPost_ret (v := .tuple #[m.val, .int .i64 0]) (results_cell_tmp2 (fn := Tryz.f19) rfl _ _ w.heap.size 51 m.cells (0, 0) _ _ rfl rfl (setRow_heap _ _ _ _ _ _ HR3.out) Tryz.underlying51 rfl (by kernel_rfl)) rfl ⟨rfl, below_row HB3.out (Nat.le_refl _) _⟩
end Go.Proofs.YtaelbgjcoakdlaaGreat
