/- read: a message's bytes are read back. -/
import Derived.Test.YtaelbgjcoakdlaaGreatBody
namespace Go.Proofs.YtaelbgjcoakdlaaGreat
open Go.RowKit

/-- The messages that ever are: an Ask to release, a Reply that is OK. -/
structure Msg (m : Ms) : Prop where
  shape : (m.kind = 1 ∧ m.verb = 3 ∧ m.term = 0 ∧ m.code = 0) ∨ (m.kind = 2 ∧ m.code = 0 ∧ m.low = 0 ∧ m.verb = 0 ∧ m.term = 0)
  b : ∀ x ∈ [m.kind, m.src, m.dst, m.boot, m.seq, m.low, m.verb, m.term, m.id, m.code], 0 ≤ x ∧ x ≤ 1099511627776
theorem Msg.ok {m : Ms} (h : Msg m) : MsOK m := ⟨by
  rcases h.shape with ⟨h1, h2, h3, h4⟩ | ⟨h1, h2, h3, h4, h5⟩
  · exact .inl ⟨h1, .inl h2⟩
  · exact .inr ⟨h1, h2⟩, by
  rcases h.shape with ⟨h1, h2, h3, h4⟩ | ⟨h1, h2, h3, h4, h5⟩ <;> omega, h.b⟩
theorem below_row {B g : Nat} {w0 w : World} (hb : Below B w0 w) (hBg : B ≤ g) (cs : Array Value) : Below B w0 (w.setRow g cs) :=
  ⟨hb.os, hb.tape, hb.output, by rw [setRow_size]; exact hb.size, fun k hk => (setRow_other w g k cs (by omega)).trans (hb.block k hk)⟩
theorem Ms.one (m : Ms) : m.cells.all (·.oneCell') = true := by simp [Ms.cells, Value.oneCell']
/-- What has been read after j fields. -/
def part (m : Ms) (j : Nat) : Ms := ((kinds m).take j).foldl (fun x k => k.put x (k.get m)) ⟨m.kind, m.src, m.dst, 0, 0, 0, 0, 0, 0, 0⟩
theorem part_zero (m : Ms) : part m 0 = ⟨m.kind, m.src, m.dst, 0, 0, 0, 0, 0, 0, 0⟩ := rfl
theorem part_succ (m : Ms) {j : Nat} {k : FK} (h : (kinds m)[j]? = some k) : part m (j + 1) = k.put (part m j) (k.get m) := by
  unfold part
  rw [List.take_add_one, h]
  simp
theorem kinds_ask {m : Ms} (h1 : m.kind = 1) (h2 : m.verb = 3) : kinds m = [.boot, .seq, .low, .verb, .id] := by unfold kinds; rw [if_pos h1, if_pos h2]; rfl
theorem kinds_ask0 {m : Ms} (h1 : m.kind = 1) (h2 : m.verb = 0) : kinds m = [.boot, .seq, .low, .verb, .bad] := by unfold kinds; rw [if_pos h1, if_neg (by omega)]; rfl
theorem kinds_reply {m : Ms} (h1 : m.kind = 2) : kinds m = [.boot, .seq, .code, .id, .term, .stamp] := by unfold kinds; rw [if_neg (by omega)]; rfl
/-- The fields that are known suffice. -/
theorem part_kinds {m : Ms} (h : Msg m) {j : Nat} (hj : j ≤ (kinds m).length) : Kn (part m j) ∧ (kinds (part m j)).length = (kinds m).length ∧ (∀ k, (kinds m)[j]? = some k → (kinds (part m j))[j]? = some k) := by
  rcases h.shape with ⟨h1, h2, h3, h4⟩ | ⟨h1, h2, h3, h4, h5⟩
  · have hk := kinds_ask h1 h2
    rw [hk] at hj
    have h0 : (part m j).kind = 1 ∧ ((part m j).verb = if 4 ≤ j then 3 else 0) := by
      unfold part
      rw [hk]
      simp only [List.length_cons, List.length_nil] at hj
      rcases (show j = 0 ∨ j = 1 ∨ j = 2 ∨ j = 3 ∨ j = 4 ∨ j = 5 from by omega) with rfl | rfl | rfl | rfl | rfl | rfl <;> simp [FK.put, FK.get, h1, h2]
    by_cases h6 : 4 ≤ j
    · rw [if_pos h6] at h0
      refine ⟨.inl ⟨h0.1, .inl h0.2⟩, ?_, ?_⟩
      · rw [kinds_ask h0.1 h0.2, hk]
      · rw [kinds_ask h0.1 h0.2, hk]; exact fun _ h => h
    · rw [if_neg h6] at h0
      refine ⟨.inl ⟨h0.1, .inr h0.2⟩, ?_, ?_⟩
      · rw [kinds_ask0 h0.1 h0.2, hk]; rfl
      · rw [kinds_ask0 h0.1 h0.2, hk]
        rcases (show j = 0 ∨ j = 1 ∨ j = 2 ∨ j = 3 from by omega) with rfl | rfl | rfl | rfl <;> exact fun _ h => h
  · have hk := kinds_reply h1
    rw [hk] at hj
    have h0 : (part m j).kind = 2 ∧ (part m j).code = 0 := by
      unfold part
      rw [hk]
      simp only [List.length_cons, List.length_nil] at hj
      rcases (show j = 0 ∨ j = 1 ∨ j = 2 ∨ j = 3 ∨ j = 4 ∨ j = 5 ∨ j = 6 from by omega) with rfl | rfl | rfl | rfl | rfl | rfl | rfl <;> simp [FK.put, FK.get, h1, h2]
    refine ⟨.inr h0, ?_, ?_⟩
    · rw [kinds_reply h0.1, hk]
    · rw [kinds_reply h0.1, hk]; exact fun _ h => h
theorem part_all {m : Ms} (h : Msg m) : part m (kinds m).length = m := by
  unfold part
  rw [List.take_of_length_le (Nat.le_refl _)]
  rcases h.shape with ⟨h1, h2, h3, h4⟩ | ⟨h1, h2, h3, h4, h5⟩
  · rw [kinds_ask h1 h2]
    cases m
    simp_all [FK.put, FK.get]
  · rw [kinds_reply h1]
    cases m
    simp_all [FK.put, FK.get]
theorem num_enc {n : Int} (h : 0 ≤ n ∧ n ≤ 1099511627776) (rest : List UInt8) : (Rd.mk (enc n.toNat ++ rest) 0).num = n.toNat ∧ (Rd.mk (enc n.toNat ++ rest) 0).numR = ⟨rest, 0⟩ := by
  have e := tk_enc n.toNat rest 0 0 (by simp; omega) (Or.inl rfl)
  unfold Rd.num Rd.numR
  simp [e]
/-- What is left behind j fields. -/
def leftF (m : Ms) (rest : List UInt8) (j : Nat) : List UInt8 := encF m ((kinds m).drop j) ++ rest
theorem leftF_succ (m : Ms) (rest : List UInt8) {j : Nat} {k : FK} (h : (kinds m)[j]? = some k) : leftF m rest j = enc (k.get m).toNat ++ leftF m rest (j + 1) := by
  obtain ⟨hl, hk⟩ := List.getElem?_eq_some_iff.1 h
  unfold leftF encF
  rw [List.drop_eq_getElem_cons hl, hk]
  simp
theorem read3 (m : Ms) (rest : List UInt8) (h : Msg m) :
    ((((Rd.mk (encM m ++ rest) 0).num : Nat) : Int) = m.kind ∧ (Rd.mk (encM m ++ rest) 0).numR = ⟨enc m.src.toNat ++ (enc m.dst.toNat ++ leftF m rest 0), 0⟩) ∧
    ((((Rd.mk (enc m.src.toNat ++ (enc m.dst.toNat ++ leftF m rest 0)) 0).num : Nat) : Int) = m.src ∧ (Rd.mk (enc m.src.toNat ++ (enc m.dst.toNat ++ leftF m rest 0)) 0).numR = ⟨enc m.dst.toNat ++ leftF m rest 0, 0⟩) ∧
    ((((Rd.mk (enc m.dst.toNat ++ leftF m rest 0) 0).num : Nat) : Int) = m.dst ∧ (Rd.mk (enc m.dst.toNat ++ leftF m rest 0) 0).numR = ⟨leftF m rest 0, 0⟩) := by
  have e : encM m ++ rest = enc m.kind.toNat ++ (enc m.src.toNat ++ (enc m.dst.toNat ++ leftF m rest 0)) := by
    unfold encM leftF
    simp
  rw [e]
  have h1 := h.b m.kind (by simp)
  have h2 := h.b m.src (by simp)
  have h3 := h.b m.dst (by simp)
  have n1 := num_enc h1 (enc m.src.toNat ++ (enc m.dst.toNat ++ leftF m rest 0))
  have n2 := num_enc h2 (enc m.dst.toNat ++ leftF m rest 0)
  have n3 := num_enc h3 (leftF m rest 0)
  exact ⟨⟨by rw [n1.1]; omega, n1.2⟩, ⟨by rw [n2.1]; omega, n2.2⟩, ⟨by rw [n3.1]; omega, n3.2⟩⟩
def ReadM (D : Nat → Prop) (m : Ms) (w : World) (e : Ending) (w' : World) : Prop := e = .returned m.val ∧ Below w.heap.size w w'
set_option maxRecDepth 100000 in
set_option maxHeartbeats 2000000 in
theorem read_any (D : Nat → Prop) (m : Ms) (rest : List UInt8) (dv : Value) (w : World) (h : Msg m) (hd : BytesV D w dv (encM m ++ rest)) (hl : (encM m ++ rest).length ≤ 1000) : Calls Tryz.prog 31 #[dv] w (ReadM D m w) := by
  have HO := Lib.hid h
  have hbA : Below w.heap.size w (w.alloc (.cells (⟨0, 0, 0, 0, 0, 0, 0, 0, 0, 0⟩ : Ms).cells 51)) := (Below.refl _ _).alloc (Nat.le_refl _) _
  have HD := Lib.hid (hd.below hbA)
  have hl' : (encM m ++ rest).length ≤ 140737488355328 := by omega
  have HBA := Lib.hid hbA
  clear hd hbA hl
  unfold Ms.cells at HD HBA
  go_enter Tryz.func31, Tryz.ntmps31
  go_wp2_with fail
  refine (newReader_any D _ dv _ HD.out hl').mono ?_
  rintro e w1 ⟨pr, rfl, hr1, hb1⟩
  have HB1 := Lib.hid hb1
  have HR1 := Lib.hid (hr1.mono (G' := fun k => w.heap.size + 1 ≤ k ∧ k < w1.heap.size) (fun k hk hg => ⟨by simp at hg; omega, hk⟩))
  have hs1 := hb1.size
  clear hr1 hb1
  have HX := Lib.hid (read3 m rest HO.out)
  have hpd : ¬ (w.heap.size + 1 ≤ w.heap.size) := by omega
  go_wp2_with fail
  refine (rnum_any _ pr _ _ HR1.out).mono ?_
  rintro e w2 ⟨rfl, hr2, hm2⟩
  rw [HX.out.1.2] at hr2
  rw [HX.out.1.1]
  have HR2 := Lib.hid hr2
  have HM2 := Lib.hid hm2
  have hs2 := hm2.size
  clear hr2 hm2
  go_wp2_with fail
  refine (rnum_any _ pr _ _ HR2.out).mono ?_
  rintro e w3 ⟨rfl, hr3, hm3⟩
  rw [HX.out.2.1.2] at hr3
  rw [HX.out.2.1.1]
  have HR3 := Lib.hid hr3
  have HM3 := Lib.hid hm3
  have hs3 := hm3.size
  clear hr3 hm3
  go_wp2_with fail
  refine (rnum_any _ pr _ _ HR3.out).mono ?_
  rintro e w4 ⟨rfl, hr4, hm4⟩
  rw [HX.out.2.2.2] at hr4
  rw [HX.out.2.2.1]
  have HR4 := Lib.hid hr4
  have MM := Lib.hid ((HM2.out.trans HM3.out (fun _ _ g => g)).trans hm4 (fun _ _ g => g))
  have hs4 := hm4.size
  have hsz : w.heap.size + 1 ≤ w1.heap.size := by simpa using hs1
  have BB : Hid (Below w.heap.size w w4) := Lib.hid ((HBA.out.trans (HB1.out.mono (by simp))).trans (MM.out.toBelow (by omega) (fun k hk => by omega)))
  have hres : w4.heap[w.heap.size]? = some (.cells (⟨0, 0, 0, 0, 0, 0, 0, 0, 0, 0⟩ : Ms).cells 51 (0, 0)) :=
    (MM.out.block _ (by omega) (by omega)).trans ((HB1.out.block _ (by simp)).trans (heap_at w _ _ rfl))
  have HRES := Lib.hid hres
  clear hr4 hm4 hres
  go_wp2_with fail
  go_loopw [5] (fun i wt => ∃ j : Nat, j ≤ (kinds m).length ∧ i = .int .i64 j ∧ RdAt (fun k => w.heap.size + 1 ≤ k ∧ k < w1.heap.size) wt pr ⟨leftF m rest j, 0⟩ ∧ MsgAt wt w4.heap.size (part m j) ∧ wt.heap[w.heap.size]? = some (.cells (⟨0, 0, 0, 0, 0, 0, 0, 0, 0, 0⟩ : Ms).cells 51 (0, 0)) ∧ Below w.heap.size w wt) (fun i _ => (kinds m).length - (intOf i).toNat)
  case atStart =>
    have hb5 : Below w4.heap.size w4 (w4.alloc (.cells (part m 0).cells 51)) := (Below.refl _ _).alloc (Nat.le_refl _) _
    exact ⟨0, by omega, rfl, HR4.out.below hb5, heap_at w4 _ _ rfl, blk_alloc HRES.out _, BB.out.alloc BB.out.size _⟩
  case round =>
    obtain ⟨j, hj, rfl, hr, hm, h0, hB⟩ := hrel
    have HR := Lib.hid hr
    have HM := Lib.hid hm
    have H0 := Lib.hid h0
    have HB := Lib.hid hB
    obtain ⟨hkn, hkl, hkj⟩ := part_kinds HO.out hj
    have HKN := Lib.hid hkn
    have HKL := Lib.hid hkl
    have HKJ := Lib.hid hkj
    have hpm : w4.heap.size < wr.heap.size := hm.lt
    clear hr hm h0 hB hkn hkl hkj
    go_wp2_with fail
    refine (fields_any w4.heap.size _ _ HM.out HKN.out).mono ?_
    rintro e w5 ⟨v, rfl, hF, hb5⟩
    obtain ⟨fa, fc, rfl⟩ := hF.form
    have HB5 := Lib.hid hb5
    have hs5 := hb5.size
    rw [HKL.out]
    clear hF hb5
    by_cases hlt : j < (kinds m).length
    · obtain ⟨k, hk⟩ : ∃ k, (kinds m)[j]? = some k := ⟨_, List.getElem?_eq_getElem hlt⟩
      have HK := Lib.hid hk
      have k0 : (0 : Int) ≤ (j : Int) := by omega
      have k1 : (j : Int) < ((kinds m).length : Int) := by omega
      have k2 : (j : Int) ≤ 6 := by have := kinds_len m; omega
      clear hk
      go_wp2_with fail
      refine (fields_any w4.heap.size _ _ (HM.out.below HB5.out) HKN.out).mono ?_
      rintro e w6 ⟨v, rfl, hF, hb6⟩
      have hnum := num_enc (HO.out.ok.get k) (leftF m rest (j + 1))
      rw [← leftF_succ m rest HK.out] at hnum
      have HN := Lib.hid hnum
      have hs6 := hb6.size
      obtain ⟨g, fc', c0, c1, c2, rfl, hg, hgl, hc, hcm, q0, q1, q2, hf⟩ := hF.at_ (HKJ.out k HK.out)
      obtain ⟨f, caps, e0, hE, hcall⟩ := FieldV.read hf (kinds_good HO.out.ok k (List.mem_of_getElem? HK.out)) (fun k => w.heap.size + 1 ≤ k ∧ k < w1.heap.size) pr w4.heap.size _ _ ((HR.out.below HB5.out).below hb6) ((HM.out.below HB5.out).below hb6) (fun b hb hg => by omega) (fun hg => by omega) (fun e => by subst e; rw [hnum.1]; rfl)
      obtain ⟨f0, a0, f1, a1, f2, a2, rfl, rfl, rfl⟩ := hf.form
      injection e0 with e1 e2 e3
      injection e1 with e1
      subst e1 e3
      have HCALL := Lib.hid hcall
      have HB6 := Lib.hid (below_step HB5.out hb6)
      have ef : ∀ (args : Array Value) (w : World), (callFunc f1 args).run Tryz.prog w = .ok (.enter f1 args) w := hE
      rw [HKL.out]
      clear hF hb6 hf hcall e2 hE hnum
      go_wp2_with fail
      refine HCALL.out.mono ?_
      rintro e w7 ⟨rfl, hr7, hm7, hmod⟩
      rw [HN.out.2] at hr7
      rw [HN.out.1, show ((((k.get m).toNat : Nat) : Int)) = k.get m from by have := HO.out.ok.get k; omega, ← part_succ m HK.out] at hm7
      have HR7 := Lib.hid hr7
      have HM7 := Lib.hid hm7
      have HMOD := Lib.hid hmod
      clear hr7 hm7 hmod ef
      go_wp2_with fail
      refine ⟨⟨j + 1, by omega, by push_cast; rfl, HR7.out, HM7.out, ?_, ?_⟩, by simp only [intOf]; omega⟩
      · exact (HMOD.out.block _ (by have := HB.out.size; omega) (by omega)).trans ((HB6.out.block _ (by have := HB.out.size; omega)).trans H0.out)
      · have h1 := HB.out.trans (HB6.out.mono HB.out.size)
        exact h1.trans (HMOD.out.toBelow (by have := HB.out.size; omega) (fun k hk => by omega))
    · obtain rfl : j = (kinds m).length := by omega
      have hM5 := HM.out.below HB5.out
      rw [part_all HO.out] at hM5
      have h05 := (HB5.out.block _ (by have := HB.out.size; omega)).trans H0.out
      have HM5 := Lib.hid hM5
      have H05 := Lib.hid h05
      clear hM5 h05
      go_wp2_with (first
        | (refine wpList_load_row rfl 51 (.tmp 4) rfl w4.heap.size rfl 51 m.cells (0, 0) _ HM5.out Tryz.underlying51 rfl (by kernel_rfl) ?_)
        | (refine wpList_store_row rfl 51 (.tmp 2) (.tmp 28) rfl w.heap.size m.cells rfl rfl 51 _ H05.out (by kernel_rfl) rfl (Ms.one m) ?_))
      have h1 := HB.out.trans (HB5.out.mono HB.out.size)
      exact bodyPost_ret (v := m.val) (results_cell_row (fn := Tryz.f31) rfl _ _ w.heap.size 51 m.cells (0, 0) _ rfl (setRow_heap _ _ _ _ _ _ H05.out) Tryz.underlying51 rfl (by kernel_rfl)) rfl ⟨rfl, below_row h1 (Nat.le_refl _) _⟩
end Go.Proofs.YtaelbgjcoakdlaaGreat
