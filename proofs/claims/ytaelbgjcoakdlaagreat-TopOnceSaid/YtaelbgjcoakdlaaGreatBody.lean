/- body: a message's bytes, all but the checksum. -/
import Derived.Test.YtaelbgjcoakdlaaGreatClos
namespace Go.Proofs.YtaelbgjcoakdlaaGreat
open Go.RowKit

/-- The bytes of the fields. -/
def encF (m : Ms) (ks : List FK) : List UInt8 := ks.flatMap fun k => enc (k.get m).toNat
/-- The bytes of a message. -/
def encM (m : Ms) : List UInt8 := [m.kind, m.src, m.dst].flatMap (fun n => enc n.toNat) ++ encF m (kinds m)
/-- All numbers of a message are ints, and not great. -/
structure MsOK (m : Ms) : Prop where
  kn : Kn m
  verb : m.kind = 1 → m.verb = 3
  b : ∀ x ∈ [m.kind, m.src, m.dst, m.boot, m.seq, m.low, m.verb, m.term, m.id, m.code], 0 ≤ x ∧ x ≤ 1099511627776
theorem MsOK.get {m : Ms} (h : MsOK m) (k : FK) : 0 ≤ k.get m ∧ k.get m ≤ 1099511627776 := by
  have hb := h.b
  cases k <;> simp only [FK.get]
  · exact hb _ (by simp)
  · exact hb _ (by simp)
  · exact hb _ (by simp)
  · exact hb _ (by simp)
  · exact hb _ (by simp)
  · exact hb _ (by simp)
  · exact hb _ (by simp)
  · omega
  · omega
theorem kinds_good {m : Ms} (h : MsOK m) : ∀ k ∈ kinds m, k ≠ .bad := by
  intro k hk
  unfold kinds at hk
  by_cases h1 : m.kind = 1
  · rw [if_pos h1, if_pos (h.verb h1)] at hk
    simp at hk
    rcases hk with rfl | rfl | rfl | rfl | rfl <;> simp
  · rw [if_neg h1] at hk
    simp at hk
    rcases hk with rfl | rfl | rfl | rfl | rfl | rfl <;> simp
theorem kinds_len (m : Ms) : (kinds m).length ≤ 6 := by
  unfold kinds
  split
  · split <;> simp
  · simp
theorem enc_le9 {n : Int} (h : 0 ≤ n ∧ n ≤ 1099511627776) : (enc n.toNat).length ≤ 9 := enc_int _ (by omega)
theorem flat9 {α : Type} (f : α → List UInt8) : ∀ l : List α, (∀ a ∈ l, (f a).length ≤ 9) → (l.flatMap f).length ≤ 9 * l.length
  | [], _ => by simp
  | a :: l, h => by
    have h1 := flat9 f l (fun b hb => h b (List.mem_cons_of_mem _ hb))
    have h2 := h a List.mem_cons_self
    simp only [List.flatMap_cons, List.length_append, List.length_cons]
    omega
theorem take_flat {α : Type} (f : α → List UInt8) {l : List α} {k : Nat} {x : α} (h : l[k]? = some x) : (l.take (k + 1)).flatMap f = (l.take k).flatMap f ++ f x := by
  rw [List.take_add_one, h]
  simp
theorem own_base {w : World} {base b' : Nat} {e : TypeId} {size n : Nat} {v : Value} {xs : List Value} (h : w.ownsRow base e size v n xs) (hb : b' ≤ base) : w.ownsRow b' e size v n xs := by
  obtain ⟨h1, h2 | ⟨d, cap, cur, rfl, hb', r⟩⟩ := h
  · exact ⟨h1, .inl h2⟩
  · exact ⟨h1, .inr ⟨d, cap, cur, rfl, Nat.le_trans hb hb', r⟩⟩
set_option maxRecDepth 100000 in
set_option maxHeartbeats 2000000 in
theorem body_any (m : Ms) (w : World) (h : MsOK m) : Calls Tryz.prog 35 #[m.val] w fun e w' => ∃ v, e = .returned v ∧ NewBytes w w' v (encM m) ∧ Below w.heap.size w w' := by
  have HO := Lib.hid h
  obtain ⟨i0, hi, hz0, hz1, hz2⟩ := info_parts Tryz.info8
  have hm1 : MsgAt (w.alloc (.cells m.cells 51)) w.heap.size m := heap_at w _ _ rfl
  have hb1 : Below w.heap.size w (w.alloc (.cells m.cells 51)) := (Below.refl _ _).alloc (Nat.le_refl _) _
  unfold Ms.val
  go_enter Tryz.func35, Tryz.ntmps35
  unfold Ms.cells
  go_wp2_with fail
  go_loopw [16] (fun i wt => ∃ (j : Nat) (G : Nat → Prop), j ≤ 3 ∧ i = .int .i64 j ∧ WrAt G wt (w.heap.size + 1) (([m.kind, m.src, m.dst].take j).flatMap fun n => enc n.toNat) ∧ (∀ b, G b → w.heap.size + 1 ≤ b ∧ b < wt.heap.size ∧ b ≠ w.heap.size + 2) ∧ MsgAt wt w.heap.size m ∧ wt.heap[w.heap.size + 2]? = some (.cells #[.int .i64 m.kind, .int .i64 m.src, .int .i64 m.dst] 3 (0, 0)) ∧ Below w.heap.size w wt) (fun i _ => 3 - (intOf i).toNat)
  case atStart =>
    refine ⟨0, fun b => b = w.heap.size + 1, by omega, rfl, ⟨⟨rfl, by simp⟩, _, blk_alloc (heap_at _ _ _ (by simp)) _, World.ownsRow_nil _ _ _ _, fun g hg => by cases hg⟩, fun b hb => by subst hb; simp, blk_alloc (blk_alloc hm1 _) _, heap_at _ _ _ (by simp), (hb1.alloc (by simp) _).alloc (by simp; omega) _⟩
  case round =>
    obtain ⟨j, G, hj, rfl, hw, hG, hm, hx, hB⟩ := hrel
    have HW := Lib.hid hw
    have HG := Lib.hid hG
    have HM := Lib.hid hm
    have HX := Lib.hid hx
    have HB := Lib.hid hB
    have hpm : w.heap.size < wr.heap.size := hm.lt
    have hpx : w.heap.size + 2 < wr.heap.size := lt_of_heap hx
    by_cases hlt : j < 3
    · obtain ⟨n, hn⟩ : ∃ n, [m.kind, m.src, m.dst][j]? = some n := ⟨_, List.getElem?_eq_getElem (by simpa using hlt)⟩
      have hc : wr.cell? ⟨w.heap.size + 2, j, none⟩ = some (.int .i64 n) := by
        rw [blk_cell hx j]
        rcases (show j = 0 ∨ j = 1 ∨ j = 2 from by omega) with rfl | rfl | rfl <;> (simp at hn; subst hn; rfl)
      have hnb := HO.out.b n (by have := List.mem_of_getElem? hn; simp at this ⊢; rcases this with h | h | h <;> simp [h])
      have hl9 : ((([m.kind, m.src, m.dst].take j).flatMap fun n => enc n.toNat)).length ≤ 27 := by
        have := flat9 (fun n : Int => enc n.toNat) ([m.kind, m.src, m.dst].take j) (fun a ha => enc_le9 (HO.out.b a (by have := List.mem_of_mem_take ha; simp at this ⊢; rcases this with h | h | h <;> simp [h])))
        rw [List.length_take] at this
        simp at this
        simp
        omega
      have HN := Lib.hid hn
      clear hw hG hm hx hB hn
      go_wp2_with fail
      refine (wnum_any G (w.heap.size + 1) _ n _ HW.out (by omega) (by omega)).mono ?_
      rintro e w2 ⟨rfl, h2, hm2⟩
      have H2 := Lib.hid h2.tight
      have M2 := Lib.hid hm2
      have hs2 := hm2.size
      clear h2 hm2
      go_wp2_with fail
      refine ⟨⟨j + 1, _, by omega, by push_cast; rfl, by rw [take_flat _ HN.out]; exact H2.out, fun b hb => ?_, HM.out.keep (M2.out.block _ hpm (fun hg => by have := HG.out _ hg; omega)), (M2.out.block _ hpx (fun hg => by have := HG.out _ hg; omega)).trans HX.out, HB.out.trans (M2.out.toBelow HB.out.size (fun k hk => by have := HG.out k hk; omega))⟩, by simp only [intOf]; omega⟩
      rcases hb.1 with hg | hg
      · have := HG.out b hg; omega
      · have := hb.2; omega
    · obtain rfl : j = 3 := by omega
      clear hw hG hm hx hB
      go_wp2_with fail
      refine (fields_any w.heap.size m _ HM.out HO.out.kn).mono ?_
      rintro e w3 ⟨v, rfl, hF, hb3⟩
      have HF := Lib.hid hF.tight
      have HB3 := Lib.hid hb3
      obtain ⟨fa, fc, rfl⟩ := hF.form
      have hs3 := hb3.size
      have hs0 := HB.out.size
      clear hF hb3
      go_wp2_with fail
      go_loopw [25] (fun i wt => ∃ (j : Nat) (G2 F : Nat → Prop), j ≤ (kinds m).length ∧ i = .int .i64 j ∧ WrAt G2 wt (w.heap.size + 1) (([m.kind, m.src, m.dst].flatMap fun n => enc n.toNat) ++ encF m ((kinds m).take j)) ∧ (∀ b, G2 b → w.heap.size + 1 ≤ b ∧ b < wt.heap.size) ∧ (∀ b, F b → b < wt.heap.size ∧ ¬ G2 b) ∧ MsgAt wt w.heap.size m ∧ FieldsV wt F (.slice fa (kinds m).length fc) (kinds m) ∧ Below w.heap.size w wt) (fun i _ => (kinds m).length - (intOf i).toNat)
      case atStart =>
        refine ⟨0, G, _, by omega, rfl, ?_, fun b hb => by have := HG.out b hb; omega, fun b hb => ⟨hb.2, fun hg => by have h1 := HG.out b hg; have h2 := hb.1; omega⟩, HM.out.below HB3.out, HF.out, HB.out.trans (HB3.out.mono hs0)⟩
        have := HW.out.below HB3.out
        simpa [encF] using this
      case round =>
        obtain ⟨j, G2, F, hj2, rfl, hw, hG2, hFG, hm, hF, hB2⟩ := hrel
        have HW2 := Lib.hid hw
        have HG2 := Lib.hid hG2
        have HFG := Lib.hid hFG
        have HM2 := Lib.hid hm
        have HF2 := Lib.hid hF
        have HB2 := Lib.hid hB2
        clear hw hG2 hFG hm hF hB2
        have hl9 : (([m.kind, m.src, m.dst].flatMap fun n => enc n.toNat) ++ encF m ((kinds m).take j)).length ≤ 81 := by
          have a1 := flat9 (fun n : Int => enc n.toNat) [m.kind, m.src, m.dst] (fun a ha => enc_le9 (HO.out.b a (by simp at ha ⊢; rcases ha with h | h | h <;> simp [h])))
          have a2 := flat9 (fun k : FK => enc (k.get m).toNat) ((kinds m).take j) (fun a _ => enc_le9 (HO.out.get a))
          have a3 := kinds_len m
          simp only [List.length_append, encF]
          rw [List.length_take] at a2
          simp only [List.length_cons, List.length_nil] at a1
          omega
        by_cases hlt2 : j < (kinds m).length
        · obtain ⟨k, hk⟩ : ∃ k, (kinds m)[j]? = some k := ⟨_, List.getElem?_eq_getElem hlt2⟩
          obtain ⟨g, fc', c0, c1, c2, e1, hg, hgl, hc, hcm, q0, q1, q2, hf⟩ := HF2.out.at_ hk
          obtain ⟨rfl, rfl⟩ : fa = some ⟨g, 0, none⟩ ∧ fc = fc' := by simpa using e1
          clear e1
          have hbA : Below wr.heap.size wr (wr.alloc (.cells #[c0, c1, c2] 116)) := (Below.refl _ _).alloc (Nat.le_refl _) _
          obtain ⟨f, caps, e0, hE, hcall⟩ := FieldV.write (hf.below hbA) (kinds_good HO.out k (List.mem_of_getElem? hk)) G2 (w.heap.size + 1) w.heap.size _ m (HW2.out.below hbA) (HM2.out.below hbA) (by have := HO.out.get k; omega) (by omega) (fun b hb hg => (HFG.out b hb).2 hg) (fun hg => by have := HG2.out _ hg; omega)
          obtain ⟨f0, a0, f1, a1, f2, a2, rfl, rfl, rfl⟩ := hf.form
          injection e0 with e1 e2 e3
          injection e1 with e1
          subst e1 e3
          have HK := Lib.hid hk
          have HCALL := Lib.hid hcall
          have HBA := Lib.hid hbA
          have ef : ∀ (args : Array Value) (w : World), (callFunc f0 args).run Tryz.prog w = .ok (.enter f0 args) w := hE
          have k0 : (0 : Int) ≤ (j : Int) := by omega
          have k1 : (j : Int) < ((kinds m).length : Int) := by omega
          have k2 : (j : Int) ≤ 6 := by have := kinds_len m; omega
          have hsA : (wr.alloc (.cells #[.func (.func f0) #[] a0, .func (.func f1) #[] a1, .func (.func f2) #[] a2] 116)).heap.size = wr.heap.size + 1 := by simp
          have HSA := Lib.hid hsA
          clear hf hk hcall e2 hE hbA hsA
          go_wp2_with fail
          refine HCALL.out.mono ?_
          rintro e w4 ⟨rfl, h4, hm4⟩
          have H4 := Lib.hid h4.tight
          have M4 := Lib.hid hm4
          have hs4 := hm4.size
          clear h4 hm4 ef
          go_wp2_with fail
          refine ⟨⟨j + 1, fun k => Up G2 (wr.alloc (.cells #[.func (.func f0) #[] a0, .func (.func f1) #[] a1, .func (.func f2) #[] a2] 116)) k ∧ k < w4.heap.size, F, by omega, by push_cast; rfl, ?_, fun b hb => ?_, fun b hb => ?_, ?_, ?_, ?_⟩, by simp only [intOf]; omega⟩
          · have := H4.out
            rw [List.append_assoc] at this
            rw [show encF m ((kinds m).take (j + 1)) = encF m ((kinds m).take j) ++ enc (k.get m).toNat from take_flat _ HK.out]
            exact this
          · rcases hb.1 with hg | hg
            · have := HG2.out b hg; exact ⟨this.1, hb.2⟩
            · rw [HSA.out] at hg; have := HM2.out.lt; exact ⟨by omega, hb.2⟩
          · have h1 := HFG.out b hb
            rw [HSA.out] at hs4
            refine ⟨by omega, fun hg => ?_⟩
            rcases hg.1 with hg | hg
            · exact h1.2 hg
            · rw [HSA.out] at hg; omega
          · refine (HM2.out.below HBA.out).keep (M4.out.block _ (by rw [HSA.out]; have := HM2.out.lt; omega) (fun hg => by have := HG2.out _ hg; omega))
          · refine (HF2.out.below HBA.out).keep (fun b hb hl => M4.out.block _ hl (HFG.out b hb).2)
          · have := M4.out.toBelow (B := w.heap.size) (by rw [HSA.out]; have := HB2.out.size; omega) (fun k hk => by have := HG2.out k hk; omega)
            exact (HB2.out.alloc HB2.out.size _).trans this
        · obtain rfl : j = (kinds m).length := by omega
          go_wp2_with fail
          refine (bytes_any G2 _ _ _ HW2.out (by omega)).mono ?_
          rintro e w5 ⟨v, rfl, hv, hb5⟩
          have HV := Lib.hid hv
          have HB5 := Lib.hid hb5
          obtain ⟨n, hn⟩ := hv
          obtain ⟨va, vc, rfl⟩ := own_slice hn
          have hs5 := HB2.out.size
          clear hn hb5
          go_wp2_with fail
          go_ret
          refine ⟨_, rfl, ?_, HB2.out.trans (HB5.out.mono hs5)⟩
          obtain ⟨n, hn⟩ := HV.out
          refine ⟨n, ?_⟩
          rw [List.take_of_length_le (Nat.le_refl _)] at hn
          exact own_base hn hs5
end Go.Proofs.YtaelbgjcoakdlaaGreat
