/- THE WALKS of subletref07: Look, Send, Double, Take. -/
import Derived.Test.YtdjgmgppghipkaaRef
namespace Go.Proofs.Ytdjgmgppghipkaa
open Go.RowKit

/-- The document's bag, a struct value. -/
structure RefB (R : Nat → Prop) (w : World) (v : Value) (m : Bg) : Prop where
  form : ∃ lv, v = .agg #[lv, .int .i64 m.sent, .int .i64 m.lost] ∧ PktsV R w lv m.l
  small : m.l.length ≤ 48
  lows : m.sent < 4611686018427387904
  low : m.lost < 4611686018427387904

theorem RefB.keep {R : Nat → Prop} {w w' : World} {v : Value} {m : Bg} (h : RefB R w v m) (hk : ∀ k, k < w.heap.size → R k → w'.heap[k]? = w.heap[k]?) (hs : w.heap.size ≤ w'.heap.size) : RefB R w' v m := by
  obtain ⟨⟨lv, e, hl⟩, h2, h3, h4⟩ := h
  exact ⟨⟨lv, e, hl.keep hk hs⟩, h2, h3, h4⟩
theorem RefB.mono {R R' : Nat → Prop} {w : World} {v : Value} {m : Bg} (h : RefB R w v m) (hR : ∀ k, k < w.heap.size → R k → R' k) : RefB R' w v m := by
  obtain ⟨⟨lv, e, hl⟩, h2, h3, h4⟩ := h
  exact ⟨⟨lv, e, hl.mono hR⟩, h2, h3, h4⟩

def RGot (R : Nat → Prop) (o : Option Pkt) (e : Ending) (w' : World) : Prop :=
  match o with
  | none => e = .returned (.tuple #[.agg #[.int .i64 0, .int .i64 0, .slice none 0 0], .bool false])
  | some q => ∃ dv, e = .returned (.tuple #[.agg #[.int .i64 q.src, .int .i64 q.dst, dv], .bool true]) ∧ BytesV R w' dv q.data

set_option maxHeartbeats 2000000 in
theorem rlook_any (R : Nat → Prop) (m : Bg) (v : Value) (k : Int) (w : World) (h : RefB R w v m) :
    Calls Try.prog 27 #[v, .int .i64 k] w fun e w' => RGot R (m.at_ k) e w' ∧ Below w.heap.size w w' := by
  obtain ⟨⟨lv, rfl, hl⟩, hsm, _, _⟩ := h
  have HL := Lib.hid hl
  obtain ⟨a, c, rfl, _⟩ := hl
  by_cases h0 : k < 0
  · have hat : m.at_ k = none := by unfold Bg.at_; rw [if_pos h0]
    rw [hat]
    go_enter Try.func27, Try.ntmps27
    go_wp2_with fail
    refine bodyPost_ret (v := .tuple #[.agg #[.int .i64 0, .int .i64 0, .slice none 0 0], .bool false]) (by simp [results, Try.results27, go_sem]) rfl ⟨rfl, ?_⟩
    exact ((Below.refl _ _).alloc (Nat.le_refl _) _).alloc (by simp) _
  · obtain ⟨i, rfl⟩ : ∃ i : Nat, k = i := ⟨k.toNat, by omega⟩
    have h0' : (0 : Int) ≤ (i : Int) := by omega
    by_cases h1 : i < m.l.length
    · obtain ⟨q, hq⟩ : ∃ q, m.l[i]? = some q := ⟨_, List.getElem?_eq_getElem h1⟩
      have hat : m.at_ (i : Int) = some q := by unfold Bg.at_; rw [if_neg (by omega)]; simpa using hq
      rw [hat]
      obtain ⟨b, o, c1, dv, e1, hc, hm, hbs, hR, a0, a1, a2, ad⟩ := HL.out.at_ hq
      injection e1 with e1 _ e2
      subst e1 e2
      have h1' : (i : Int) < (m.l.length : Int) := by omega
      have AD := Lib.hid ad
      obtain ⟨x1, x2, rfl, _⟩ := ad
      go_enter Try.func27, Try.ntmps27
      go_wp2_with fail
      have hB : Below w.heap.size w ((w.alloc (.cells #[.slice (some ⟨b, o, none⟩) m.l.length c, .int .i64 m.sent, .int .i64 m.lost] 48)).alloc (.cells #[.int .i64 q.src, .int .i64 q.dst, .slice x1 q.data.length x2] 30)) := ((Below.refl _ _).alloc (Nat.le_refl _) _).alloc (by simp) _
      exact bodyPost_ret (v := .tuple #[.agg #[.int .i64 q.src, .int .i64 q.dst, .slice x1 q.data.length x2], .bool true]) (by simp [results, Try.results27, go_sem]) rfl ⟨⟨_, rfl, AD.out.below hB⟩, hB⟩
    · have hat : m.at_ (i : Int) = none := by unfold Bg.at_; rw [if_neg (by omega)]; simp; omega
      rw [hat]
      have h1' : (m.l.length : Int) ≤ (i : Int) := by omega
      go_enter Try.func27, Try.ntmps27
      go_wp2_with fail
      refine bodyPost_ret (v := .tuple #[.agg #[.int .i64 0, .int .i64 0, .slice none 0 0], .bool false]) (by simp [results, Try.results27, go_sem]) rfl ⟨rfl, ?_⟩
      exact ((Below.refl _ _).alloc (Nat.le_refl _) _).alloc (by simp) _

theorem three (w : World) (o1 o2 o3 : Obj) : Below w.heap.size w (((w.alloc o1).alloc o2).alloc o3) := (((Below.refl _ _).alloc (Nat.le_refl _) _).alloc (by simp) _).alloc (by simp; omega) _
def RSent (R : Nat → Prop) (w : World) (m : Bg) (c : Int) (e : Ending) (w' : World) : Prop :=
  ∃ v', e = .returned (.tuple #[v', .int .i64 c]) ∧ RefB (fun k => R k ∨ w.heap.size ≤ k) w' v' m ∧ Below w.heap.size w w'

set_option maxHeartbeats 2000000 in
theorem rsend_any (R : Nat → Prop) (m : Bg) (q : Pkt) (v dv : Value) (w : World) (h : RefB R w v m) (hd : BytesV R w dv q.data) (hs : m.sent + 1 < 4611686018427387904) (hl : m.lost + 1 < 4611686018427387904) :
    Calls Try.prog 21 #[v, .agg #[.int .i64 q.src, .int .i64 q.dst, dv]] w (RSent R w (m.send q) (m.sendE q)) := by
  obtain ⟨⟨lv, rfl, hlv⟩, hsm, hs0, hl0⟩ := h
  have HL := Lib.hid hlv
  have HD := Lib.hid hd
  obtain ⟨a, c, rfl, _, hcm, _⟩ := hlv
  obtain ⟨xa, xc, rfl, _, hxm, _⟩ := hd
  unfold maxLen at hcm hxm
  by_cases h1 : 200 < q.data.length
  · have e1 : m.send q = ⟨m.l, m.sent, m.lost + 1⟩ := by unfold Bg.send; rw [if_pos h1]
    have e2 : m.sendE q = 41 := by unfold Bg.sendE; rw [if_pos h1]
    have hw : IntKind.i64.wrap ((m.lost : Int) + 1) = (m.lost : Int) + 1 := IntWalk.i64_in _ (by omega)
    rw [e1, e2]
    go_enter Try.func21, Try.ntmps21
    go_wp2_with fail
    refine bodyPost_ret (v := .tuple #[.agg #[.slice a m.l.length c, .int .i64 m.sent, .int .i64 ((m.lost : Int) + 1)], .int .i64 41]) (by simp [results, Try.results21, go_sem]) rfl ?_
    exact ⟨_, rfl, ⟨⟨_, by push_cast; rfl, (HL.out.below (three _ _ _ _)).mono (fun _ _ h => Or.inl h)⟩, hsm, hs0, hl⟩, three _ _ _ _⟩
  · by_cases h2 : 48 ≤ m.l.length
    · have e1 : m.send q = ⟨m.l, m.sent, m.lost + 1⟩ := by unfold Bg.send; rw [if_neg h1, if_pos h2]
      have e2 : m.sendE q = 51 := by unfold Bg.sendE; rw [if_neg h1, if_pos h2]
      have hw : IntKind.i64.wrap ((m.lost : Int) + 1) = (m.lost : Int) + 1 := IntWalk.i64_in _ (by omega)
      have hq : (m.l.length : Int) = 48 := by omega
      rw [e1, e2]
      go_enter Try.func21, Try.ntmps21
      go_wp2_with fail
      refine bodyPost_ret (v := .tuple #[.agg #[.slice a m.l.length c, .int .i64 m.sent, .int .i64 ((m.lost : Int) + 1)], .int .i64 51]) (by simp [results, Try.results21, go_sem]) rfl ?_
      exact ⟨_, rfl, ⟨⟨_, by push_cast; rfl, (HL.out.below (three _ _ _ _)).mono (fun _ _ h => Or.inl h)⟩, hsm, hs0, hl⟩, three _ _ _ _⟩
    · have e1 : m.send q = ⟨m.l ++ [q], m.sent + 1, m.lost⟩ := by unfold Bg.send; rw [if_neg h1, if_neg h2]
      have e2 : m.sendE q = 0 := by unfold Bg.sendE; rw [if_neg h1, if_neg h2]
      have hw : IntKind.i64.wrap ((m.sent : Int) + 1) = (m.sent : Int) + 1 := IntWalk.i64_in _ (by omega)
      have hq : ¬ (m.l.length : Int) = 48 := by omega
      rw [e1, e2]
      go_enter Try.func21, Try.ntmps21
      go_wp2_with fail
      refine (with_any (fun k => R k ∧ k < w.heap.size) m.l q _ _ _ ((HL.out.mono (fun k hk h => ⟨h, hk⟩)).below (three _ _ _ _)) ((HD.out.mono (fun k hk h => ⟨h, hk⟩)).below (three _ _ _ _)) (by omega)).mono ?_
      rintro e w4 ⟨v', rfl, hv', hb4⟩
      have hlen : (m.l ++ [q]).length = m.l.length + 1 := by simp
      obtain ⟨a4, c4, rfl, _⟩ := id hv'
      obtain ⟨a0, a1, a2, b0, b1, b2⟩ := blk3 ((hb4.block w.heap.size (by simp; omega)).trans (blk_alloc (blk_alloc (heap_at w _ _ rfl) _) _))
      obtain ⟨d0, d1, d2, e0, e1, e2⟩ := blk3 ((hb4.block (w.heap.size + 1 + 1) (by simp)).trans (heap_at _ _ _ (by simp)))
      have hs4 : w.heap.size + 1 + 1 + 1 ≤ w4.heap.size := by have := hb4.size; simpa using this
      have HV := Lib.hid hv'
      have HB := Lib.hid (below_step (three w _ _ _) hb4)
      clear hv' hb4
      go_wp2_with fail
      refine bodyPost_ret (v := .tuple #[.agg #[.slice a4 (m.l.length + 1) c4, .int .i64 ((m.sent : Int) + 1), .int .i64 m.lost], .int .i64 0]) (by simp [results, Try.results21, go_sem, d0, d1, d2]) rfl ?_
      rw [hlen] at HV
      refine ⟨_, rfl, ⟨⟨_, by push_cast; rfl, (HV.out.keep (fun k hk hg => ?_) (by simp [World.setCell])).mono (fun k _ h => h.imp (fun h => h.1) (fun h => by simp at h; omega))⟩, by simp; omega, hs, hl0⟩, (((HB.out.setCell (by simp) _).setCell (by simp; omega) _).setCell (by simp; omega) _).setCell (by simp; omega) _⟩
      have hk1 : k ≠ w.heap.size ∧ k ≠ w.heap.size + 1 + 1 := by
        rcases hg with h | h
        · omega
        · simp at h; omega
      exact (Below.heap_setCell _ ⟨w.heap.size + 1 + 1, 2, none⟩ _ k hk1.2).trans ((Below.heap_setCell _ ⟨w.heap.size + 1 + 1, 1, none⟩ _ k hk1.2).trans ((Below.heap_setCell _ ⟨w.heap.size + 1 + 1, 0, none⟩ _ k hk1.2).trans (Below.heap_setCell _ ⟨w.heap.size, 0, none⟩ _ k hk1.1)))
end Go.Proofs.Ytdjgmgppghipkaa
