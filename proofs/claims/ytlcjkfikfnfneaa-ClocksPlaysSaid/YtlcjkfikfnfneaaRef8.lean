/- THE WALKS of subletref08: New, At. -/
import Derived.Test.YtlcjkfikfnfneaaLawForth
namespace Go.Proofs.Ytlcjkfikfnfneaa
open Go.RowKit

theorem set3 (w : World) (b : Nat) (x y z : Value) (k : Nat) (hk : k ≠ b) : (((w.setCell ⟨b, 0, none⟩ x).setCell ⟨b, 1, none⟩ y).setCell ⟨b, 2, none⟩ z).heap[k]? = w.heap[k]? :=
  ((Below.heap_setCell _ ⟨b, 2, none⟩ _ k hk).trans (Below.heap_setCell _ ⟨b, 1, none⟩ _ k hk)).trans (Below.heap_setCell _ ⟨b, 0, none⟩ _ k hk)
/-- What the document's New answers. -/
def RNew (n : Nat) (w : World) (e : Ending) (w' : World) : Prop :=
  ∃ a c, e = .returned (.tuple #[.agg #[.int .i64 0, .slice a n c, .int .i64 0], .int .i64 0]) ∧ IntsV (fun k => w.heap.size ≤ k) w' (.slice a n c) (List.replicate n 0) ∧ Below w.heap.size w w'
set_option maxHeartbeats 1000000 in
theorem rnew_no (n : Int) (w : World) (h : ¬ (1 ≤ n ∧ n ≤ 8)) :
    Calls Try.prog 13 #[.int .i64 n] w fun e w' => e = .returned (.tuple #[.agg #[.int .i64 0, .slice none 0 0, .int .i64 0], .int .i64 2]) ∧ Below w.heap.size w w' := by
  rcases (show n < 1 ∨ (¬ n < 1 ∧ 8 < n) from by omega) with h1 | ⟨h1, h2⟩
  all_goals
    clear h
    go_enter Try.func13, Try.ntmps13
    go_wp2_with fail
    refine bodyPost_ret (v := .tuple #[.agg #[.int .i64 0, .slice none 0 0, .int .i64 0], .int .i64 2]) (by simp [results, Try.results13, go_sem]) rfl ⟨rfl, ?_⟩
    exact (Below.refl _ _).alloc (Nat.le_refl _) _
set_option maxHeartbeats 1000000 in
theorem rnew_ok (n : Nat) (w : World) (h : 1 ≤ n ∧ n ≤ 8) : Calls Try.prog 13 #[.int .i64 n] w (RNew n w) := by
  obtain ⟨i0, hi, hz0, hz1, hz2⟩ := info_parts Try.info3
  obtain ⟨h1, h8⟩ := h
  have q1 : decide ((n : Int) < 1) = false := decide_eq_false (by omega)
  have q2 : decide ((8 : Int) < (n : Int)) = false := decide_eq_false (by omega)
  have hd : Below w.heap.size w (w.alloc (.cells #[.int .i64 0, .slice none 0 0, .int .i64 0] 33)) := (Below.refl _ _).alloc (Nat.le_refl _) _
  have HX0 := Lib.hid (heap_at w (.cells #[.int .i64 0, .slice none 0 0, .int .i64 0] 33) _ rfl)
  have HD := Lib.hid hd
  clear hd
  go_enter Try.func13, Try.ntmps13
  go_wp2_with fail
  obtain ⟨W0, hW0⟩ : ∃ W0, W0 = w.alloc (.cells #[.int .i64 0, .slice none 0 0, .int .i64 0] 33) := ⟨_, rfl⟩
  rw [← hW0] at HX0 HD
  rw [← hW0]
  clear hW0
  go_loopw [4, 5] (fun v i wr => ∃ k : Nat, k ≤ n ∧ i = .int .i64 k ∧ wr.ownsRow W0.heap.size 3 1 v k ((List.replicate k 0).map I8) ∧ Below W0.heap.size W0 wr) (fun _ i _ => n - (intOf i).toNat)
  case atStart => exact ⟨0, by omega, rfl, World.ownsRow_nil _ _ _ _, Below.refl _ _⟩
  case round =>
    obtain ⟨k, hk, rfl, hown, hB⟩ := hrel
    obtain ⟨ax, cx, rfl⟩ := own_slice hown
    have HO := Lib.hid hown
    have HB := Lib.hid hB
    have hs := hB.size
    have hl0 := lt_of_heap HX0.out
    have hX := (hB.block _ hl0).trans HX0.out
    have HX := Lib.hid hX
    clear hown hB
    by_cases hkm : k < n
    · clear hX
      go_wp2_with (at_builtin; refine wpList_append_lies _ rfl (.tmp 18) (.tmp 19) _ rfl W0.heap.size 3 i0 _ 1 8 Try.underlying27 hi hz0 hz1 hz2 rfl (by omega) (.slice ax k cx) k _ rfl (HO.out.alloc _) ⟨wr.heap.size, 0, none⟩ 1 1 [.int .i64 0] rfl rfl (World.news_of_block (cs := #[.int .i64 0]) (t := 3) (fr := (0, 0)) (heap_at _ _ _ rfl)) (by simp [Value.oneCell']) (by omega) (by unfold maxLen; omega) (by omega) (by simp; omega) (wr.heap.size + 1) (by simp) ?_; intro g3 cap3 w5 hown3 hgrow3 hat3 hlt3)
      refine ⟨⟨k + 1, by omega, by push_cast; rfl, ?_, (HB.out.alloc hs _).grown hgrow3 (by simp; omega) (fun q hq => (HO.out.lt q hq).1)⟩, by simp only [intOf]; omega⟩
      rw [List.replicate_succ', List.map_append]
      exact hown3
    · obtain rfl : n = k := by omega
      obtain ⟨c0, c1, c2, f0, f1, f2⟩ := blk3 hX
      have hl1 : w.heap.size < wr.heap.size := by omega
      have hne := fun e => (show ¬ (w.heap.size < W0.heap.size ∧ W0.heap.size ≤ w.heap.size) from by omega) e
      clear hX
      go_wp2_with fail
      refine bodyPost_ret (v := .tuple #[.agg #[.int .i64 0, .slice ax n cx, .int .i64 0], .int .i64 0]) (by simp [results, Try.results13, go_sem, c0, c1, c2]) rfl ?_
      have hI := (IntsV.of_own HO.out).keep (w' := ((wr.setCell ⟨w.heap.size, 0, none⟩ (.int .i64 0)).setCell ⟨w.heap.size, 1, none⟩ (.slice ax n cx)).setCell ⟨w.heap.size, 2, none⟩ (.int .i64 0)) (fun k _ hk => set3 wr _ _ _ _ k (by omega)) (by simp [World.setCell])
      exact ⟨ax, cx, rfl, by simpa using hI.mono (fun k _ hk => Nat.le_of_lt (Nat.lt_of_lt_of_le hl0 hk)), (((HD.out.trans (HB.out.mono HD.out.size)).setCell (Nat.le_refl _) _).setCell (Nat.le_refl _) _).setCell (Nat.le_refl _) _⟩

set_option maxHeartbeats 1000000 in
theorem rat_any (c : Ck) (D : Nat → Prop) (nv : Value) (i : Int) (w : World) (hv : IntsV D w nv c.now) : Calls Try.prog 17 #[.agg #[.int .i64 c.passed, nv, .int .i64 c.drift], .int .i64 i] w fun e w' => e = .returned (.int .i64 (c.at_ i)) ∧ Below w.heap.size w w' := by
  have HV := Lib.hid hv
  obtain ⟨a, cp, rfl, hc, hcm, _⟩ := hv
  unfold maxLen at hcm
  by_cases h0 : i < 0
  · have hr : c.at_ i = 0 := by unfold Ck.at_; rw [if_pos (Or.inl h0)]
    rw [hr]
    clear hr
    go_enter Try.func17, Try.ntmps17
    go_wp2_with fail
    go_ret
    exact ⟨rfl, (Below.refl _ _).alloc (Nat.le_refl _) _⟩
  · obtain ⟨k, rfl⟩ : ∃ k : Nat, i = k := ⟨i.toNat, by omega⟩
    have h0' : ¬ (k : Int) < 0 := h0
    have k0 : (0 : Int) ≤ (k : Int) := by omega
    by_cases h1 : k < c.now.length
    · obtain ⟨x, hx⟩ : ∃ x, c.now[k]? = some x := ⟨_, List.getElem?_eq_getElem h1⟩
      have hr : c.at_ (k : Int) = x := Ck.at_of hx
      rw [hr]
      obtain ⟨b, o, c', e1, _, _, hb, _, t0⟩ := (HV.out.below ((Below.refl _ _).alloc (Nat.le_refl _) (.cells #[.int .i64 c.passed, .slice a c.now.length cp, .int .i64 c.drift] 33))).at_ hx
      injection e1 with e1 _ e2
      subst e1 e2
      have h1' : (k : Int) < (c.now.length : Int) := by omega
      clear hr hx h0 hb
      go_enter Try.func17, Try.ntmps17
      go_wp2_with fail
      go_ret
      exact ⟨rfl, (Below.refl _ _).alloc (Nat.le_refl _) _⟩
    · have hr : c.at_ (k : Int) = 0 := by unfold Ck.at_; rw [if_pos (by omega)]
      rw [hr]
      have h1' : (c.now.length : Int) ≤ (k : Int) := by omega
      clear hr h0
      go_enter Try.func17, Try.ntmps17
      go_wp2_with fail
      go_ret
      exact ⟨rfl, (Below.refl _ _).alloc (Nat.le_refl _) _⟩
/-- What the document's Tick answers. -/
def RTick (D : Nat → Prop) (w : World) (c' : Ck) (n : Nat) (e : Ending) (w' : World) : Prop :=
  ∃ a m cp, e = .returned (.tuple #[.agg #[.int .i64 c'.passed, .slice a m cp, .int .i64 c'.drift], .int .i64 n]) ∧ IntsV (fun k => D k ∨ w.heap.size ≤ k) w' (.slice a m cp) c'.now ∧ Below w.heap.size w w'
end Go.Proofs.Ytlcjkfikfnfneaa
