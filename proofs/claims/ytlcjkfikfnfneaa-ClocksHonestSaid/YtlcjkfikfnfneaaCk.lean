/- THE WALKS of package clocks, but Tick. -/
import Derived.Test.YtlcjkfikfnfneaaCkp
import Derived.Test.YtlcjkfikfnfneaaTermr
namespace Go.Proofs.Ytlcjkfikfnfneaa
open Go.RowKit

/-- Clocks at p, their times at g. -/
structure CkAt (w : World) (p g : Nat) (c : Ck) : Prop where
  hp : w.heap[p]? = some (.cells #[.slice (some ⟨g, 0, none⟩) c.now.length c.now.length, .int .i64 c.passed, .int .i64 c.drift] 48 (0, 0))
  hg : w.heap[g]? = some (.cells (c.now.map I8).toArray 3 (0, 0))
  ne : p ≠ g
def Fpg (p g : Nat) (k : Nat) : Prop := k = p ∨ k = g
theorem CkAt.keep {w w' : World} {p g : Nat} {c : Ck} (h : CkAt w p g c) (hk : ∀ k, Fpg p g k → w'.heap[k]? = w.heap[k]?) : CkAt w' p g c :=
  ⟨(hk p (Or.inl rfl)).trans h.hp, (hk g (Or.inr rfl)).trans h.hg, h.ne⟩
theorem CkAt.lt {w : World} {p g : Nat} {c : Ck} (h : CkAt w p g c) : p < w.heap.size ∧ g < w.heap.size := ⟨lt_of_heap h.hp, lt_of_heap h.hg⟩
theorem CkAt.below {w w' : World} {p g : Nat} {c : Ck} (h : CkAt w p g c) (hb : Below w.heap.size w w') : CkAt w' p g c :=
  h.keep (fun k hk => hb.block k (by rcases hk with rfl | rfl; exact h.lt.1; exact h.lt.2))
theorem CkAt.mod {w w' : World} {F : Nat → Prop} {p g : Nat} {c : Ck} (h : CkAt w p g c) (hm : Mod F w w') (hp : ¬ F p) (hg : ¬ F g) : CkAt w' p g c :=
  h.keep (fun k hk => hm.block k (by rcases hk with rfl | rfl; exact h.lt.1; exact h.lt.2) (by rcases hk with rfl | rfl; exact hp; exact hg))
theorem below_drew (w : World) : Below w.heap.size w w.drew := ⟨rfl, rfl, rfl, Nat.le_refl _, fun _ _ => rfl⟩
theorem below_drewN (w : World) (n : Nat) : Below w.heap.size w (w.drewN n) := ⟨rfl, rfl, rfl, Nat.le_refl _, fun _ _ => rfl⟩
theorem CkAt.drew {w : World} {p g : Nat} {c : Ck} (h : CkAt w p g c) : CkAt w.drew p g c := h.below (below_drew w)
theorem CkAt.drewN {w : World} {p g : Nat} {c : Ck} (h : CkAt w p g c) (n : Nat) : CkAt (w.drewN n) p g c := h.below (below_drewN w n)
theorem CkAt.cells {w : World} {p g : Nat} {c : Ck} (h : CkAt w p g c) : w.cell? ⟨p, 0, none⟩ = some (.slice (some ⟨g, 0, none⟩) c.now.length c.now.length) ∧ w.cell? ⟨p, 1, none⟩ = some (.int .i64 c.passed) ∧ w.cell? ⟨p, 2, none⟩ = some (.int .i64 c.drift) ∧ w.frozen? ⟨p, 0, none⟩ = false ∧ w.frozen? ⟨p, 1, none⟩ = false ∧ w.frozen? ⟨p, 2, none⟩ = false := blk3 h.hp
theorem CkAt.time {w : World} {p g : Nat} {c : Ck} (h : CkAt w p g c) {j : Nat} {x : Int} (hx : c.now[j]? = some x) : w.cell? ⟨g, j, none⟩ = some (.int .i64 x) ∧ w.frozen? ⟨g, j, none⟩ = false :=
  ⟨(blk_cell h.hg j).trans (by simp [hx, I8]), blk_free h.hg j⟩

/-- What New answers. -/
def NewCk (n : Int) (w : World) (e : Ending) (w' : World) : Prop :=
  ∃ p g, e = .returned (.tuple #[.pointer (some ⟨p, 0, none⟩), .int .i64 0]) ∧ CkAt w' p g (Ck.start n.toNat) ∧ w.heap.size ≤ p ∧ w.heap.size ≤ g ∧ Below w.heap.size w w'

set_option maxHeartbeats 400000 in
theorem new_no (n : Int) (w : World) (h : ¬ (1 ≤ n ∧ n ≤ 8)) :
    Calls Try.prog 8 #[.int .i64 n] w fun e w' => e = .returned (.tuple #[.pointer none, .int .i64 2]) ∧ w = w' := by
  by_cases h1 : n < 1
  · clear h
    go_enter Try.func8, Try.ntmps8
    go_wp2
    go_ret2
    exact ⟨rfl, rfl⟩
  · have h2 : 8 < n := by omega
    clear h
    go_enter Try.func8, Try.ntmps8
    go_wp2
    go_ret2
    exact ⟨rfl, rfl⟩
set_option maxHeartbeats 1000000 in
theorem new_ok (n : Int) (w : World) (h : 1 ≤ n ∧ n ≤ 8) : Calls Try.prog 8 #[.int .i64 n] w (NewCk n w) := by
  obtain ⟨i0, hi, hz0, hz1, hz2⟩ := info_parts Try.info3
  obtain ⟨h1, h8⟩ := h
  obtain ⟨m, rfl⟩ : ∃ m : Nat, n = m := ⟨n.toNat, by omega⟩
  have hmk := fun w => run_make_rowN (P := Try.prog) 27 3 i0 (.int .i64 0) Try.underlying27 hi hz0 .i64 .i64 m m (Nat.le_refl _) (by rw [hz2]; omega) (by omega) w
  simp only [hz1, Nat.mul_one, Value.cells, madeCells_one] at hmk
  have hr1 : ¬ (m : Int) < 1 := by omega
  have hr2 : ¬ (8 : Int) < (m : Int) := by omega
  go_enter Try.func8, Try.ntmps8
  go_wp2_with fail
  go_ret2
  refine ⟨w.heap.size + 1, w.heap.size, rfl, ⟨?_, ?_, by omega⟩, by omega, Nat.le_refl _, ((Below.refl _ _).alloc (Nat.le_refl _) _).alloc (by simp) _⟩
  · rw [heap_at _ _ _ (by simp)]; simp [Ck.start]
  · rw [heap_past _ _ _ (by simp), heap_at _ _ _ rfl]; simp [Ck.start, I8]

theorem tlen_any (p g : Nat) (c : Ck) (w : World) (h : CkAt w p g c) : Calls Try.prog 24 #[.pointer (some ⟨p, 0, none⟩)] w fun e w' => e = .returned (.int .i64 c.now.length) ∧ w = w' := by
  obtain ⟨c0, c1, c2, -⟩ := h.cells
  clear h
  go_enter Try.func24, Try.ntmps24
  go_wp2_with fail
  go_ret
  exact ⟨rfl, rfl⟩
theorem len_any (p g : Nat) (c : Ck) (w : World) (h : CkAt w p g c) : Calls Try.prog 16 #[.pointer (some ⟨p, 0, none⟩)] w fun e w' => e = .returned (.int .i64 c.now.length) ∧ w = w' := by
  have H := Lib.hid h
  clear h
  go_enter Try.func16, Try.ntmps16
  go_wp2_with fail
  refine (tlen_any p g c w H.out).mono ?_
  rintro e w1 ⟨rfl, rfl⟩
  go_wp2_with fail
  go_ret
  exact ⟨rfl, rfl⟩
theorem true_any (p g : Nat) (c : Ck) (w : World) (h : CkAt w p g c) : Calls Try.prog 15 #[.pointer (some ⟨p, 0, none⟩)] w fun e w' => e = .returned (.int .i64 c.passed) ∧ w = w' := by
  obtain ⟨c0, c1, c2, -⟩ := h.cells
  clear h
  go_enter Try.func15, Try.ntmps15
  go_wp2_with fail
  go_ret
  exact ⟨rfl, rfl⟩
theorem drift_any (p g : Nat) (c : Ck) (w : World) (h : CkAt w p g c) : Calls Try.prog 12 #[.pointer (some ⟨p, 0, none⟩)] w fun e w' => e = .returned (.int .i64 c.drift) ∧ w = w' := by
  obtain ⟨c0, c1, c2, -⟩ := h.cells
  clear h
  go_enter Try.func12, Try.ntmps12
  go_wp2_with fail
  go_ret
  exact ⟨rfl, rfl⟩
theorem nil_len (w : World) : Calls Try.prog 16 #[.pointer none] w fun e w' => e = .returned (.int .i64 0) ∧ w = w' := by
  go_enter Try.func16, Try.ntmps16
  go_wp2_with fail
  go_ret
  exact ⟨rfl, rfl⟩
theorem nil_now (i : Int) (w : World) : Calls Try.prog 11 #[.pointer none, .int .i64 i] w fun e w' => e = .returned (.int .i64 0) ∧ w = w' := by
  go_enter Try.func11, Try.ntmps11
  go_wp2_with fail
  go_ret
  exact ⟨rfl, rfl⟩
theorem nil_true (w : World) : Calls Try.prog 15 #[.pointer none] w fun e w' => e = .returned (.int .i64 0) ∧ w = w' := by
  go_enter Try.func15, Try.ntmps15
  go_wp2_with fail
  go_ret
  exact ⟨rfl, rfl⟩
theorem nil_drift (w : World) : Calls Try.prog 12 #[.pointer none] w fun e w' => e = .returned (.int .i64 0) ∧ w = w' := by
  go_enter Try.func12, Try.ntmps12
  go_wp2_with fail
  go_ret
  exact ⟨rfl, rfl⟩
set_option maxHeartbeats 1000000 in
theorem tnow_any (p g : Nat) (c : Ck) (i : Int) (w : World) (h : CkAt w p g c) : Calls Try.prog 22 #[.pointer (some ⟨p, 0, none⟩), .int .i64 i] w fun e w' => e = .returned (.int .i64 (c.at_ i)) ∧ w = w' := by
  have H := Lib.hid h
  obtain ⟨c0, c1, c2, -⟩ := h.cells
  clear h
  by_cases h0 : i < 0
  · have hr : c.at_ i = 0 := by unfold Ck.at_; rw [if_pos (Or.inl h0)]
    rw [hr]
    clear hr
    go_enter Try.func22, Try.ntmps22
    go_wp2_with fail
    go_ret
    exact ⟨rfl, rfl⟩
  · obtain ⟨k, rfl⟩ : ∃ k : Nat, i = k := ⟨i.toNat, by omega⟩
    have h0' : ¬ (k : Int) < 0 := h0
    have k0 : (0 : Int) ≤ (k : Int) := by omega
    by_cases h1 : k < c.now.length
    · obtain ⟨x, hx⟩ : ∃ x, c.now[k]? = some x := ⟨_, List.getElem?_eq_getElem h1⟩
      have hr : c.at_ (k : Int) = x := by unfold Ck.at_; rw [if_neg (by omega), Int.toNat_natCast]; exact getD_of hx
      rw [hr]
      have t0 := (H.out.time hx).1
      have h1' : (k : Int) < (c.now.length : Int) := by omega
      clear hr hx h0
      go_enter Try.func22, Try.ntmps22
      go_wp2_with fail
      refine (tlen_any p g c w H.out).mono ?_
      rintro e w1 ⟨rfl, rfl⟩
      go_wp2_with fail
      go_ret
      exact ⟨rfl, rfl⟩
    · have hr : c.at_ (k : Int) = 0 := by unfold Ck.at_; rw [if_pos (by omega)]
      rw [hr]
      have h1' : (c.now.length : Int) ≤ (k : Int) := by omega
      clear hr h0
      go_enter Try.func22, Try.ntmps22
      go_wp2_with fail
      refine (tlen_any p g c w H.out).mono ?_
      rintro e w1 ⟨rfl, rfl⟩
      go_wp2_with fail
      go_ret
      exact ⟨rfl, rfl⟩
theorem now_any (p g : Nat) (c : Ck) (i : Int) (w : World) (h : CkAt w p g c) : Calls Try.prog 11 #[.pointer (some ⟨p, 0, none⟩), .int .i64 i] w fun e w' => e = .returned (.int .i64 (c.at_ i)) ∧ w = w' := by
  have H := Lib.hid h
  clear h
  go_enter Try.func11, Try.ntmps11
  go_wp2_with fail
  refine (tnow_any p g c i w H.out).mono ?_
  rintro e w1 ⟨rfl, rfl⟩
  go_wp2_with fail
  go_ret
  exact ⟨rfl, rfl⟩

/-- The test that Tick hands on. -/
theorem neg_any (x : Int) (w : World) : Calls Try.prog 20 #[.int .i64 x] w fun e w' => e = .returned (.bool (decide (x < 0))) ∧ w = w' := by
  go_enter Try.func20, Try.ntmps20
  go_wp2_with fail
  go_ret
  exact ⟨rfl, rfl⟩
def IdxPost (w : World) (b : Bool) (e : Ending) (w' : World) : Prop := ∃ r : Int, e = .returned (.int .i64 r) ∧ decide (0 ≤ r) = b ∧ w = w'
set_option maxHeartbeats 1000000 in
theorem index_any (D : Nat → Prop) (dl : List Int) (dv : Value) (w : World) (hd : IntsV D w dv dl) :
    Calls Try.prog 27 #[dv, .func (.func 20) #[] #[]] w (IdxPost w (negU dl dl.length)) := by
  have HD := Lib.hid hd
  obtain ⟨a, c, rfl, hc, hcm, _⟩ := hd
  unfold maxLen at hcm
  go_enter Try.func27, Try.ntmps27
  go_wp2_with fail
  go_loop [8] (fun i => ∃ k : Nat, k ≤ dl.length ∧ i = .int .i64 k ∧ Hid (negU dl k = false)) (fun i => dl.length - (intOf i).toNat)
  case atStart => exact ⟨0, by omega, rfl, Lib.hid rfl⟩
  case round =>
    obtain ⟨k, hk, rfl, HN⟩ := hrel
    have k0 : (0 : Int) ≤ (k : Int) := by omega
    by_cases hlt : k < dl.length
    · obtain ⟨x, hx⟩ : ∃ x, dl[k]? = some x := ⟨_, List.getElem?_eq_getElem hlt⟩
      obtain ⟨b, o, c', e1, _, _, hb, _, t0⟩ := HD.out.at_ hx
      injection e1 with e1 _ e2
      subst e1 e2
      have k1 : (k : Int) < (dl.length : Int) := by omega
      have hnext : negU dl (k + 1) = decide (x < 0) := by unfold negU; rw [HN.out, getD_of hx]; rfl
      have HNX := Lib.hid hnext
      clear hx hnext
      by_cases hneg : x < 0
      · have hup := negU_up (dl := dl) (k := k + 1) (n := dl.length) (by rw [HNX.out]; exact decide_eq_true hneg) (by omega)
        have HUP := Lib.hid hup
        clear hup
        go_wp2_with fail
        refine (neg_any x w).mono ?_
        rintro e w1 ⟨rfl, rfl⟩
        go_wp2_with fail
        go_ret
        exact ⟨k, rfl, by rw [HUP.out]; exact decide_eq_true k0, rfl⟩
      · have hup : negU dl (k + 1) = false := by rw [HNX.out]; exact decide_eq_false hneg
        have HUP := Lib.hid hup
        clear hup
        go_wp2_with fail
        refine (neg_any x w).mono ?_
        rintro e w1 ⟨rfl, rfl⟩
        go_wp2_with fail
        exact ⟨⟨k + 1, by omega, by push_cast; rfl, HUP⟩, by simp only [intOf]; omega⟩
    · obtain rfl : k = dl.length := by omega
      go_wp2_with fail
      go_ret
      exact ⟨-1, rfl, by rw [HN.out]; decide, rfl⟩
theorem contains_any (D : Nat → Prop) (dl : List Int) (dv : Value) (w : World) (hd : IntsV D w dv dl) :
    Calls Try.prog 19 #[dv, .func (.func 20) #[] #[]] w fun e w' => e = .returned (.bool (negU dl dl.length)) ∧ w = w' := by
  have HD := Lib.hid hd
  obtain ⟨a, c, rfl, hc, hcm, _⟩ := hd
  go_enter Try.func19, Try.ntmps19
  go_wp2_with fail
  refine (index_any D dl _ w HD.out).mono ?_
  rintro e w1 ⟨r, rfl, hr, rfl⟩
  have HR := Lib.hid hr
  clear hr
  go_wp2_with fail
  go_ret
  exact ⟨by rw [← HR.out]; rfl, rfl⟩
end Go.Proofs.Ytlcjkfikfnfneaa
