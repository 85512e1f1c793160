/- THE WALKS of subletref03's wide numbers, Honest, Least, and of term.Least: what the plain functions of YtchdfogifhfclaaGreatDoorPlain compute; of the old memory nothing turns.  THE WALKS of package clocks, but Tick.  THE WALK of Tick.  Clocks of the call's own; awake: the document's examples. -/
import Derived.Test.YtchdfogifhfclaaGreatDoorTermh
import Derived.Laws.BitsAllLaws
import Derived.Laws.BitsLemmas
import Derived.Test.YtchdfogifhfclaaGreatDoorCkp
namespace Go.Proofs.YtchdfogifhfclaaGreatDoor.Ck8
open Go.RowKit

theorem ofInt_i64 (a : Nat) (ha : a < 9223372036854775808) : (BitVec.ofInt 64 (a : Int)).toNat = a := by
  rw [BitVec.ofInt_natCast, BitVec.toNat_ofNat]; exact Nat.mod_eq_of_lt (by omega)
theorem i64_and_nat (a b : Nat) (ha : a < 9223372036854775808) (hb : b < 9223372036854775808) : bits .and .i64 (a : Int) (b : Int) = ((a &&& b : Nat) : Int) := by
  have hx : a &&& b < 2 ^ 63 := Nat.and_lt_two_pow _ (by omega)
  show IntKind.i64.wrap ((BitVec.ofInt 64 (a : Int) &&& BitVec.ofInt 64 (b : Int)).toNat : Int) = _
  rw [BitVec.toNat_and, ofInt_i64 a ha, ofInt_i64 b hb, IntKind.wrap_i64]
  omega
/-- the low 31 bits -/
theorem and31 (x : Int) (h0 : 0 ≤ x) (h1 : x ≤ 9223372036854775807) : bits .and .i64 x 2147483647 = x % 2147483648 := by
  obtain ⟨a, rfl⟩ := Int.eq_ofNat_of_zero_le h0
  have h := i64_and_nat a 2147483647 (by omega) (by omega)
  have e : a &&& 2147483647 = a % 2147483648 := Nat.and_two_pow_sub_one_eq_mod a 31
  rw [e] at h
  exact h

def hiR (m : Int) : Int := m / 4611686018427387904
def loR (m : Int) : Int := m % 4611686018427387904

theorem wide_parts {n k hi lo x y0 : Int} (hq : n / 2147483648 = hi) (hl : n % 2147483648 = lo) (hx : lo * k = x) (hy : hi * k = y0) :
    (y0 + x / 2147483648) / 2147483648 = hiR (n * k) ∧ (y0 + x / 2147483648) % 2147483648 * 2147483648 + x % 2147483648 = loR (n * k) := by
  have e : n * k = 2147483648 * y0 + x := by
    have : n = 2147483648 * hi + lo := by omega
    rw [this, Int.add_mul, Int.mul_assoc, hy, hx]
  rw [e]; unfold hiR loR; omega

theorem leR_of (m m' : Int) : leW (hiR m) (loR m) (hiR m') (loR m') = decide (m ≤ m') := by
  unfold leW hiR loR
  rw [decide_eq_decide]
  have e := T3.wide_le (M := 4611686018427387904) (h := m / 4611686018427387904) (l := m % 4611686018427387904) (h' := m' / 4611686018427387904) (l' := m' % 4611686018427387904) (by omega) (by omega) (by omega) (by omega)
  rw [e]; omega

theorem honB_no {d a rho : Int} (h : ¬ (0 ≤ d ∧ 0 ≤ a ∧ 0 ≤ rho ∧ rho ≤ 999)) : T3.honB d a rho = false := decide_eq_false (fun k => h ⟨k.1, k.2.1, k.2.2.1, k.2.2.2.1⟩)

/-- an int -/
def I64 (x : Int) : Prop := -9223372036854775808 ≤ x ∧ x ≤ 9223372036854775807

theorem honest_any (d a rho : Int) (w : World) (hd : I64 d) (ha : I64 a) :
    Calls Tryz.prog 112 #[.int .i64 d, .int .i64 a, .int .i64 rho] w fun e w' => e = .returned (.bool (T3.honB d a rho)) ∧ Below w.heap.size w w' := by
  by_cases h : 0 ≤ d ∧ 0 ≤ a ∧ 0 ≤ rho ∧ rho ≤ 999
  · exact honest_yes d a rho w ⟨h.1, hd.2⟩ ⟨h.2.1, ha.2⟩ h.2.2
  · rw [honB_no h]; exact (honest_no d a rho w h).mono fun e w' ⟨he, hw⟩ => ⟨he, hw ▸ Below.refl _ _⟩
set_option maxRecDepth 100000 in
set_option maxHeartbeats 400000 in
theorem least_any (d a : Int) (w : World) (hd : I64 d) (ha : I64 a) :
    Calls Tryz.prog 73 #[.int .i64 d, .int .i64 a] w fun e w' => e = .returned (.int .i64 (T3.leastT d a)) ∧ Below w.heap.size w w' := by
  have hl := T3.leastT_bd d a
  go_enter Tryz.func73, Tryz.ntmps73
  go_wp2
  go_loopw [5, 6] (fun l h wr => ∃ lo hi : Int, 0 ≤ lo ∧ hi ≤ 1000 ∧ lo ≤ T3.leastT d a ∧ T3.leastT d a ≤ hi ∧ l = .int .i64 lo ∧ h = .int .i64 hi ∧ Below w.heap.size w wr) (fun l h _ => (intOf h - intOf l).toNat)
  case atStart => exact ⟨0, 1000, by omega, by omega, by omega, by omega, rfl, rfl, Below.refl _ _⟩
  case round =>
    obtain ⟨lo, hi, h0, h1, h2, h3, rfl, rfl, hB⟩ := hrel
    by_cases hlt : lo < hi
    · go_wp2_with fail
      refine (honest_any _ _ _ _ hd ha).mono ?_; rintro e w1 ⟨rfl, hb1⟩
      cases hh : T3.honB d a ((lo + hi) / 2)
      · have hlt : (lo + hi) / 2 + 1 ≤ T3.leastT d a := by
          apply Int.not_lt.1; intro h
          rw [T3.leastT_up d a _ (by omega) (by omega)] at hh; cases hh
        clear hh
        go_wp2
        go_roundw
        case rel => exact ⟨_, hi, by omega, h1, hlt, h3, rfl, rfl, below_step hB hb1⟩
        case measure => simp [intOf]; omega
      · have he := T3.leastT_le d a _ hh
        clear hh
        go_wp2
        go_roundw
        case rel => exact ⟨lo, _, h0, by omega, h2, he, rfl, rfl, below_step hB hb1⟩
        case measure => simp [intOf]; omega
    · have he : lo = T3.leastT d a := by omega
      have He := Lib.hid he
      clear he
      go_wp2
      go_ret
      exact ⟨ret_int He.out, hB⟩
end Go.Proofs.YtchdfogifhfclaaGreatDoor.Ck8

namespace Go.Proofs.YtchdfogifhfclaaGreatDoor.Ck8
open Go.RowKit

/-- Clocks at p, their times at g. -/
structure CkAt (w : World) (p g : Nat) (c : Ck) : Prop where
  hp : w.heap[p]? = some (.cells #[.slice (some ⟨g, 0, none⟩) c.now.length c.now.length, .int .i64 c.passed, .int .i64 c.drift] 65 (0, 0))
  hg : w.heap[g]? = some (.cells (c.now.map I8).toArray 3 (0, 0))
  ne : p ≠ g
def Fpg (p g : Nat) (k : Nat) : Prop := k = p ∨ k = g
theorem CkAt.keep {w w' : World} {p g : Nat} {c : Ck} (h : CkAt w p g c) (hk : ∀ k, Fpg p g k → w'.heap[k]? = w.heap[k]?) : CkAt w' p g c :=
  ⟨(hk p (Or.inl rfl)).trans h.hp, (hk g (Or.inr rfl)).trans h.hg, h.ne⟩
theorem CkAt.lt {w : World} {p g : Nat} {c : Ck} (h : CkAt w p g c) : p < w.heap.size ∧ g < w.heap.size := ⟨lt_of_heap h.hp, lt_of_heap h.hg⟩
theorem CkAt.below {w w' : World} {p g : Nat} {c : Ck} (h : CkAt w p g c) (hb : Below w.heap.size w w') : CkAt w' p g c :=
  h.keep (fun k hk => hb.block k (by rcases hk with rfl | rfl; exact h.lt.1; exact h.lt.2))
theorem CkAt.mod {w w' : World} {F : Nat → Prop} {p g : Nat} {c : Ck} (h : CkAt w p g c) (hm : Mod F w w') (hp : ¬ F p) (hg : ¬ F g) : CkAt w' p g c :=
  h.keep (fun k hk => hm.block k (by rcases hk with rfl | rfl; exact h.lt.1; exact h.lt.2) (by rcases hk with rfl | rfl; exact hp; exact hg))
theorem below_drew (w : World) : Below w.heap.size w w.drew := ⟨rfl, rfl, rfl, Nat.le_refl _, fun _ _ => rfl⟩
theorem below_drewN (w : World) (n : Nat) : Below w.heap.size w (w.drewN n) := ⟨rfl, rfl, rfl, Nat.le_refl _, fun _ _ => rfl⟩
theorem CkAt.drew {w : World} {p g : Nat} {c : Ck} (h : CkAt w p g c) : CkAt w.drew p g c := h.below (below_drew w)
theorem CkAt.drewN {w : World} {p g : Nat} {c : Ck} (h : CkAt w p g c) (n : Nat) : CkAt (w.drewN n) p g c := h.below (below_drewN w n)
theorem CkAt.cells {w : World} {p g : Nat} {c : Ck} (h : CkAt w p g c) : w.cell? ⟨p, 0, none⟩ = some (.slice (some ⟨g, 0, none⟩) c.now.length c.now.length) ∧ w.cell? ⟨p, 1, none⟩ = some (.int .i64 c.passed) ∧ w.cell? ⟨p, 2, none⟩ = some (.int .i64 c.drift) ∧ w.frozen? ⟨p, 0, none⟩ = false ∧ w.frozen? ⟨p, 1, none⟩ = false ∧ w.frozen? ⟨p, 2, none⟩ = false := blk3 h.hp
theorem CkAt.time {w : World} {p g : Nat} {c : Ck} (h : CkAt w p g c) {j : Nat} {x : Int} (hx : c.now[j]? = some x) : w.cell? ⟨g, j, none⟩ = some (.int .i64 x) ∧ w.frozen? ⟨g, j, none⟩ = false :=
  ⟨(blk_cell h.hg j).trans (by simp [hx, I8]), blk_free h.hg j⟩

/-- What New answers. -/
def NewCk (n : Int) (w : World) (e : Ending) (w' : World) : Prop :=
  ∃ p g, e = .returned (.tuple #[.pointer (some ⟨p, 0, none⟩), .int .i64 0]) ∧ CkAt w' p g (Ck.start n.toNat) ∧ w.heap.size ≤ p ∧ w.heap.size ≤ g ∧ Below w.heap.size w w'

set_option maxRecDepth 100000 in
set_option maxHeartbeats 400000 in
theorem new_no (n : Int) (w : World) (h : ¬ (1 ≤ n ∧ n ≤ 8)) :
    Calls Tryz.prog 4 #[.int .i64 n] w fun e w' => e = .returned (.tuple #[.pointer none, .int .i64 2]) ∧ w = w' := by
  by_cases h1 : n < 1
  · clear h
    go_enter Tryz.func4, Tryz.ntmps4
    go_wp2
    go_ret2
    exact ⟨rfl, rfl⟩
  · have h2 : 8 < n := by omega
    clear h
    go_enter Tryz.func4, Tryz.ntmps4
    go_wp2
    go_ret2
    exact ⟨rfl, rfl⟩
set_option maxRecDepth 100000 in
set_option maxHeartbeats 1000000 in
theorem new_ok (n : Int) (w : World) (h : 1 ≤ n ∧ n ≤ 8) : Calls Tryz.prog 4 #[.int .i64 n] w (NewCk n w) := by
  obtain ⟨i0, hi, hz0, hz1, hz2⟩ := info_parts Tryz.info3
  obtain ⟨h1, h8⟩ := h
  obtain ⟨m, rfl⟩ : ∃ m : Nat, n = m := ⟨n.toNat, by omega⟩
  have hmk := fun w => run_make_rowN (P := Tryz.prog) 43 3 i0 (.int .i64 0) Tryz.underlying43 hi hz0 .i64 .i64 m m (Nat.le_refl _) (by rw [hz2]; omega) (by omega) w
  simp only [hz1, Nat.mul_one, Value.cells, madeCells_one] at hmk
  have hr1 : ¬ (m : Int) < 1 := by omega
  have hr2 : ¬ (8 : Int) < (m : Int) := by omega
  go_enter Tryz.func4, Tryz.ntmps4
  go_wp2_with fail
  go_ret2
  refine ⟨w.heap.size + 1, w.heap.size, rfl, ⟨?_, ?_, by omega⟩, by omega, Nat.le_refl _, ((Below.refl _ _).alloc (Nat.le_refl _) _).alloc (by simp) _⟩
  · rw [heap_at _ _ _ (by simp)]; simp [Ck.start]
  · rw [heap_past _ _ _ (by simp), heap_at _ _ _ rfl]; simp [Ck.start, I8]

theorem tlen_any (p g : Nat) (c : Ck) (w : World) (h : CkAt w p g c) : Calls Tryz.prog 85 #[.pointer (some ⟨p, 0, none⟩)] w fun e w' => e = .returned (.int .i64 c.now.length) ∧ w = w' := by
  obtain ⟨c0, c1, c2, -⟩ := h.cells
  clear h
  go_enter Tryz.func85, Tryz.ntmps85
  go_wp2_with fail
  go_ret
  exact ⟨rfl, rfl⟩
theorem len_any (p g : Nat) (c : Ck) (w : World) (h : CkAt w p g c) : Calls Tryz.prog 70 #[.pointer (some ⟨p, 0, none⟩)] w fun e w' => e = .returned (.int .i64 c.now.length) ∧ w = w' := by
  have H := Lib.hid h
  clear h
  go_enter Tryz.func70, Tryz.ntmps70
  go_wp2_with fail
  refine (tlen_any p g c w H.out).mono ?_
  rintro e w1 ⟨rfl, rfl⟩
  go_wp2_with fail
  go_ret
  exact ⟨rfl, rfl⟩
theorem drift_any (p g : Nat) (c : Ck) (w : World) (h : CkAt w p g c) : Calls Tryz.prog 18 #[.pointer (some ⟨p, 0, none⟩)] w fun e w' => e = .returned (.int .i64 c.drift) ∧ w = w' := by
  obtain ⟨c0, c1, c2, -⟩ := h.cells
  clear h
  go_enter Tryz.func18, Tryz.ntmps18
  go_wp2_with fail
  go_ret
  exact ⟨rfl, rfl⟩
set_option maxRecDepth 100000 in
set_option maxHeartbeats 1000000 in
theorem tnow_any (p g : Nat) (c : Ck) (i : Int) (w : World) (h : CkAt w p g c) : Calls Tryz.prog 29 #[.pointer (some ⟨p, 0, none⟩), .int .i64 i] w fun e w' => e = .returned (.int .i64 (c.at_ i)) ∧ w = w' := by
  have H := Lib.hid h
  obtain ⟨c0, c1, c2, -⟩ := h.cells
  clear h
  by_cases h0 : i < 0
  · have hr : c.at_ i = 0 := by unfold Ck.at_; rw [if_pos (Or.inl h0)]
    rw [hr]
    clear hr
    go_enter Tryz.func29, Tryz.ntmps29
    go_wp2_with fail
    go_ret
    exact ⟨rfl, rfl⟩
  · obtain ⟨k, rfl⟩ : ∃ k : Nat, i = k := ⟨i.toNat, by omega⟩
    have h0' : ¬ (k : Int) < 0 := h0
    have k0 : (0 : Int) ≤ (k : Int) := by omega
    by_cases h1 : k < c.now.length
    · obtain ⟨x, hx⟩ : ∃ x, c.now[k]? = some x := ⟨_, List.getElem?_eq_getElem h1⟩
      have hr : c.at_ (k : Int) = x := by unfold Ck.at_; rw [if_neg (by omega), Int.toNat_natCast]; exact getD_of hx
      rw [hr]
      have t0 := (H.out.time hx).1
      have h1' : (k : Int) < (c.now.length : Int) := by omega
      clear hr hx h0
      go_enter Tryz.func29, Tryz.ntmps29
      go_wp2_with fail
      refine (tlen_any p g c w H.out).mono ?_
      rintro e w1 ⟨rfl, rfl⟩
      go_wp2_with fail
      go_ret
      exact ⟨rfl, rfl⟩
    · have hr : c.at_ (k : Int) = 0 := by unfold Ck.at_; rw [if_pos (by omega)]
      rw [hr]
      have h1' : (c.now.length : Int) ≤ (k : Int) := by omega
      clear hr h0
      go_enter Tryz.func29, Tryz.ntmps29
      go_wp2_with fail
      refine (tlen_any p g c w H.out).mono ?_
      rintro e w1 ⟨rfl, rfl⟩
      go_wp2_with fail
      go_ret
      exact ⟨rfl, rfl⟩
theorem now_any (p g : Nat) (c : Ck) (i : Int) (w : World) (h : CkAt w p g c) : Calls Tryz.prog 9 #[.pointer (some ⟨p, 0, none⟩), .int .i64 i] w fun e w' => e = .returned (.int .i64 (c.at_ i)) ∧ w = w' := by
  have H := Lib.hid h
  clear h
  go_enter Tryz.func9, Tryz.ntmps9
  go_wp2_with fail
  refine (tnow_any p g c i w H.out).mono ?_
  rintro e w1 ⟨rfl, rfl⟩
  go_wp2_with fail
  go_ret
  exact ⟨rfl, rfl⟩

/-- The test that Tick hands on. -/
theorem neg_any (x : Int) (w : World) : Calls Tryz.prog 72 #[.int .i64 x] w fun e w' => e = .returned (.bool (decide (x < 0))) ∧ w = w' := by
  go_enter Tryz.func72, Tryz.ntmps72
  go_wp2_with fail
  go_ret
  exact ⟨rfl, rfl⟩
def IdxPost (w : World) (b : Bool) (e : Ending) (w' : World) : Prop := ∃ r : Int, e = .returned (.int .i64 r) ∧ decide (0 ≤ r) = b ∧ w = w'
set_option maxRecDepth 100000 in
set_option maxHeartbeats 1000000 in
theorem index_any (D : Nat → Prop) (dl : List Int) (dv : Value) (w : World) (hd : IntsV D w dv dl) :
    Calls Tryz.prog 111 #[dv, .func (.func 72) #[] #[]] w (IdxPost w (negU dl dl.length)) := by
  have HD := Lib.hid hd
  obtain ⟨a, c, rfl, hc, hcm, _⟩ := hd
  unfold maxLen at hcm
  go_enter Tryz.func111, Tryz.ntmps111
  go_wp2_with fail
  go_loop [8] (fun i => ∃ k : Nat, k ≤ dl.length ∧ i = .int .i64 k ∧ Hid (negU dl k = false)) (fun i => dl.length - (intOf i).toNat)
  case atStart => exact ⟨0, by omega, rfl, Lib.hid rfl⟩
  case round =>
    obtain ⟨k, hk, rfl, HN⟩ := hrel
    have k0 : (0 : Int) ≤ (k : Int) := by omega
    by_cases hlt : k < dl.length
    · obtain ⟨x, hx⟩ : ∃ x, dl[k]? = some x := ⟨_, List.getElem?_eq_getElem hlt⟩
      obtain ⟨b, o, c', e1, _, _, hb, _, t0⟩ := HD.out.at_ hx
      injection e1 with e1 _ e2
      subst e1 e2
      have k1 : (k : Int) < (dl.length : Int) := by omega
      have hnext : negU dl (k + 1) = decide (x < 0) := by unfold negU; rw [HN.out, getD_of hx]; rfl
      have HNX := Lib.hid hnext
      clear hx hnext
      by_cases hneg : x < 0
      · have hup := negU_up (dl := dl) (k := k + 1) (n := dl.length) (by rw [HNX.out]; exact decide_eq_true hneg) (by omega)
        have HUP := Lib.hid hup
        clear hup
        go_wp2_with fail
        refine (neg_any x w).mono ?_
        rintro e w1 ⟨rfl, rfl⟩
        go_wp2_with fail
        go_ret
        exact ⟨k, rfl, by rw [HUP.out]; exact decide_eq_true k0, rfl⟩
      · have hup : negU dl (k + 1) = false := by rw [HNX.out]; exact decide_eq_false hneg
        have HUP := Lib.hid hup
        clear hup
        go_wp2_with fail
        refine (neg_any x w).mono ?_
        rintro e w1 ⟨rfl, rfl⟩
        go_wp2_with fail
        exact ⟨⟨k + 1, by omega, by push_cast; rfl, HUP⟩, by simp only [intOf]; omega⟩
    · obtain rfl : k = dl.length := by omega
      go_wp2_with fail
      go_ret
      exact ⟨-1, rfl, by rw [HN.out]; decide, rfl⟩
theorem contains_any (D : Nat → Prop) (dl : List Int) (dv : Value) (w : World) (hd : IntsV D w dv dl) :
    Calls Tryz.prog 71 #[dv, .func (.func 72) #[] #[]] w fun e w' => e = .returned (.bool (negU dl dl.length)) ∧ w = w' := by
  have HD := Lib.hid hd
  obtain ⟨a, c, rfl, hc, hcm, _⟩ := hd
  go_enter Tryz.func71, Tryz.ntmps71
  go_wp2_with fail
  refine (index_any D dl _ w HD.out).mono ?_
  rintro e w1 ⟨r, rfl, hr, rfl⟩
  have HR := Lib.hid hr
  clear hr
  go_wp2_with fail
  go_ret
  exact ⟨by rw [← HR.out]; rfl, rfl⟩
end Go.Proofs.YtchdfogifhfclaaGreatDoor.Ck8

namespace Go.Proofs.YtchdfogifhfclaaGreatDoor.Ck8
open Go.RowKit

/-- What Tick does. -/
def TickPost (w : World) (p g : Nat) (c : Ck) (d : Int) (dl : List Int) (e : Ending) (w' : World) : Prop :=
  e = .returned (.int .i64 (c.tickE d dl)) ∧ CkAt w' p g (c.tickR d dl) ∧ Mod (Fpg p g) w w'
theorem tick_refused {w w' : World} {p g : Nat} {c : Ck} {d : Int} {dl : List Int} {n : Nat} (H : CkAt w p g c) (hn : c.tickE d dl = n) (h0 : n ≠ 0) (hb : w = w') : TickPost w p g c d dl (.returned (.int .i64 n)) w' := by
  subst hb
  refine ⟨by rw [hn], ?_, Mod.refl _ _⟩
  unfold Ck.tickR
  rw [if_neg (by rw [hn]; exact h0)]
  exact H
/-- In the midst of a tick that goes through: k clocks have been moved. -/
structure MidTick (w w' : World) (p g : Nat) (c : Ck) (d : Int) (dl : List Int) (k : Nat) : Prop where
  hp : w'.heap[p]? = some (.cells #[.slice (some ⟨g, 0, none⟩) c.now.length c.now.length, .int .i64 (c.passed + d), .int .i64 (driftU d dl c.drift k)] 65 (0, 0))
  hg : w'.heap[g]? = some (.cells ((nowU c.now dl k).map I8).toArray 3 (0, 0))
  mod : Mod (Fpg p g) w w'
theorem MidTick.below {w w' w2 : World} {p g : Nat} {c : Ck} {d : Int} {dl : List Int} {k : Nat} (h : MidTick w w' p g c d dl k) (hb : Below w'.heap.size w' w2) : MidTick w w2 p g c d dl k :=
  ⟨(hb.block p (lt_of_heap h.hp)).trans h.hp, (hb.block g (lt_of_heap h.hg)).trans h.hg, h.mod.below hb⟩
theorem nowU_get {now dl : List Int} {k : Nat} {x : Int} (hx : now[k]? = some x) : (nowU now dl k)[k]? = some x := by
  have hk := (List.getElem?_eq_some_iff.1 hx).1
  rw [nowU_at _ _ _ _ hk, if_neg (by omega), getD_of hx]

set_option maxRecDepth 100000 in
set_option maxHeartbeats 2000000 in
theorem tick_any (p g : Nat) (c : Ck) (d : Int) (D : Nat → Prop) (dl : List Int) (dv : Value) (w : World) (h : CkAt w p g c) (hf : c.Fit) (hd : I64 d) (hdl : ∀ (j : Nat) (x : Int), dl[j]? = some x → I64 x) (hv : IntsV D w dv dl) (hD : ¬ D p ∧ ¬ D g) :
    Calls Tryz.prog 17 #[.pointer (some ⟨p, 0, none⟩), .int .i64 d, dv] w (TickPost w p g c d dl) := by
  have H := Lib.hid h
  have HV := Lib.hid hv
  have HDL := Lib.hid hdl
  have HF := Lib.hid hf
  obtain ⟨c0, c1, c2, f0, f1, f2⟩ := h.cells
  obtain ⟨a, cp, rfl, hc, hcm, _⟩ := hv
  unfold maxLen at hcm
  obtain ⟨hd1, hd2⟩ := hd
  obtain ⟨hl1, hl8⟩ := hf.len
  obtain ⟨hp0, hp1⟩ := hf.passed
  obtain ⟨hr0, hr1⟩ := hf.drift
  clear hdl h hf
  by_cases hlen : dl.length = c.now.length
  case neg =>
    have hE : c.tickE d dl = 2 := by unfold Ck.tickE; rw [if_pos (Or.inl hlen)]
    have HE := Lib.hid hE
    have hln : ((dl.length : Int) != (c.now.length : Int)) = true := by rw [bne_iff_ne]; omega
    clear hE hlen
    go_enter Tryz.func17, Tryz.ntmps17
    go_wp2_with fail
    refine (len_any p g c w H.out).mono ?_
    rintro e w1 ⟨rfl, rfl⟩
    go_wp2_with fail
    go_ret
    exact tick_refused H.out HE.out (by decide) rfl
  by_cases hdn : d < 0
  · have hE : c.tickE d dl = 2 := by unfold Ck.tickE; rw [if_pos (Or.inr (Or.inl hdn))]
    have HE := Lib.hid hE
    have hln : ((dl.length : Int) != (c.now.length : Int)) = false := by rw [bne_eq_false_iff_eq]; omega
    clear hE hlen
    go_enter Tryz.func17, Tryz.ntmps17
    go_wp2_with fail
    refine (len_any p g c w H.out).mono ?_
    rintro e w1 ⟨rfl, rfl⟩
    go_wp2_with fail
    go_ret
    exact tick_refused H.out HE.out (by decide) rfl
  have hln : ((dl.length : Int) != (c.now.length : Int)) = false := by rw [bne_eq_false_iff_eq]; omega
  cases hng : negU dl dl.length with
  | true =>
    have hE : c.tickE d dl = 2 := by unfold Ck.tickE; rw [if_pos (Or.inr (Or.inr hng))]
    have HE := Lib.hid hE
    have HNG := Lib.hid hng
    clear hE hlen hng
    go_enter Tryz.func17, Tryz.ntmps17
    go_wp2_with fail
    refine (len_any p g c w H.out).mono ?_
    rintro e w1 ⟨rfl, rfl⟩
    go_wp2_with fail
    refine (contains_any D dl _ w HV.out).mono ?_
    rintro e w1 ⟨rfl, rfl⟩
    rw [HNG.out]
    go_wp2_with fail
    go_ret
    exact tick_refused H.out HE.out (by decide) rfl
  | false =>
    have HNG := Lib.hid hng
    obtain ⟨b0, hb0⟩ : ∃ b0, b0 = decide (1152921504606846976 - c.passed < d) := ⟨_, rfl⟩
    have hE : c.tickE d dl = if lateU c.now dl b0 dl.length = true then 30 else 0 := by
      unfold Ck.tickE
      rw [if_neg (by rintro (h | h | h); exact h hlen; exact hdn h; rw [hng] at h; cases h), ← hb0]
    have HE := Lib.hid hE
    have HB0 := Lib.hid hb0
    have HLEN := Lib.hid hlen
    clear hE hng hb0 hlen
    go_enter Tryz.func17, Tryz.ntmps17
    go_wp2_with fail
    refine (len_any p g c w H.out).mono ?_
    rintro e w1 ⟨rfl, rfl⟩
    go_wp2_with fail
    refine (contains_any D dl _ w HV.out).mono ?_
    rintro e w1 ⟨rfl, rfl⟩
    rw [HNG.out]
    go_wp2_with fail
    go_loop [7, 36] (fun lt i => ∃ (k : Nat) (b : Bool), k ≤ dl.length ∧ i = .int .i64 k ∧ lt = .bool b ∧ Hid (b = lateU c.now dl b0 k)) (fun _ i => dl.length - (intOf i).toNat)
    case atStart => exact ⟨0, b0, by omega, rfl, by rw [HB0.out], Lib.hid rfl⟩
    case round =>
      obtain ⟨k, b, hk, rfl, rfl, HL⟩ := hrel
      by_cases hlt : k < dl.length
      · obtain ⟨x, hx⟩ : ∃ x, dl[k]? = some x := ⟨_, List.getElem?_eq_getElem hlt⟩
        obtain ⟨z, hz⟩ : ∃ z, c.now[k]? = some z := ⟨_, List.getElem?_eq_getElem (by rw [← HLEN.out]; exact hlt)⟩
        obtain ⟨bb, o, c', e1, _, _, hb, _, t0⟩ := HV.out.at_ hx
        injection e1 with e1 _ e2
        subst e1 e2
        obtain ⟨t1, ft1⟩ := H.out.time hz
        obtain ⟨hz0, hz1⟩ := HF.out.now k z hz
        obtain ⟨hx0, hx1⟩ := HDL.out k x hx
        have k0 : (0 : Int) ≤ (k : Int) := by omega
        have k1 : (k : Int) < (dl.length : Int) := by omega
        have k2 : (k : Int) < (c.now.length : Int) := by rw [← HLEN.out]; exact k1
        have hnext : lateU c.now dl b0 (k + 1) = (b || decide (1152921504606846976 - z < x)) := by simp only [lateU]; rw [HL.out, getD_of hx, getD_of hz]
        have HNX := Lib.hid hnext
        clear hx hz hnext
        cases b with
        | true =>
          have HNX2 := Lib.hid (HNX.out.trans (Bool.true_or _))
          go_wp2_with fail
          exact ⟨⟨k + 1, true, by omega, by push_cast; rfl, rfl, Lib.hid HNX2.out.symm⟩, by simp only [intOf]; omega⟩
        | false =>
          have HNX2 := Lib.hid (HNX.out.trans (Bool.false_or _))
          go_wp2_with fail
          exact ⟨⟨k + 1, _, by omega, by push_cast; rfl, rfl, Lib.hid HNX2.out.symm⟩, by simp only [intOf]; omega⟩
      · obtain rfl : k = dl.length := by omega
        cases b with
        | true =>
          have hE2 : c.tickE d dl = 30 := by rw [HE.out, ← HL.out]; rfl
          have HE2 := Lib.hid hE2
          clear hE2
          go_wp2_with fail
          go_ret
          exact tick_refused H.out HE2.out (by decide) rfl
        | false =>
          have hE2 : c.tickE d dl = 0 := by rw [HE.out, ← HL.out]; rfl
          have HT := Lib.hid (Ck.tick0 hE2)
          have HE2 := Lib.hid hE2
          have hdM := HT.out.dM
          have hdn2 : decide (d < 0) = false := decide_eq_false (by omega)
          have hdm2 : decide (1152921504606846976 - c.passed < d) = false := decide_eq_false (by omega)
          have hpg : ¬ p = g := H.out.ne
          have hgp : ¬ g = p := fun e => H.out.ne e.symm
          clear hE2
          go_wp2_with fail
          clear c0 c1 c2 f0 f1 f2
          go_loopw [67] (fun i wr => ∃ k : Nat, k ≤ dl.length ∧ i = .int .i64 k ∧ MidTick w wr p g c d dl k) (fun i _ => dl.length - (intOf i).toNat)
          case atStart => exact ⟨0, by omega, rfl, by rw [blk_set H.out.hp 1 _]; rfl, (blk_far H.out.hg (fun e => hgp e) _), (Mod.refl _ _).setCell (fun _ => Or.inl rfl) _⟩
          case round =>
            obtain ⟨k, hk, rfl, M⟩ := hrel
            have HM := Lib.hid M
            by_cases hlt : k < dl.length
            · obtain ⟨x, hx⟩ : ∃ x, dl[k]? = some x := ⟨_, List.getElem?_eq_getElem hlt⟩
              obtain ⟨z, hz⟩ : ∃ z, c.now[k]? = some z := ⟨_, List.getElem?_eq_getElem (by rw [← HLEN.out]; exact hlt)⟩
              obtain ⟨bb, o, c', e1, _, _, hb, _, t0⟩ := (HV.out.mod M.mod (fun q hq hq2 hF => by rcases hF with rfl | rfl; exact hD.1 hq2; exact hD.2 hq2)).at_ hx
              injection e1 with e1 _ e2
              subst e1 e2
              obtain ⟨c0, c1, c2, f0, f1, f2⟩ := blk3 M.hp
              have t1 : wr.cell? ⟨g, k, none⟩ = some (.int .i64 z) := (blk_cell M.hg k).trans (by simp [nowU_get hz, I8])
              have ft1 : wr.frozen? ⟨g, k, none⟩ = false := blk_free M.hg k
              obtain ⟨hz0, hz1⟩ := HF.out.now k z hz
              have hx0 := HT.out.a0 k hlt
              have hx1 := HT.out.aM k hlt
              rw [getD_of hx] at hx0 hx1
              rw [getD_of hz] at hx1
              have k0 : (0 : Int) ≤ (k : Int) := by omega
              have k1 : (k : Int) < (dl.length : Int) := by omega
              have k2 : (k : Int) < (c.now.length : Int) := by rw [← HLEN.out]; exact k1
              have hdr := driftU_bd (d := d) (dl := dl) (m := c.drift) ⟨hr0, hr1⟩ k
              have hle := T3.leastT_bd d x
              have hnx : driftU d dl c.drift (k + 1) = max (driftU d dl c.drift k) (T3.leastT d x) := by simp only [driftU]; rw [getD_of hx]
              have hnw : nowU c.now dl (k + 1) = (nowU c.now dl k).set k (z + x) := by simp only [nowU]; rw [getD_of hx, getD_of hz]
              obtain ⟨dr, hdrE⟩ : ∃ dr, dr = driftU d dl c.drift k := ⟨_, rfl⟩
              obtain ⟨le, hleE⟩ : ∃ le, le = T3.leastT d x := ⟨_, rfl⟩
              rw [← hdrE] at c2 hdr hnx
              rw [← hleE] at hle hnx
              have HNX := Lib.hid hnx
              have HNW := Lib.hid hnw
              have HDR := Lib.hid hdrE
              have HLE := Lib.hid hleE
              clear hx hz hnx hnw hdrE hleE M
              go_wp2_with fail
              obtain ⟨W1, hW1⟩ : ∃ W1, W1 = wr.setCell ⟨g, k, none⟩ (.int .i64 (z + x)) := ⟨_, rfl⟩
              rw [← hW1]
              have P1 : W1.heap[p]? = some (.cells #[.slice (some ⟨g, 0, none⟩) c.now.length c.now.length, .int .i64 (c.passed + d), .int .i64 dr] 65 (0, 0)) := by
                rw [hW1, HDR.out]; exact blk_far HM.out.hp (fun e => hpg e) _
              have G1 : W1.heap[g]? = some (.cells ((nowU c.now dl (k + 1)).map I8).toArray 3 (0, 0)) := by
                rw [hW1, blk_set HM.out.hg k _, HNW.out, List.map_set]; simp [I8]
              have M1 : Mod (Fpg p g) w W1 := by rw [hW1]; exact HM.out.mod.setCell (fun _ => Or.inr rfl) _
              have d2 : W1.drew.cell? ⟨p, 2, none⟩ = some (.int .i64 dr) := (blk3 P1).2.2.1
              have e2 : W1.drew.frozen? ⟨p, 2, none⟩ = false := (blk3 P1).2.2.2.2.2
              have HP1 := Lib.hid P1
              have HG1 := Lib.hid G1
              have HM1 := Lib.hid M1
              clear c0 c1 c2 f0 f1 f2 t0 t1 ft1 hW1 P1 G1 M1
              go_region_with (go_at_call 73; (refine (least_any d x _ ⟨hd1, hd2⟩ ⟨by omega, by omega⟩).mono ?_); rintro e w2 ⟨rfl, hb2⟩; rw [← HLE.out]; have P2 := (hb2.block p (lt_of_heap HP1.out)).trans HP1.out; have HG2 := Lib.hid ((hb2.block g (lt_of_heap HG1.out)).trans HG1.out); have HM2 := Lib.hid (HM1.out.drew.below hb2); obtain ⟨-, -, d2', -, -, e2'⟩ := blk3 P2; have HP2 := Lib.hid P2; clear P2 hb2)
              all_goals
                go_wp2_with fail
                refine ⟨⟨k + 1, by omega, by push_cast; rfl, ?_, ?_, ?_⟩, by simp only [intOf]; omega⟩
                · rw [blk_set HP2.out 2 _, HNX.out, show max dr le = (if dr < le then le else dr) from by split <;> omega]; rfl
                · exact blk_far HG2.out (fun e => hgp e) _
                · exact HM2.out.setCell (fun _ => Or.inl rfl) _
            · obtain rfl : k = dl.length := by omega
              go_wp2_with fail
              go_ret
              refine ⟨by rw [HE2.out]; rfl, ?_, HM.out.mod⟩
              unfold Ck.tickR
              rw [if_pos HE2.out]
              refine ⟨?_, HM.out.hg, H.out.ne⟩
              simpa [nowU_length] using HM.out.hp
end Go.Proofs.YtchdfogifhfclaaGreatDoor.Ck8

namespace Go.Proofs.YtchdfogifhfclaaGreatDoor.Ck8
open Go.RowKit

/-- Clocks that lie behind w0. -/
structure Cs (w0 : World) (p g : Nat) (c : Ck) (w : World) : Prop where
  at_ : CkAt w p g c
  fit : c.Fit
  new : w0.heap.size ≤ p ∧ w0.heap.size ≤ g
  out : Below w0.heap.size w0 w
section
variable {w0 w w' : World} {p g : Nat} {c : Ck}
theorem Cs.keep (h : Cs w0 p g c w) (hb : Below w.heap.size w w') : Cs w0 p g c w' := ⟨h.at_.below hb, h.fit, h.new, h.out.trans (hb.mono h.out.size)⟩
theorem Cs.box (h : Cs w0 p g c w) (o : Obj) : Cs w0 p g c (w.alloc o) := h.keep ((Below.refl _ _).alloc (Nat.le_refl _) o)
theorem Cs.drew (h : Cs w0 p g c w) : Cs w0 p g c w.drew := h.keep (below_drew w)
theorem Cs.drewN (h : Cs w0 p g c w) (n : Nat) : Cs w0 p g c (w.drewN n) := h.keep (below_drewN w n)
theorem Cs.of_new {n : Int} (hn : 1 ≤ n ∧ n ≤ 8) (h : CkAt w' p g (Ck.start n.toNat)) (hp : w.heap.size ≤ p) (hg : w.heap.size ≤ g) (hb : Below w.heap.size w w') : Cs w p g (Ck.start n.toNat) w' :=
  ⟨h, Ck.start_fit (by omega), ⟨hp, hg⟩, hb⟩
theorem cs_tick {D : Nat → Prop} {dl : List Int} {dv : Value} (h : Cs w0 p g c w) (d : Int) (hd : I64 d) (hdl : ∀ (j : Nat) (x : Int), dl[j]? = some x → I64 x) (hv : IntsV D w dv dl) (hD : ¬ D p ∧ ¬ D g) :
    Calls Tryz.prog 17 #[.pointer (some ⟨p, 0, none⟩), .int .i64 d, dv] w fun e w' => e = .returned (.int .i64 (c.tickE d dl)) ∧ Cs w0 p g (c.tickR d dl) w' ∧ Mod (Fpg p g) w w' :=
  (tick_any p g c d D dl dv w h.at_ h.fit hd hdl hv hD).mono fun _ _ ⟨h1, h2, h3⟩ => ⟨h1, ⟨h2, Ck.tickR_fit h.fit d dl, h.new, h.out.trans (h3.toBelow h.out.size (fun k hk => by rcases hk with rfl | rfl; exact h.new.1; exact h.new.2))⟩, h3⟩
end
/-- Ints that have just been laid. -/
theorem ints_new (w : World) (l : List Int) (cs : Array Value) (hcs : cs = (l.map I8).toArray) (n : Nat) (hn : n = l.length) (hl : n ≤ maxLen) : IntsV (fun k => k = w.heap.size) (w.alloc (.cells cs 3)) (.slice (some ⟨w.heap.size, 0, none⟩) n n) l := by
  subst hcs hn
  exact IntsV.of_block (heap_at w _ _ rfl) (fun j x hx => by simp [hx, I8]) (Nat.le_refl _) hl
theorem Cs.apart {w0 w : World} {p g : Nat} {c : Ck} (h : Cs w0 p g c w) : ¬ p = w.heap.size ∧ ¬ g = w.heap.size := by
  have := h.at_.lt
  omega

theorem wake_e : (Ck.start 2).tickE 100 [99, 101] = 0 := by decide +kernel
theorem wake_r : (Ck.start 2).tickR 100 [99, 101] = ⟨[99, 101], 100, 10⟩ := by
  unfold Ck.tickR
  rw [if_pos wake_e]
  have h : T3.leastT 100 99 = 10 ∧ T3.leastT 100 101 = 10 := by decide +kernel
  simp [driftU, nowU, Ck.start, h.1, h.2] <;> decide
theorem wake_e2 : (Ck.mk [99, 101] 100 10).tickE 1 [1] = 2 := by decide
theorem i64_lits {l : List Int} (h : (l.all fun x => decide (-9223372036854775808 ≤ x) && decide (x ≤ 9223372036854775807)) = true) : ∀ (j : Nat) (x : Int), l[j]? = some x → I64 x := fun j x hx => by
  have := List.all_eq_true.1 h x (List.mem_of_getElem? hx)
  simpa [I64] using this

end Go.Proofs.YtchdfogifhfclaaGreatDoor.Ck8

