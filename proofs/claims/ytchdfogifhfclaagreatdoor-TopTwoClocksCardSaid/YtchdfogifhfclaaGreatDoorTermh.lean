/- THE WALKS of package term, Honest and Least: each function, at any ints, returns what the plain functions of YtchdfogifhfclaaGreatDoorPlain3 compute; of the old memory nothing turns. -/
import Derived.Test.YtchdfogifhfclaaGreatDoorRows
import Derived.Test.YtchdfogifhfclaaGreatDoorPlain3
import Derived.WalkKit
import Derived.WalkSpells
import Derived.Outline
import Derived.Laws.Pointers
import Derived.Laws.Bits64b
import Derived.Lib.Mul64
import Derived.Deep.RegionHeld3
import Derived.Deep.DeepFit
import Derived.BigQuiet
import Derived.Lib.Hide
import Derived.Shelf.Bits.Mul64
namespace Go.Proofs.YtchdfogifhfclaaGreatDoor.Ck8
open Go.RowKit
theorem ret_int {k : IntKind} {a b : Int} (h : a = b) : Ending.returned (.int k a) = .returned (.int k b) := by rw [h]
theorem ret_int2 {k l : IntKind} {a b c d : Int} (h : a = b) (h' : c = d) : Ending.returned (.tuple #[.int k a, .int l c]) = .returned (.tuple #[.int k b, .int l d]) := by rw [h, h']
theorem ret_bool {a b : Bool} (h : a = b) : Ending.returned (.bool a) = .returned (.bool b) := by rw [h]

/-! Products of 128 bits -/
def hiW (m : Int) : Int := m / 18446744073709551616
def loW (m : Int) : Int := m % 18446744073709551616
/-- a word of 64 bits -/
def Word (x : Int) : Prop := 0 ≤ x ∧ x < 18446744073709551616

theorem mul64 (x y : Int) (hx : Word x) (hy : Word y) (w : World) :
    Calls Tryz.prog 198 #[.int .u64 x, .int .u64 y] w fun e w' => e = .returned (.tuple #[.int .u64 (hiW (x * y)), .int .u64 (loW (x * y))]) ∧ w = w' := by
  obtain ⟨x, rfl⟩ := Int.eq_ofNat_of_zero_le hx.1
  obtain ⟨y, rfl⟩ := Int.eq_ofNat_of_zero_le hy.1
  have hx := hx.2; have hy := hy.2
  have hx : x < 18446744073709551616 := by omega
  have hy : y < 18446744073709551616 := by omega
  obtain ⟨bd, bt, bw, hhi⟩ := Lib.mul64_hi x y hx hy
  have ba := Lib.half_mul_le (a := x / 4294967296) (b := y / 4294967296) (by omega) (by omega)
  have bb := Lib.half_mul_le (a := x / 4294967296) (b := y % 4294967296) (by omega) (by omega)
  have bc := Lib.half_mul_le (a := x % 4294967296) (b := y / 4294967296) (by omega) (by omega)
  have ba' : x / 4294967296 * (y / 4294967296) < 18446744073709551616 := by omega
  have bb' : x / 4294967296 * (y % 4294967296) < 18446744073709551616 := by omega
  have bc' : x % 4294967296 * (y / 4294967296) < 18446744073709551616 := by omega
  have bh1 : x / 4294967296 * (y / 4294967296) + (x / 4294967296 * (y % 4294967296) + x % 4294967296 * (y % 4294967296) / 4294967296) / 4294967296 < 18446744073709551616 := by omega
  have bh : x / 4294967296 * (y / 4294967296) + (x / 4294967296 * (y % 4294967296) + x % 4294967296 * (y % 4294967296) / 4294967296) / 4294967296 + ((x / 4294967296 * (y % 4294967296) + x % 4294967296 * (y % 4294967296) / 4294967296) % 4294967296 + x % 4294967296 * (y / 4294967296)) / 4294967296 < 18446744073709551616 := by omega
  have e1 : ((x * y / 18446744073709551616 : Nat) : Int) = hiW ((x : Int) * y) := by unfold hiW; omega
  have e2 : ((x * y % 18446744073709551616 : Nat) : Int) = loW ((x : Int) * y) := by unfold loW; omega
  have E1 := Lib.hid e1
  have E2 := Lib.hid e2
  clear e1 e2
  go_enter Tryz.func198, Tryz.ntmps198
  go_wp2
  simp only [Mul64.maskN x hx, Mul64.maskN y hy, Mul64.divN, Mul64.mulN, Mul64.addN, Mul64.wrapN _ bd, Mul64.wrapN _ bb', Mul64.wrapN _ bt, Mul64.maskN _ bt, Mul64.wrapN _ bc', Mul64.wrapN _ bw, Mul64.wrapN _ ba', Mul64.wrapN _ bh1, Mul64.wrapN _ bh, Mul64.wrapM (x * y)]
  rw [hhi]
  go_ret2
  rw [← Mul64.mulN x y]
  exact ⟨ret_int2 E1.out E2.out, rfl⟩

set_option maxRecDepth 100000 in
set_option maxHeartbeats 400000 in
theorem product_any (n k : Int) (w : World) (hn : 0 ≤ n ∧ n ≤ 9223372036854775807) (hk : 0 ≤ k ∧ k ≤ 9223372036854775807) :
    Calls Tryz.prog 153 #[.int .i64 n, .int .i64 k] w fun e w' => e = .returned (.agg #[.int .u64 (hiW (n * k)), .int .u64 (loW (n * k))]) ∧ Below w.heap.size w w' := by
  go_enter Tryz.func153, Tryz.ntmps153
  go_wp2_with (go_at_call 198; refine (mul64 _ _ ⟨by omega, by omega⟩ ⟨by omega, by omega⟩ _).mono ?_; rintro e w' ⟨rfl, rfl⟩)
  refine bodyPost_ret (v := .agg #[.int .u64 (hiW (n * k)), .int .u64 (loW (n * k))]) (by simp [results, Tryz.results153, go_sem]) rfl ⟨rfl, ?_⟩
  exact ((Below.refl _ _).alloc (Nat.le_refl _) _).alloc (by simp) _

/-- h, l (high, low) at most h', l' -/
def leW (h l h' l' : Int) : Bool := decide (h < h' ∨ h = h' ∧ l ≤ l')

set_option maxRecDepth 100000 in
set_option maxHeartbeats 400000 in
theorem atMost_any (h l h' l' : Int) (w : World) :
    Calls Tryz.prog 154 #[.agg #[.int .u64 h, .int .u64 l], .agg #[.int .u64 h', .int .u64 l']] w fun e w' => e = .returned (.bool (leW h l h' l')) ∧ Below w.heap.size w w' := by
  rcases (show (h = h' ∧ l = l') ∨ (h = h' ∧ l < l') ∨ (h = h' ∧ l' < l) ∨ h < h' ∨ h' < h from by omega) with ⟨rfl, rfl⟩ | ⟨rfl, h2⟩ | ⟨rfl, h2⟩ | h2 | h2
  all_goals
    go_enter Tryz.func154, Tryz.ntmps154
    go_wp2
    go_ret
    exact ⟨ret_bool (by unfold leW; simp; try omega), ((Below.refl _ _).alloc (Nat.le_refl _) _).alloc (by simp) _⟩

theorem atMost_is (b : Bool) (h l h' l' : Int) (w : World) (hb : leW h l h' l' = b) :
    Calls Tryz.prog 154 #[.agg #[.int .u64 h, .int .u64 l], .agg #[.int .u64 h', .int .u64 l']] w fun e w' => e = .returned (.bool b) ∧ Below w.heap.size w w' :=
  hb ▸ atMost_any h l h' l' w

theorem leW_of (m m' : Int) : leW (hiW m) (loW m) (hiW m') (loW m') = decide (m ≤ m') := by
  unfold leW hiW loW
  rw [decide_eq_decide]
  have e := T3.wide_le (M := 18446744073709551616) (h := m / 18446744073709551616) (l := m % 18446744073709551616) (h' := m' / 18446744073709551616) (l' := m' % 18446744073709551616) (by omega) (by omega) (by omega) (by omega)
  rw [e]; omega

theorem mul_bd {n k : Int} (hn : 0 ≤ n ∧ n ≤ 9223372036854775807) (hk : 0 ≤ k ∧ k ≤ 9223372036854775807) : 0 ≤ n * k := Int.mul_nonneg hn.1 hk.1

theorem below_step {w w1 w2 : World} (h : Below w.heap.size w w1) (h' : Below w1.heap.size w1 w2) : Below w.heap.size w w2 := h.trans (h'.mono h.size)

set_option maxRecDepth 100000 in
set_option maxHeartbeats 400000 in
theorem honest_no (d a rho : Int) (w : World) (h : ¬ (0 ≤ d ∧ 0 ≤ a ∧ 0 ≤ rho ∧ rho ≤ 999)) :
    Calls Tryz.prog 112 #[.int .i64 d, .int .i64 a, .int .i64 rho] w fun e w' => e = .returned (.bool false) ∧ w = w' := by
  rcases (show d < 0 ∨ (0 ≤ d ∧ a < 0) ∨ (0 ≤ d ∧ 0 ≤ a ∧ rho < 0) ∨ (0 ≤ d ∧ 0 ≤ a ∧ 0 ≤ rho ∧ 999 < rho) from by omega) with h1 | ⟨h1, h2⟩ | ⟨h1, h2, h3⟩ | ⟨h1, h2, h3, h4⟩
  all_goals
    clear h
    go_enter Tryz.func112, Tryz.ntmps112
    go_wp2
    go_ret
    exact ⟨rfl, rfl⟩

theorem kept_step {B : Nat} {w v v' : World} {x y : Value} (hb : Below v.heap.size v v') (h : v.cell? ⟨B, 0, none⟩ = some x ∧ v.cell? ⟨B, 1, none⟩ = some y ∧ B < v.heap.size ∧ Below w.heap.size w v) :
    v'.cell? ⟨B, 0, none⟩ = some x ∧ v'.cell? ⟨B, 1, none⟩ = some y ∧ B < v'.heap.size ∧ Below w.heap.size w v' :=
  ⟨(hb.cell (p := ⟨B, 0, none⟩) h.2.2.1).trans h.1, (hb.cell (p := ⟨B, 1, none⟩) h.2.2.1).trans h.2.1, Nat.lt_of_lt_of_le h.2.2.1 hb.size, below_step h.2.2.2 hb⟩

set_option maxRecDepth 100000 in
set_option maxHeartbeats 1000000 in
theorem honest_yes (d a rho : Int) (w : World) (hd : 0 ≤ d ∧ d ≤ 9223372036854775807) (ha : 0 ≤ a ∧ a ≤ 9223372036854775807) (hr : 0 ≤ rho ∧ rho ≤ 999) :
    Calls Tryz.prog 112 #[.int .i64 d, .int .i64 a, .int .i64 rho] w fun e w' => e = .returned (.bool (T3.honB d a rho)) ∧ Below w.heap.size w w' := by
  have e0 : T3.honB d a rho = (leW (hiW (d * (1000 - rho))) (loW (d * (1000 - rho))) (hiW (a * 1000)) (loW (a * 1000)) && leW (hiW (a * 1000)) (loW (a * 1000)) (hiW (d * (1000 + rho))) (loW (d * (1000 + rho)))) := by
    rw [leW_of, leW_of, T3.honB, Bool.eq_iff_iff, Bool.and_eq_true, decide_eq_true_eq, decide_eq_true_eq, decide_eq_true_eq]
    exact ⟨fun h => h.2.2.2.2, fun h => ⟨hd.1, ha.1, hr.1, hr.2, h⟩⟩
  have E0 := Lib.hid e0
  clear e0
  by_cases hlow : d * (1000 - rho) ≤ a * 1000
  · have e1 : leW (hiW (d * (1000 - rho))) (loW (d * (1000 - rho))) (hiW (a * 1000)) (loW (a * 1000)) = true := by rw [leW_of]; exact decide_eq_true hlow
    have E1 := Lib.hid e1
    clear e1
    go_enter Tryz.func112, Tryz.ntmps112
    go_wp2_with (go_at_call 153; refine (product_any _ _ _ (by omega) (by omega)).mono ?_; rintro e w1 ⟨rfl, hb1⟩)
    have q1 : IntKind.i64.wrap (1000 - rho) = 1000 - rho := IntWalk.i64_in _ (by omega)
    have q2 : IntKind.i64.wrap (1000 + rho) = 1000 + rho := IntWalk.i64_in _ (by omega)
    go_region_held3 (fun v => v.cell? ⟨w1.heap.size, 0, none⟩ = some (.int .u64 (hiW (a * 1000))) ∧ v.cell? ⟨w1.heap.size, 1, none⟩ = some (.int .u64 (loW (a * 1000))) ∧ w1.heap.size < v.heap.size ∧ Below w.heap.size w v)
      (first | exact ⟨by simp [go_sem], by simp [go_sem], by simp, (hb1.alloc hb1.size _).drew⟩ | exact kept_step (by assumption) (by assumption))
      (first
        | (go_at_call 153; refine (product_any _ _ _ (by omega) (by omega)).mono ?_; rintro e w2 ⟨rfl, hb2⟩)
        | (go_at_call 154; with_reducible refine (atMost_is true (hiW (d * (1000 - rho))) _ _ _ _ E1.out).mono ?_; rintro e w2 ⟨rfl, hb2⟩)
        | (go_at_call 154; refine (atMost_any _ _ _ _ _).mono ?_; rintro e w2 ⟨rfl, hb2⟩))
    go_wp2
    have hB : Below w.heap.size w _ := (by assumption : _ ∧ _ ∧ _ ∧ Below w.heap.size w _).2.2.2
    go_ret
    exact ⟨ret_bool (by rw [E0.out, E1.out]; rfl), hB⟩
  · have e1 : leW (hiW (d * (1000 - rho))) (loW (d * (1000 - rho))) (hiW (a * 1000)) (loW (a * 1000)) = false := by rw [leW_of]; exact decide_eq_false hlow
    have E1 := Lib.hid e1
    clear e1
    go_enter Tryz.func112, Tryz.ntmps112
    go_wp2_with (go_at_call 153; refine (product_any _ _ _ (by omega) (by omega)).mono ?_; rintro e w1 ⟨rfl, hb1⟩)
    have q1 : IntKind.i64.wrap (1000 - rho) = 1000 - rho := IntWalk.i64_in _ (by omega)
    have q2 : IntKind.i64.wrap (1000 + rho) = 1000 + rho := IntWalk.i64_in _ (by omega)
    have C0 : ∀ w2, Below (w1.alloc (.cells #[.int .u64 (hiW (a * 1000)), .int .u64 (loW (a * 1000))] 236)).heap.size (w1.alloc (.cells #[.int .u64 (hiW (a * 1000)), .int .u64 (loW (a * 1000))] 236)).drew w2 → w2.cell? ⟨w1.heap.size, 0, none⟩ = some (.int .u64 (hiW (a * 1000))) ∧ w2.cell? ⟨w1.heap.size, 1, none⟩ = some (.int .u64 (loW (a * 1000))) ∧ Below w.heap.size w w2 := fun w2 h =>
      ⟨(h.cell (p := ⟨w1.heap.size, 0, none⟩) (by simp)).trans (by simp [go_sem]), (h.cell (p := ⟨w1.heap.size, 1, none⟩) (by simp)).trans (by simp [go_sem]), (hb1.alloc hb1.size _).drew.trans (h.mono (by have := hb1.size; simp; omega))⟩
    have HC := Lib.hid C0
    clear C0
    first
    | (go_region_with
        (first
          | (go_at_call 153; refine (product_any _ _ _ (by omega) (by omega)).mono ?_; rintro e w2 ⟨rfl, hb2⟩; obtain ⟨c0, c1, hB⟩ := HC.out w2 hb2)
          | (go_at_call 154; with_reducible refine (atMost_is false (hiW (d * (1000 - rho))) _ _ _ _ E1.out).mono ?_; rintro e w3 ⟨rfl, hb3⟩)))
    | fail
    all_goals
      go_wp2
      go_ret
      exact ⟨ret_bool (by rw [E0.out, E1.out]; rfl), below_step hB hb3⟩
end Go.Proofs.YtchdfogifhfclaaGreatDoor.Ck8

