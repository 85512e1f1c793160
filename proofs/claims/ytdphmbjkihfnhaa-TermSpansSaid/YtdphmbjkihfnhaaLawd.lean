/- THE WALK of TermSpans: it returns true, at any ints; of the old memory nothing turns. -/
import Derived.Test.YtdphmbjkihfnhaaLawc
namespace Go.Proofs.Ytdphmbjkihfnhaa
open Go.RowKit

theorem two_step {w : World} {g k : Nat} {dx ax dy ay : Int} {v v' : World} (hb : Below v.heap.size v v')
    (h : v.cell? ⟨g, 0, none⟩ = some (.int .i64 dx) ∧ v.cell? ⟨g, 1, none⟩ = some (.int .i64 ax) ∧ v.cell? ⟨k, 0, none⟩ = some (.int .i64 dy) ∧ v.cell? ⟨k, 1, none⟩ = some (.int .i64 ay) ∧ Below w.heap.size w v) :
    v'.cell? ⟨g, 0, none⟩ = some (.int .i64 dx) ∧ v'.cell? ⟨g, 1, none⟩ = some (.int .i64 ax) ∧ v'.cell? ⟨k, 0, none⟩ = some (.int .i64 dy) ∧ v'.cell? ⟨k, 1, none⟩ = some (.int .i64 ay) ∧ Below w.heap.size w v' := by
  obtain ⟨a, b, c, d, e⟩ := h
  have := (Two.mk a b c d e).step hb
  exact ⟨this.c0, this.c1, this.c2, this.c3, this.below⟩

theorem spans_facts (rho dx ax dy ay : Int) :
    0 ≤ T3.leastT (dx + dy) (ax + ay) ∧ T3.leastT (dx + dy) (ax + ay) ≤ 1000 ∧ T3.leastT (dx + dy) (ax + ay) ≤ max (T3.leastT dx ax) (T3.leastT dy ay) ∧
    (T3.honB dx ax rho = false ∨ (T3.honB dx ax rho = true ∧ T3.honB dy ay rho = false) ∨ (T3.honB dx ax rho = true ∧ T3.honB dy ay rho = true ∧ T3.honB (dx + dy) (ax + ay) rho = true ∧ T3.leastT (dx + dy) (ax + ay) ≤ rho)) := by
  have hb := T3.leastT_bd (dx + dy) (ax + ay)
  refine ⟨hb.1, hb.2, T3.leastT_add dx ax dy ay, ?_⟩
  cases h1 : T3.honB dx ax rho
  · exact Or.inl rfl
  · cases h2 : T3.honB dy ay rho
    · exact Or.inr (Or.inl ⟨rfl, rfl⟩)
    · have h3 := T3.honB_add h1 h2
      exact Or.inr (Or.inr ⟨rfl, rfl, h3, T3.leastT_le _ _ _ h3⟩)

set_option maxRecDepth 100000 in
set_option maxHeartbeats 2000000 in
theorem spans_any (rho dx ax dy ay : Int) (h1 : I64 dx) (h2 : I64 ax) (h3 : I64 dy) (h4 : I64 ay) (w : World) :
    Calls Try.prog 8 #[.int .i64 rho, .agg #[.int .i64 dx, .int .i64 ax, .int .i64 dy, .int .i64 ay]] w fun e w' => e = .returned (.bool true) ∧ Below w.heap.size w w' := by
  have F := Lib.hid (spans_facts rho dx ax dy ay)
  go_enter Try.func8, Try.ntmps8
  go_wp2_with fail
  refine (awake_any _).mono ?_; rintro e w1 ⟨rfl, hb1⟩
  have f0 : w1.cell? ⟨w.heap.size, 0, none⟩ = some (.int .i64 dx) := (hb1.cell (p := ⟨w.heap.size, 0, none⟩) (by simp)).trans (by simp [go_sem])
  have f1 : w1.cell? ⟨w.heap.size, 1, none⟩ = some (.int .i64 ax) := (hb1.cell (p := ⟨w.heap.size, 1, none⟩) (by simp)).trans (by simp [go_sem])
  have f2 : w1.cell? ⟨w.heap.size, 2, none⟩ = some (.int .i64 dy) := (hb1.cell (p := ⟨w.heap.size, 2, none⟩) (by simp)).trans (by simp [go_sem])
  have f3 : w1.cell? ⟨w.heap.size, 3, none⟩ = some (.int .i64 ay) := (hb1.cell (p := ⟨w.heap.size, 3, none⟩) (by simp)).trans (by simp [go_sem])
  have hz : w.heap.size < w1.heap.size := Nat.lt_of_lt_of_le (by simp) hb1.size
  have hB := below_step ((Below.refl w.heap.size w).alloc (Nat.le_refl _) _) hb1
  clear hb1
  go_upto_region 3 with fail
  go_cut [5, 6] (fun p q wx => ∃ g k : Nat, p = .pointer (some ⟨g, 0, none⟩) ∧ q = .pointer (some ⟨k, 0, none⟩) ∧ Two w g k dx ax dy ay wx)
  case first =>
    go_region
    all_goals
      go_wp2_with fail
      go_meet
      first
        | exact ⟨w1.heap.size, w1.heap.size + 1, rfl, rfl, by simp [go_sem], by simp [go_sem], by simp [go_sem], by simp [go_sem], ((hB.alloc hB.size _).alloc (by have := hB.size; simp; omega) _).drew⟩
        | exact ⟨w1.heap.size + 1, w1.heap.size, rfl, rfl, by simp [go_sem], by simp [go_sem], by simp [go_sem], by simp [go_sem], ((hB.alloc hB.size _).alloc (by have := hB.size; simp; omega) _).drew⟩
  case rest =>
  obtain ⟨g, k, rfl, rfl, hT⟩ := hcut
  clear f0 f1 f2 f3 hz hB
  rcases (show dx < 0 ∨ (0 ≤ dx ∧ dy < 0) ∨ (0 ≤ dx ∧ 0 ≤ dy ∧ ax < 0) ∨ (0 ≤ dx ∧ 0 ≤ dy ∧ 0 ≤ ax ∧ ay < 0) ∨ (0 ≤ dx ∧ 0 ≤ dy ∧ 0 ≤ ax ∧ 0 ≤ ay ∧ 2305843009213693952 < dx) ∨
      (0 ≤ dx ∧ 0 ≤ dy ∧ 0 ≤ ax ∧ 0 ≤ ay ∧ dx ≤ 2305843009213693952 ∧ 2305843009213693952 < dy) ∨ (0 ≤ dx ∧ 0 ≤ dy ∧ 0 ≤ ax ∧ 0 ≤ ay ∧ dx ≤ 2305843009213693952 ∧ dy ≤ 2305843009213693952 ∧ 2305843009213693952 < ax) ∨
      (0 ≤ dx ∧ 0 ≤ dy ∧ 0 ≤ ax ∧ 0 ≤ ay ∧ dx ≤ 2305843009213693952 ∧ dy ≤ 2305843009213693952 ∧ ax ≤ 2305843009213693952 ∧ 2305843009213693952 < ay) ∨
      (0 ≤ dx ∧ 0 ≤ dy ∧ 0 ≤ ax ∧ 0 ≤ ay ∧ dx ≤ 2305843009213693952 ∧ dy ≤ 2305843009213693952 ∧ ax ≤ 2305843009213693952 ∧ ay ≤ 2305843009213693952) from by omega)
    with j1 | ⟨j1, j2⟩ | ⟨j1, j2, j3⟩ | ⟨j1, j2, j3, j4⟩ | ⟨j1, j2, j3, j4, j5⟩ | ⟨j1, j2, j3, j4, j5, j6⟩ | ⟨j1, j2, j3, j4, j5, j6, j7⟩ | ⟨j1, j2, j3, j4, j5, j6, j7, j8⟩ | ⟨j1, j2, j3, j4, j5, j6, j7, j8⟩
  rotate_right
  · obtain ⟨m1, m2, m3, m4⟩ := F.out
    obtain ⟨c0, c1, c2, c3, _⟩ := id hT
    go_wp2_with fail
    refine (least_any _ _ _ (by unfold I64; omega) (by unfold I64; omega)).mono ?_; rintro e w3 ⟨rfl, hb3⟩
    replace hT := hT.step hb3
    clear hb3 c0 c1 c2 c3
    obtain ⟨c0, c1, c2, c3, _⟩ := id hT
    generalize hL : T3.leastT (dx + dy) (ax + ay) = L at *
    clear hL
    go_upto_region 7 with fail
    go_cut [96] (fun s wx => s = .bool false ∧ Two w g k dx ax dy ay wx)
    case first =>
      rcases m4 with n1 | ⟨n1, n2⟩ | ⟨n1, n2, n3, n4⟩
      all_goals
        go_wp2_with (first
          | (go_at_call_of 12 (Value.int .i64 (dx + dy)); refine (honest_any _ _ _ _ (by unfold I64; omega) (by unfold I64; omega)).mono ?_; rintro e w4 ⟨rfl, hb3⟩; replace hT := hT.step hb3; clear hb3 c0 c1 c2 c3; obtain ⟨c0, c1, c2, c3, _⟩ := id hT)
          | (go_at_call_of 12 (Value.int .i64 dx); refine (honest_any _ _ _ _ h1 h2).mono ?_; rintro e w4 ⟨rfl, hb3⟩; replace hT := hT.step hb3; clear hb3 c0 c1 c2 c3; obtain ⟨c0, c1, c2, c3, _⟩ := id hT)
          | (go_at_call_of 12 (Value.int .i64 dy); refine (honest_any _ _ _ _ h3 h4).mono ?_; rintro e w4 ⟨rfl, hb3⟩; replace hT := hT.step hb3; clear hb3 c0 c1 c2 c3; obtain ⟨c0, c1, c2, c3, _⟩ := id hT))
        go_meet
        exact ⟨by simp; try omega, hT⟩
    case rest =>
    obtain ⟨rfl, hT⟩ := hcut
    clear c0 c1 c2 c3 m4
    obtain ⟨c0, c1, c2, c3, hB⟩ := hT
    go_wp2_with fail
    rcases (show L ≤ T3.leastT dx ax ∧ T3.leastT dy ay ≤ T3.leastT dx ax ∨ L ≤ T3.leastT dy ay ∧ T3.leastT dx ax < T3.leastT dy ay from by omega) with ⟨n1, n2⟩ | ⟨n1, n2⟩
    · have q1 : (T3.leastT dx ax < T3.leastT dy ay) = False := eq_false (by omega)
      go_region_held3 (fun v => v.cell? ⟨g, 0, none⟩ = some (.int .i64 dx) ∧ v.cell? ⟨g, 1, none⟩ = some (.int .i64 ax) ∧ v.cell? ⟨k, 0, none⟩ = some (.int .i64 dy) ∧ v.cell? ⟨k, 1, none⟩ = some (.int .i64 ay) ∧ Below w.heap.size w v)
        (first | assumption | exact ⟨c0, c1, c2, c3, hB.drew⟩ | exact two_step (by assumption) (by assumption))
        (first
          | (go_at_call_of 13 (Value.int .i64 dx); refine (least_any _ _ _ h1 h2).mono ?_; rintro e w5 ⟨rfl, hb5⟩)
          | (go_at_call_of 13 (Value.int .i64 dy); refine (least_any _ _ _ h3 h4).mono ?_; rintro e w5 ⟨rfl, hb5⟩))
      go_wp2
      have hE : Below w.heap.size w _ := (by assumption : _ ∧ _ ∧ _ ∧ _ ∧ Below w.heap.size w _).2.2.2.2
      go_ret
      exact ⟨ret_bool (by simp; try omega), hE⟩
    · have q1 : (T3.leastT dx ax < T3.leastT dy ay) = True := eq_true n2
      go_region_held3 (fun v => v.cell? ⟨g, 0, none⟩ = some (.int .i64 dx) ∧ v.cell? ⟨g, 1, none⟩ = some (.int .i64 ax) ∧ v.cell? ⟨k, 0, none⟩ = some (.int .i64 dy) ∧ v.cell? ⟨k, 1, none⟩ = some (.int .i64 ay) ∧ Below w.heap.size w v)
        (first | assumption | exact ⟨c0, c1, c2, c3, hB.drew⟩ | exact two_step (by assumption) (by assumption))
        (first
          | (go_at_call_of 13 (Value.int .i64 dx); refine (least_any _ _ _ h1 h2).mono ?_; rintro e w5 ⟨rfl, hb5⟩)
          | (go_at_call_of 13 (Value.int .i64 dy); refine (least_any _ _ _ h3 h4).mono ?_; rintro e w5 ⟨rfl, hb5⟩))
      go_wp2
      have hE : Below w.heap.size w _ := (by assumption : _ ∧ _ ∧ _ ∧ _ ∧ Below w.heap.size w _).2.2.2.2
      go_ret
      exact ⟨ret_bool (by simp; try omega), hE⟩
  all_goals
    clear F
    obtain ⟨c0, c1, c2, c3, _⟩ := id hT
    go_wp2_with fail
    go_ret
    exact ⟨rfl, hT.below⟩
end Go.Proofs.Ytdphmbjkihfnhaa
