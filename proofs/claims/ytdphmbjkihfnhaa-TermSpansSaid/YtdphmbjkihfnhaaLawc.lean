/- THE WALKS of TermSafe and TermSpans: each returns true, at any ints; of the old memory nothing turns. And how an array of two spans is opened. -/
import Derived.Test.YtdphmbjkihfnhaaLawa
import Derived.Lib.SmallJoins
namespace Go.Proofs.Ytdphmbjkihfnhaa
open Go.RowKit Go.ChangeShapes Go.WideShapes

theorem Try.cells34 : Try.prog.cellsOf 34 = 4 := by kernel_rfl
theorem Try.cells33 : Try.prog.cellsOf 33 = 2 := by kernel_rfl
theorem Try.cells3 : Try.prog.cellsOf 3 = 1 := by kernel_rfl

section
variable {H : Type} {enc : TypeId × Value → H} {w : World} {base : Nat} {spare : Nat → Bool} {held : Bool}
theorem open_span {n : Nat} {c0 c1 : Value} {x : DataW H × List MemPlace} (h : DataW.trod enc Try.prog w base spare held n 33 [c0, c1] = some x) :
    ∃ a b : Int, c0 = .int .i64 a ∧ c1 = .int .i64 b ∧ I64 a ∧ I64 b := by
  obtain ⟨xs, m, _, _, _, hlen, hf⟩ := DataW.trod_struct Try.underlying33 h
  have h0 := hf 0 _ rfl
  have h1 := hf 1 _ rfl
  have hlen' : xs.length = 2 := hlen
  match xs, hlen' with
  | [y0, y1], _ =>
    simp [Try.cells3] at h0 h1
    obtain ⟨a, e0, _, wa⟩ := DataW.trod_int Try.underlying3 h0
    obtain ⟨b, e1, _, wb⟩ := DataW.trod_int Try.underlying3 h1
    simp at e0 e1
    exact ⟨a, b, e0, e1, i64_of_wf wa, i64_of_wf wb⟩
theorem open_spans {r : Reach} {b0 : Nat} {v : Value} {d : DataW H} {p : List MemPlace} (hv : Value.okWide Try.prog w r b0 34 v) (h : DataW.Trod enc Try.prog w base spare held 34 v d p) :
    ∃ a b c e : Int, v = .agg #[.int .i64 a, .int .i64 b, .int .i64 c, .int .i64 e] ∧ I64 a ∧ I64 b ∧ I64 c ∧ I64 e := by
  simp only [Value.okWide, Try.underlying34] at hv
  obtain ⟨cs, rfl, hsz, _⟩ := hv
  obtain ⟨c0, c1, c2, c3, rfl⟩ := Joins.array4 (hsz.trans Try.cells34)
  obtain ⟨fuel, hf⟩ := h
  obtain ⟨xs, m, _, _, _, hlen, hg⟩ := DataW.trod_array Try.underlying34 hf
  have h0 := hg 0 (by omega)
  have h1 := hg 1 (by omega)
  match xs, hlen with
  | [y0, y1], _ =>
    simp [Try.cells33, Value.cells] at h0 h1
    obtain ⟨a, b, rfl, rfl, wa, wb⟩ := open_span h0
    obtain ⟨c, e, rfl, rfl, wc, we⟩ := open_span h1
    exact ⟨a, b, c, e, rfl, wa, wb, wc, we⟩
end

/-- Two spans in blocks g and k of the world wx; below the old size all is as it was. -/
structure Two (w : World) (g k : Nat) (dx ax dy ay : Int) (wx : World) : Prop where
  c0 : wx.cell? ⟨g, 0, none⟩ = some (.int .i64 dx)
  c1 : wx.cell? ⟨g, 1, none⟩ = some (.int .i64 ax)
  c2 : wx.cell? ⟨k, 0, none⟩ = some (.int .i64 dy)
  c3 : wx.cell? ⟨k, 1, none⟩ = some (.int .i64 ay)
  below : Below w.heap.size w wx
theorem Two.step {w : World} {g k : Nat} {dx ax dy ay : Int} {wx w3 : World} (h : Two w g k dx ax dy ay wx) (hb : Below wx.heap.size wx w3) : Two w g k dx ax dy ay w3 :=
  ⟨(hb.cell (p := ⟨g, 0, none⟩) (World.block_lt_of_cell? wx _ h.c0)).trans h.c0, (hb.cell (p := ⟨g, 1, none⟩) (World.block_lt_of_cell? wx _ h.c1)).trans h.c1,
   (hb.cell (p := ⟨k, 0, none⟩) (World.block_lt_of_cell? wx _ h.c2)).trans h.c2, (hb.cell (p := ⟨k, 1, none⟩) (World.block_lt_of_cell? wx _ h.c3)).trans h.c3, below_step h.below hb⟩

theorem shr_ok {t rho : Int} (h : T3.shrB t rho = true) : shrV t rho = T3.shrT t rho ∧ shrE t rho = 0 := by unfold shrV shrE; rw [h]; exact ⟨rfl, rfl⟩
theorem shr_no {t rho : Int} (h : T3.shrB t rho = false) : shrV t rho = 0 ∧ shrE t rho = 2 := by unfold shrV shrE; rw [h]; exact ⟨rfl, rfl⟩

set_option maxRecDepth 100000 in
set_option maxHeartbeats 2000000 in
theorem safe_any (t rho dx ax dy ay : Int) (h1 : I64 dx) (h2 : I64 ax) (h3 : I64 dy) (h4 : I64 ay) (w : World) :
    Calls Try.prog 7 #[.int .i64 t, .int .i64 rho, .agg #[.int .i64 dx, .int .i64 ax, .int .i64 dy, .int .i64 ay]] w fun e w' => e = .returned (.bool true) ∧ Below w.heap.size w w' := by
  cases hs : T3.shrB t rho
  · have hr := of_decide_eq_false hs
    have k := shr_no hs
    rcases (show t < 0 ∨ (0 ≤ t ∧ 1048576 < t) ∨ (0 ≤ t ∧ t ≤ 1048576 ∧ rho < 0) ∨ (0 ≤ t ∧ t ≤ 1048576 ∧ 0 ≤ rho ∧ 999 < rho) from by omega) with j1 | ⟨j1, j2⟩ | ⟨j1, j2, j3⟩ | ⟨j1, j2, j3, j4⟩
    all_goals
      clear hs hr
      go_enter Try.func7, Try.ntmps7
      go_wp2_with fail
      refine (awake_any _).mono ?_; rintro e w1 ⟨rfl, hb1⟩
      go_wp2_with fail
      refine (shrink_any _ _ _).mono ?_; rintro e w2 ⟨rfl, rfl⟩
      rw [k.1, k.2]
      go_wp2_with fail
      go_ret
      exact ⟨rfl, below_step ((Below.refl _ _).alloc (Nat.le_refl _) _) hb1⟩
  · obtain ⟨s0, s1, _⟩ := T3.shr_spec hs
    have k := shr_ok hs
    have hsafe : T3.honB dx ax rho = true → T3.honB dy ay rho = true → dy ≤ dx → ax < T3.shrT t rho → ay < t := fun a b c d => T3.safe hs a b c d
    have HS := Lib.hid hsafe
    clear hs hsafe
    generalize T3.shrT t rho = h at *
    go_enter Try.func7, Try.ntmps7
    go_wp2_with fail
    refine (awake_any _).mono ?_; rintro e w1 ⟨rfl, hb1⟩
    go_wp2_with fail
    refine (shrink_any _ _ _).mono ?_; rintro e w2 ⟨rfl, rfl⟩
    rw [k.1, k.2]
    clear k
    have f0 : w1.cell? ⟨w.heap.size, 0, none⟩ = some (.int .i64 dx) := (hb1.cell (p := ⟨w.heap.size, 0, none⟩) (by simp)).trans (by simp [go_sem])
    have f1 : w1.cell? ⟨w.heap.size, 1, none⟩ = some (.int .i64 ax) := (hb1.cell (p := ⟨w.heap.size, 1, none⟩) (by simp)).trans (by simp [go_sem])
    have f2 : w1.cell? ⟨w.heap.size, 2, none⟩ = some (.int .i64 dy) := (hb1.cell (p := ⟨w.heap.size, 2, none⟩) (by simp)).trans (by simp [go_sem])
    have f3 : w1.cell? ⟨w.heap.size, 3, none⟩ = some (.int .i64 ay) := (hb1.cell (p := ⟨w.heap.size, 3, none⟩) (by simp)).trans (by simp [go_sem])
    have hz : w.heap.size < w1.heap.size := Nat.lt_of_lt_of_le (by simp) hb1.size
    have hB := below_step ((Below.refl w.heap.size w).alloc (Nat.le_refl _) _) hb1
    clear hb1
    go_upto_region 6 with fail
    go_cut [9, 10] (fun p q wx => ∃ g k : Nat, p = .pointer (some ⟨g, 0, none⟩) ∧ q = .pointer (some ⟨k, 0, none⟩) ∧ Two w g k dx ax dy ay wx)
    case first =>
      go_region
      all_goals
        go_wp2_with fail
        go_meet
        first
          | exact ⟨w1.heap.size, w1.heap.size + 1, rfl, rfl, by simp [go_sem], by simp [go_sem], by simp [go_sem], by simp [go_sem], ((hB.alloc hB.size _).alloc (by have := hB.size; simp; omega) _).drew⟩
          | exact ⟨w1.heap.size + 1, w1.heap.size, rfl, rfl, by simp [go_sem], by simp [go_sem], by simp [go_sem], by simp [go_sem], ((hB.alloc hB.size _).alloc (by have := hB.size; simp; omega) _).drew⟩
    case rest =>
    obtain ⟨g, k, rfl, rfl, hT⟩ := hcut
    clear f0 f1 f2 f3 hz hB
    rcases (show T3.honB dx ax rho = false ∨ (T3.honB dx ax rho = true ∧ T3.honB dy ay rho = false) ∨ (T3.honB dx ax rho = true ∧ T3.honB dy ay rho = true ∧ dx < dy) ∨ (T3.honB dx ax rho = true ∧ T3.honB dy ay rho = true ∧ dy ≤ dx ∧ h ≤ ax) ∨ (T3.honB dx ax rho = true ∧ T3.honB dy ay rho = true ∧ dy ≤ dx ∧ ax < h) from by
      cases T3.honB dx ax rho <;> cases T3.honB dy ay rho <;> simp <;> omega) with j1 | ⟨j1, j2⟩ | ⟨j1, j2, j3⟩ | ⟨j1, j2, j3, j4⟩ | ⟨j1, j2, j3, j4⟩
    rotate_right
    have j5 := HS.out j1 j2 j3 j4
    all_goals
      obtain ⟨c0, c1, c2, c3, _⟩ := id hT
      go_wp2_with (first
        | (go_at_call_of 12 (Value.int .i64 dx); refine (honest_any _ _ _ _ h1 h2).mono ?_; rintro e w3 ⟨rfl, hb3⟩; replace hT := hT.step hb3; clear hb3 c0 c1 c2 c3; obtain ⟨c0, c1, c2, c3, _⟩ := id hT)
        | (go_at_call_of 12 (Value.int .i64 dy); refine (honest_any _ _ _ _ h3 h4).mono ?_; rintro e w3 ⟨rfl, hb3⟩; replace hT := hT.step hb3; clear hb3 c0 c1 c2 c3; obtain ⟨c0, c1, c2, c3, _⟩ := id hT))
      go_ret
      exact ⟨ret_bool (by simp; try omega), hT.below⟩

end Go.Proofs.Ytdphmbjkihfnhaa
