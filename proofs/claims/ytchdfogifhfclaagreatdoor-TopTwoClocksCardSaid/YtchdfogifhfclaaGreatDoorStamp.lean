/- term: Legal, Shrink; stamps: Valid, Extend, Later. -/
import Derived.Test.YtchdfogifhfclaaGreatDoorInts
import Derived.Test.YtchdfogifhfclaaGreatDoorPlain3
import Derived.Handy
namespace Go.Proofs.YtchdfogifhfclaaGreatDoor
open Go.RowKit

theorem legal_any (t : Int) (w : World) (h : 4 ≤ t ∧ t ≤ 1048576) : Calls Tryz.prog 67 #[.int .i64 t] w fun e w' => e = .returned (.bool true) ∧ w = w' := by
  have d1 : decide (4 ≤ t) = true := decide_eq_true h.1
  have d2 : decide (t ≤ 1048576) = true := decide_eq_true h.2
  clear h
  go_enter Tryz.func67, Tryz.ntmps67
  go_wp2_with fail
  go_ret
  exact ⟨rfl, rfl⟩
theorem shrink_any (t rho : Int) (w : World) (h : 4 ≤ t ∧ t ≤ 1048576) (hr : 0 ≤ rho ∧ rho ≤ 999) : Calls Tryz.prog 98 #[.int .i64 t, .int .i64 rho] w fun e w' => e = .returned (.tuple #[.int .i64 (T3.shrT t rho), .int .i64 0]) ∧ w = w' := by
  have d1 : decide (t < 0) = false := decide_eq_false (by omega)
  have d2 : decide (1048576 < t) = false := decide_eq_false (by omega)
  have d3 : decide (rho < 0) = false := decide_eq_false (by omega)
  have d4 : decide (999 < rho) = false := decide_eq_false (by omega)
  obtain ⟨k, hk⟩ : ∃ k, k = 1000 - rho := ⟨_, rfl⟩
  obtain ⟨m, hm⟩ : ∃ m, m = 1000 + rho := ⟨_, rfl⟩
  have w1 : IntKind.i64.wrap (1000 - rho) = k := by rw [IntWalk.i64_in _ (by omega)]; exact hk.symm
  have w2 : IntKind.i64.wrap (1000 + rho) = m := by rw [IntWalk.i64_in _ (by omega)]; exact hm.symm
  have b1 : 0 ≤ t * k ∧ t * k ≤ 1048576 * 1000 := ⟨Int.mul_nonneg (by omega) (by omega), Int.mul_le_mul (by omega) (by omega) (by omega) (by omega)⟩
  obtain ⟨x, hx⟩ : ∃ x, x = t * k := ⟨_, rfl⟩
  have w3 : IntKind.i64.wrap (t * k) = x := by rw [IntWalk.i64_in _ (by omega)]; exact hx.symm
  have hm0 : m ≠ 0 := by omega
  have hq : Int.tdiv x m = T3.shrT t rho := by
    unfold T3.shrT
    rw [hx, hk, hm, Int.tdiv_eq_ediv_of_nonneg (by rw [← hk]; exact b1.1)]
  have b2 : 0 ≤ Int.tdiv x m ∧ Int.tdiv x m ≤ x := by
    rw [Int.tdiv_eq_ediv_of_nonneg (by omega)]
    exact ⟨Int.ediv_nonneg (by omega) (by omega), Int.ediv_le_self _ (by omega)⟩
  have w4 : IntKind.i64.wrap (Int.tdiv x m) = T3.shrT t rho := by rw [IntWalk.i64_in _ (by omega)]; exact hq
  clear hk hm hx b1 b2 hq h hr
  go_enter Tryz.func98, Tryz.ntmps98
  go_wp2_with fail
  go_ret2
  exact ⟨rfl, rfl⟩
/-- Counters. -/
def countersOK (l : List Int) : Prop := ∀ x ∈ l, 1 ≤ x ∧ x ≤ 1099511627776
theorem counts_any (n : Int) (w : World) (h : 1 ≤ n ∧ n ≤ 1099511627776) : Calls Tryz.prog 139 #[.int .i64 n] w fun e w' => e = .returned (.bool true) ∧ w = w' := by
  have d1 : decide (1 ≤ n) = true := decide_eq_true h.1
  have d2 : decide (n ≤ 1099511627776) = true := decide_eq_true h.2
  clear h
  go_enter Tryz.func139, Tryz.ntmps139
  go_wp2_with fail
  go_ret
  exact ⟨rfl, rfl⟩
theorem uncount_any (n : Int) (w : World) (h : 1 ≤ n ∧ n ≤ 1099511627776) : Calls Tryz.prog 151 #[.int .i64 n] w fun e w' => e = .returned (.bool false) ∧ w = w' := by
  go_enter Tryz.func151, Tryz.ntmps151
  go_wp2_with fail
  refine (counts_any n _ h).mono ?_
  rintro e w1 ⟨rfl, rfl⟩
  go_wp2_with fail
  go_ret
  exact ⟨rfl, rfl⟩
set_option maxHeartbeats 1000000 in
theorem indexV_any (D : Nat → Prop) (dl : List Int) (dv : Value) (w : World) (hd : Ck8.IntsV D w dv dl) (hc : countersOK dl) :
    Calls Tryz.prog 111 #[dv, .func (.func 151) #[] #[]] w fun e w' => e = .returned (.int .i64 (-1)) ∧ w = w' := by
  have HD := Lib.hid hd
  have HC := Lib.hid hc
  obtain ⟨a, c, rfl, hcl, hcm, _⟩ := hd
  unfold maxLen at hcm
  clear hc
  go_enter Tryz.func111, Tryz.ntmps111
  go_wp2_with fail
  go_loop [8] (fun i => ∃ k : Nat, k ≤ dl.length ∧ i = .int .i64 k) (fun i => dl.length - (intOf i).toNat)
  case atStart => exact ⟨0, by omega, rfl⟩
  case round =>
    obtain ⟨k, hk, rfl⟩ := hrel
    have k0 : (0 : Int) ≤ (k : Int) := by omega
    by_cases hlt : k < dl.length
    · obtain ⟨x, hx⟩ : ∃ x, dl[k]? = some x := ⟨_, List.getElem?_eq_getElem hlt⟩
      obtain ⟨b, o, c', e1, _, _, hb, _, t0⟩ := HD.out.at_ hx
      injection e1 with e1 _ e2
      subst e1 e2
      have k1 : (k : Int) < (dl.length : Int) := by omega
      have hxc := HC.out x (List.mem_of_getElem? hx)
      have HX := Lib.hid hxc
      clear hx hxc
      go_wp2_with fail
      refine (uncount_any x w HX.out).mono ?_
      rintro e w1 ⟨rfl, rfl⟩
      go_wp2_with fail
      exact ⟨⟨k + 1, by omega, by push_cast; rfl⟩, by simp only [intOf]; omega⟩
    · obtain rfl : k = dl.length := by omega
      go_wp2_with fail
      go_ret
      exact ⟨rfl, rfl⟩
theorem stampValid_any (D : Nat → Prop) (dl : List Int) (dv : Value) (w : World) (hd : Ck8.IntsV D w dv dl) (hc : countersOK dl) (hl : dl.length ≤ 4) :
    Calls Tryz.prog 104 #[dv] w fun e w' => e = .returned (.bool true) ∧ w = w' := by
  have HD := Lib.hid hd
  obtain ⟨a, c, rfl, hcl, hcm, _⟩ := hd
  have d1 : decide (dl.length ≤ 4) = true := decide_eq_true hl
  have d2 : decide ((dl.length : Int) ≤ 4) = true := decide_eq_true (by omega)
  go_enter Tryz.func104, Tryz.ntmps104
  go_wp2_with fail
  have hcont : ∀ W, W = w → Calls Tryz.prog 71 #[.slice a dl.length c, .func (.func 151) #[] #[]] W fun e w' => e = .returned (.bool false) ∧ W = w' := by
    rintro W rfl
    go_enter Tryz.func71, Tryz.ntmps71
    go_wp2_with fail
    refine (indexV_any D dl _ _ HD.out hc).mono ?_
    rintro e w1 ⟨rfl, rfl⟩
    go_wp2_with fail
    go_ret
    exact ⟨rfl, rfl⟩
  refine (hcont w rfl).mono ?_
  rintro e w1 ⟨rfl, rfl⟩
  go_wp2_with fail
  go_ret
  exact ⟨rfl, rfl⟩
theorem below_drewN (w : World) (n : Nat) : Below w.heap.size w (w.drewN n) := ⟨rfl, rfl, rfl, Nat.le_refl _, fun _ _ => rfl⟩
/-- The root's stamp with a counter behind. -/
def ExtPost (n : Int) (w : World) (e : Ending) (w' : World) : Prop := ∃ v, e = .returned (.tuple #[v, .int .i64 0]) ∧ w'.ownsRow w.heap.size 3 1 v 1 [.int .i64 n] ∧ Below w.heap.size w w'
theorem made_one (w : World) : (w.alloc (.cells #[.int .i64 0] 3)).ownsRow w.heap.size 3 1 (.slice (some ⟨w.heap.size, 0, none⟩) 0 1) 0 [] := by
  have := World.ownsRow_made (base := w.heap.size) (e := 3) (size := 1) w #[.int .i64 0] 1 (Nat.le_refl _) (by decide) rfl
  simpa using this
set_option maxRecDepth 100000 in
set_option maxHeartbeats 1000000 in
theorem extend_any (n : Int) (w : World) (h : 1 ≤ n ∧ n ≤ 1099511627776) : Calls Tryz.prog 91 #[.slice none 0 0, .int .i64 n] w (ExtPost n w) := by
  obtain ⟨i0, hi, hz0, hz1, hz2⟩ := info_parts Ck8.Tryz.info3
  have hmk : ∀ W : World, (Instr.makeSlice 43 (.int .i64 0) (.int .i64 1)).run Tryz.prog W = .ok (.slice (some ⟨W.heap.size, 0, none⟩) 0 1) (W.alloc (.cells #[.int .i64 0] 3)) := fun W => by
    have := run_make_rowN (P := Tryz.prog) 43 3 i0 (.int .i64 0) Tryz.underlying43 hi hz0 .i64 .i64 0 1 (by omega) (by rw [hz2]; omega) (by omega) W
    simp only [hz1, Nat.mul_one, Value.cells, madeCells_one] at this
    exact this
  have hap := Ck8.append_none (P := Tryz.prog) (w.alloc (.cells #[.int .i64 0] 3)) w.heap.size 43 43 3 i0 1 Tryz.underlying43 hi _ _ _ (made_one w) 0
  go_enter Tryz.func91, Tryz.ntmps91
  go_wp2_with fail
  refine (stampValid_any (fun _ => True) [] _ _ (Ck8.IntsV.nil _ _) (fun x hx => by cases hx) (by decide)).mono ?_
  rintro e w1 ⟨rfl, rfl⟩
  go_wp2_with fail
  refine (counts_any n _ h).mono ?_
  rintro e w1 ⟨rfl, rfl⟩
  go_wp2_with fail
  go_ret2
  refine ⟨_, rfl, ⟨rfl, Or.inr ⟨w.heap.size, 1, #[.int .i64 n], rfl, Nat.le_refl _, ?_, Nat.le_refl _, by decide, rfl, rfl⟩⟩, ((Below.refl _ _).alloc (Nat.le_refl _) _).alloc (by simp) _⟩
  rw [heap_past _ _ _ (by simp), heap_at _ _ _ rfl]
theorem notNaN_any (x : Int) (w : World) : Calls Tryz.prog 106 #[.int .i64 x] w fun e w' => e = .returned (.bool false) ∧ w = w' := by
  go_enter Tryz.func106, Tryz.ntmps106
  go_wp2_with fail
  go_ret
  exact ⟨by simp, rfl⟩
def cmpI (x y : Int) : Int := if x < y then -1 else if y < x then 1 else 0
theorem compare_any (x y : Int) (w : World) : Calls Tryz.prog 60 #[.int .i64 x, .int .i64 y] w fun e w' => e = .returned (.int .i64 (cmpI x y)) ∧ w = w' := by
  unfold cmpI
  by_cases h1 : x < y
  · have d1 : decide (x < y) = true := decide_eq_true h1
    rw [if_pos h1]
    clear h1
    go_enter Tryz.func60, Tryz.ntmps60
    go_wp2_with fail
    refine (notNaN_any x _).mono ?_
    rintro e w1 ⟨rfl, rfl⟩
    go_wp2_with fail
    refine (notNaN_any y _).mono ?_
    rintro e w1 ⟨rfl, rfl⟩
    go_wp2_with fail
    go_ret
    exact ⟨rfl, rfl⟩
  · have d1 : decide (x < y) = false := decide_eq_false h1
    rw [if_neg h1]
    clear h1
    by_cases h2 : y < x
    · have d2 : decide (y < x) = true := decide_eq_true h2
      rw [if_pos h2]
      clear h2
      go_enter Tryz.func60, Tryz.ntmps60
      go_wp2_with fail
      refine (notNaN_any x _).mono ?_
      rintro e w1 ⟨rfl, rfl⟩
      go_wp2_with fail
      refine (notNaN_any y _).mono ?_
      rintro e w1 ⟨rfl, rfl⟩
      go_wp2_with fail
      go_ret
      exact ⟨rfl, rfl⟩
    · have d2 : decide (y < x) = false := decide_eq_false h2
      rw [if_neg h2]
      clear h2
      go_enter Tryz.func60, Tryz.ntmps60
      go_wp2_with fail
      refine (notNaN_any x _).mono ?_
      rintro e w1 ⟨rfl, rfl⟩
      go_wp2_with fail
      refine (notNaN_any y _).mono ?_
      rintro e w1 ⟨rfl, rfl⟩
      go_wp2_with fail
      go_ret
      exact ⟨rfl, rfl⟩
/-- Stamps of one counter, in order. -/
theorem inOrder_any (D D' : Nat → Prop) (x y : Int) (dv dv' : Value) (w : World) (hd : Ck8.IntsV D w dv [x]) (hd' : Ck8.IntsV D' w dv' [y]) :
    Calls Tryz.prog 107 #[dv, dv'] w fun e w' => e = .returned (.int .i64 (cmpI x y)) ∧ Below w.heap.size w w' := by
  obtain ⟨b, o, c, rfl, hc1, hc2, hb, _, t0⟩ := hd.at_ (j := 0) rfl
  obtain ⟨b', o', c', rfl, hc1', hc2', hb', _, t0'⟩ := hd'.at_ (j := 0) rfl
  obtain ⟨c0, hc0⟩ : ∃ c0, c0 = cmpI x y := ⟨_, rfl⟩
  rw [← hc0]
  have HC := Lib.hid (fun W => hc0 ▸ compare_any x y W)
  clear hc0
  by_cases h0 : c0 = 0
  · subst h0
    go_enter Tryz.func107, Tryz.ntmps107
    go_wp2_with fail
    refine wp_loop_rounds 2 ?_
    rw [rounds_succ]
    go_wp2_with fail
    have s0 : w.drew.cell? ⟨b, o + 0, none⟩ = some (.int .i64 x) := t0
    go_region_held_law (fun u => u.cell? ⟨b, o, none⟩ = some (.int .i64 x) ∧ u.cell? ⟨b', o', none⟩ = some (.int .i64 y)) (first | (go_split_ands; exact ⟨by assumption, by assumption⟩) | go_keep) (first
      | (go_at_call 60; refine (HC.out _).mono ?_; rintro e w1 ⟨rfl, rfl⟩))
    go_wp2_with fail
    rw [rounds_succ]
    go_wp2_with fail
    refine (compare_any 1 1 _).mono ?_
    rintro e w1 ⟨rfl, rfl⟩
    go_wp2_with fail
    go_ret
    exact ⟨rfl, below_drewN _ 1⟩
  · have z1 : (c0 != 0) = true := by simpa using h0
    have z2 : (c0 == 0) = false := by simpa using h0
    clear h0
    go_enter Tryz.func107, Tryz.ntmps107
    go_wp2_with fail
    refine wp_loop_rounds 2 ?_
    rw [rounds_succ]
    go_wp2_with fail
    have s0 : w.drew.cell? ⟨b, o + 0, none⟩ = some (.int .i64 x) := t0
    go_region_held_law (fun u => u.cell? ⟨b, o, none⟩ = some (.int .i64 x) ∧ u.cell? ⟨b', o', none⟩ = some (.int .i64 y)) (first | (go_split_ands; exact ⟨by assumption, by assumption⟩) | go_keep) (first
      | (go_at_call 60; refine (HC.out _).mono ?_; rintro e w1 ⟨rfl, rfl⟩))
    go_wp2_with fail
    go_ret
    exact ⟨rfl, below_drewN _ 1⟩
theorem row_base {w : World} {base base' : Nat} {e : TypeId} {size n : Nat} {v : Value} {xs : List Value} (h : w.ownsRow base e size v n xs) (hb : base' ≤ base) : w.ownsRow base' e size v n xs := by
  obtain ⟨h1, h2 | ⟨g, cap, cur, h3, h4, h5⟩⟩ := h
  · exact ⟨h1, .inl h2⟩
  · exact ⟨h1, .inr ⟨g, cap, cur, h3, Nat.le_trans hb h4, h5⟩⟩
def LaterPost (x : Int) (w : World) (e : Ending) (w' : World) : Prop := ∃ v, e = .returned v ∧ w'.ownsRow w.heap.size 3 1 v 1 [.int .i64 x] ∧ Below w.heap.size w w'
set_option maxRecDepth 100000 in
set_option maxHeartbeats 1000000 in
theorem later_any (D D' : Nat → Prop) (x y : Int) (dv dv' : Value) (w : World) (hd : Ck8.IntsV D w dv [x]) (hd' : Ck8.IntsV D' w dv' [y]) :
    Calls Tryz.prog 69 #[dv, dv'] w (LaterPost (if x < y then y else x) w) := by
  obtain ⟨i0, hi, hz0, hz1, hz2⟩ := info_parts Ck8.Tryz.info3
  obtain ⟨z, hz⟩ : ∃ z, z = if x < y then y else x := ⟨_, rfl⟩
  rw [← hz]
  have HZ := Lib.hid hz
  clear hz
  have HD := Lib.hid hd
  have HD' := Lib.hid hd'
  obtain ⟨a, c, rfl, _⟩ := hd
  obtain ⟨a', c', rfl, _⟩ := hd'
  go_enter Tryz.func69, Tryz.ntmps69
  go_wp2_with fail
  refine (inOrder_any D D' x y _ _ _ HD.out HD'.out).mono ?_
  rintro e w1 ⟨rfl, hb1⟩
  have HB1 := Lib.hid hb1
  have H1 := Lib.hid (HD.out.below hb1)
  have H2 := Lib.hid (HD'.out.below hb1)
  clear hb1
  by_cases hxy : x < y
  · have hzy : y = z := by rw [HZ.out, if_pos hxy]
    have HZ2 := Lib.hid hzy
    have d : decide (cmpI x y < 0) = true := by unfold cmpI; rw [if_pos hxy]; rfl
    clear hxy hzy
    go_wp2_with (at_builtin; refine Ck8.wpList_append_ints rfl (.const (.slice none 0 0)) (.tmp 10) _ rfl w1.heap.size 3 i0 Tryz.underlying43 hi hz0 hz1 hz2 (.slice none 0 0) 0 [] rfl (World.ownsRow_nil _ _ _ _) _ _ [y] rfl H2.out (by simp) (Nat.le_refl _) ?_; intro v7 w7 hown7 hgrow7 hat7)
    go_ret
    refine ⟨_, rfl, row_base (by rw [← HZ2.out]; simpa [Ck8.I8] using hown7) HB1.out.size, HB1.out.trans (((Below.refl _ _).grown hgrow7 (Nat.le_refl _) (by intro k hk; simp [Value.ownBlock] at hk)).mono HB1.out.size)⟩
  · have hzy : x = z := by rw [HZ.out, if_neg hxy]
    have HZ2 := Lib.hid hzy
    have d : decide (cmpI x y < 0) = false := by
      unfold cmpI; rw [if_neg hxy]
      split <;> rfl
    clear hxy hzy
    go_wp2_with (at_builtin; refine Ck8.wpList_append_ints rfl (.const (.slice none 0 0)) (.tmp 10) _ rfl w1.heap.size 3 i0 Tryz.underlying43 hi hz0 hz1 hz2 (.slice none 0 0) 0 [] rfl (World.ownsRow_nil _ _ _ _) _ _ [x] rfl H1.out (by simp) (Nat.le_refl _) ?_; intro v7 w7 hown7 hgrow7 hat7)
    go_ret
    refine ⟨_, rfl, row_base (by rw [← HZ2.out]; simpa [Ck8.I8] using hown7) HB1.out.size, HB1.out.trans (((Below.refl _ _).grown hgrow7 (Nat.le_refl _) (by intro k hk; simp [Value.ownBlock] at hk)).mono HB1.out.size)⟩
end Go.Proofs.YtchdfogifhfclaaGreatDoor
