/- look: the place of a request. -/
import Derived.Test.YtaelbgjcoakdlaaGreatTurnbM
import Derived.Deep.RegionWith
import Derived.OrdersHeld
namespace Go.Proofs.YtaelbgjcoakdlaaGreat
open Go.RowKit Go.Maps

theorem turn_any (p : Nat) (r : Rep) (b s l : Nat) (w : World) (hr : RepAt w p r) (hb : r.boot ≤ b) (h1 : 1 ≤ l) (hn : l ≤ 1000) (hlow : r.low ≤ 1000) :
    Calls Tryz.prog 43 #[.pointer (some ⟨p, 138, none⟩), (askM 1 b s l).val] w (TurnPost p (r.turn b l) w) := by
  unfold Rep.turn
  by_cases e : b = r.boot
  · rw [if_pos e]
    by_cases hl : l ≤ r.low
    · rw [if_pos hl]; exact turn_stays p r b s l w hr e hl hlow
    · rw [if_neg hl]; exact turn_later p r b s l w hr e (by omega) hn
  · rw [if_neg e]; exact turn_new p r b s l w hr (by omega) h1 hn
theorem turn_low_le (r : Rep) (b l : Nat) (h1 : l ≤ 1000) (h2 : r.low ≤ 1000) : (r.turn b l).low ≤ 1000 := by
  unfold Rep.turn
  split
  · split <;> assumption
  · exact h1
/-- What look reads behind the call of turn. -/
def LookH (w : World) (p : Nat) (R : Rep) (s : Nat) (u : World) : Prop := u.cell? ⟨w.heap.size, 4, none⟩ = some (.int .i64 (s : Int)) ∧ u.cell? ⟨p, 139, none⟩ = some (.int .i64 (R.low : Int))
def LookPost (p : Nat) (r' : Rep) (s : Nat) (w : World) (e : Ending) (w' : World) : Prop :=
  RepAt w' p r' ∧ Mod (fun b => b = p) w w' ∧ ((s < r'.low ∧ e = .returned (.tuple #[.int .i64 1, .pointer none])) ∨
    (r'.low ≤ s ∧ (r'.slots (s % 8)).s = s ∧ e = .returned (.tuple #[.int .i64 2, .pointer (some ⟨p, 140 + s % 8 * 17, none⟩)])) ∨
    (r'.low ≤ s ∧ (r'.slots (s % 8)).s ≠ s ∧ e = .returned (.tuple #[.int .i64 3, .pointer (some ⟨p, 140 + s % 8 * 17, none⟩)])))
/-- What look reads behind the call of turn. -/
structure LookS (w : World) (p : Nat) (r' : Rep) (b s l : Nat) (u : World) : Prop where
  rep : RepAt u p r'
  msg : u.heap[w.heap.size]? = some (.cells (askM 1 b s l).cells 51 (0, 0))
  mod : Mod (fun b => b = p) w u
theorem LookS.below {w u u' : World} {p : Nat} {r' : Rep} {b s l : Nat} (h : LookS w p r' b s l u) (hb : Below u.heap.size u u') : LookS w p r' b s l u' :=
  ⟨h.rep.below hb, (hb.block _ (lt_of_heap h.msg)).trans h.msg, h.mod.below hb⟩
theorem LookS.turned {w u u' : World} {p : Nat} {r r' : Rep} {b s l : Nat} (h : LookS w p r b s l u) (hp : p < w.heap.size) (hr : RepAt u' p r') (hm : Mod (fun b => b = p) u u') : LookS w p r' b s l u' :=
  ⟨hr, (hm.block _ (lt_of_heap h.msg) (by omega)).trans h.msg, h.mod.trans hm (fun _ _ h => h)⟩
theorem LookS.seq {w u : World} {p : Nat} {r' : Rep} {b s l : Nat} (h : LookS w p r' b s l u) : u.cell? ⟨w.heap.size, 4, none⟩ = some (.int .i64 (s : Int)) := blk_cell h.msg 4
set_option maxRecDepth 100000 in
set_option maxHeartbeats 2000000 in
theorem look_any (p : Nat) (r : Rep) (b s l : Nat) (w : World) (hr : RepAt w p r) (hf : Fine (askM 1 b s l)) (hb : r.boot ≤ b) (h1 : 1 ≤ l) (hn : s ≤ 1000) (hls : l ≤ s) (hlow : r.low ≤ 1000) (hwin : s < (r.turn b l).low + 8) :
    Calls Tryz.prog 32 #[.pointer (some ⟨p, 0, none⟩), (askM 1 b s l).val] w (LookPost p (r.turn b l) s w) := by
  have HF := Lib.hid hf
  have HB := Lib.hid hb
  have H1 := Lib.hid h1
  have HW := Lib.hid hwin
  have hpl := hr.lt
  have HS := Lib.hid (show LookS w p r b s l (w.alloc (.cells (askM 1 b s l).cells 51)) from ⟨hr.below ((Below.refl _ _).alloc (Nat.le_refl _) _), heap_at w _ _ rfl, (Mod.refl _ _).alloc _⟩)
  clear hr hf hb hwin
  have HV := Lib.hid (ask_val b s l)
  rw [ask_val]
  go_enter Tryz.func32, Tryz.ntmps32
  go_wp2_with fail
  rw [← HV.out]
  refine (valid_any _ _ HF.out).mono ?_
  rintro e w1 ⟨rfl, hb1⟩
  have HS1 := Lib.hid (HS.out.below hb1)
  have c4 := HS1.out.seq
  have c1 : w1.cell? ⟨w.heap.size, 1, none⟩ = some (.int .i64 1) := blk_cell HS1.out.msg 1
  clear hb1
  go_wp2_with fail
  go_quiet (fail)
  go_wp2_with fail
  have HSq := Lib.hid (show LookS w p r b s l (w1.drewN nq).drew from ⟨HS1.out.rep.keep rfl, HS1.out.msg, (HS1.out.mod.drewN nq).drew⟩)
  have hall : ∀ i, w1.cell? ⟨w.heap.size, i, none⟩ = #[.int .i64 1, .int .i64 1, .int .i64 0, .int .i64 (b : Int), .int .i64 (s : Int), .int .i64 (l : Int), .int .i64 3, .string estr, .int .i64 0, .int .i64 0, .int .i64 9, .bool false, .int .i64 0, .slice none 0 0, .int .i64 0, .int .i64 0][i]? := fun i => blk_cell HS1.out.msg i
  have HT := Lib.hid (fun (W : World) (h : RepAt W p r) => turn_any p r b s l W h HB.out H1.out (by omega) hlow)
  have hRl := turn_low_le r b l (show l ≤ 1000 by omega) hlow
  generalize hR : r.turn b l = R at HT HW hRl ⊢
  have HRE := Lib.hid hR
  clear hR c4 c1
  have hwin := HW.out
  have hlow0 : (0 : Int) ≤ (R.low : Int) := by omega
  have hsub : IntKind.i64.wrap ((s : Int) - (R.low : Int)) = (s : Int) - (R.low : Int) := IntWalk.i64_in _ (by omega)
  have d8 : decide (8 ≤ (s : Int) - (R.low : Int)) = false := decide_eq_false (by omega)
  clear hwin
  by_cases hst : s < R.low
  · have d4 : decide (s < R.low) = true := decide_eq_true hst
    refine wp_region_any (by kernel_rfl) ?_
    (try (change wpAny _ _ _ _ _ _ _ (World.drew _)))
    refine wpAny_take (i := 0) (v := ?v0) rfl (by kernel_rfl) (by kernel_rfl) (by kernel_rfl) (fun _ _ _ h => h) (Or.inl ⟨by rfl, ?hy0⟩) ?r0
    case hy0 => (intro W; go_simp; try with_reducible rfl)
    refine wpAny_ready (rs := [1]) (by kernel_rfl) (by simp) ?_
    refine AllReady.cons rfl (fun K hK => ?_) AllReady.nil
    go_simp
    refine hK _ _ ?_
    clear hK K
    refine wpAny_ready (rs := [2]) (by kernel_rfl) (by simp) ?_
    refine AllReady.cons rfl (fun K hK => ?_) AllReady.nil
    go_simp
    refine (HT.out _ HSq.out.rep).mono ?_
    rintro e w3 ⟨rfl, hr3, hm3⟩
    have HS3 := Lib.hid (HSq.out.turned hpl hr3 hm3)
    have hH : LookH w p R s w3 := ⟨HS3.out.seq, hr3.low⟩
    clear hr3 hm3
    dsimp only
    refine hK _ _ ?_
    clear hK K
    refine wpAny_of_held (S := LookH w p R s) _ _ _ _ ?_
    refine wpAnyH_take (i := 3) (oi := { dst := Option.some 29, op := Go.Op.unOp Go.UnOp.not 4 (Go.Operand.tmp 28), type := 4, pos := "replies.go:70", after := #[{ on := 2, ground := Go.Ground.data }], guard := Option.none }) (v := ?v3) rfl (by kernel_rfl) (by kernel_rfl) (by kernel_rfl) (fun _ _ _ h => h) (Or.inl ⟨by rfl, ?hy3⟩) hH ?r3
    case hy3 => (intro W hSW; (obtain ⟨hS4, hSl⟩ := hSW); go_simp; try with_reducible rfl)
    try simp only [Act.put, List.setIfInBounds_toArray, List.set_cons_zero, List.set_cons_succ]
    refine wpAnyH_take (i := 4) (oi := { dst := Option.some 30, op := Go.Op.move (Go.Operand.tmp 29), type := 4, pos := "replies.go:70", after := #[{ on := 3, ground := Go.Ground.data }, { on := 2, ground := Go.Ground.chain }], guard := Option.none }) (v := ?v4) rfl (by kernel_rfl) (by kernel_rfl) (by kernel_rfl) (fun _ _ _ h => h) (Or.inl ⟨by rfl, ?hy4⟩) hH ?r4
    case hy4 => (intro W hSW; (obtain ⟨hS4, hSl⟩ := hSW); go_simp; try with_reducible rfl)
    try simp only [Act.put, List.setIfInBounds_toArray, List.set_cons_zero, List.set_cons_succ]
    refine wpAnyH_take (i := 5) (oi := { dst := Option.some 31, op := Go.Op.fieldAddr 51 (Go.Operand.tmp 3) 4, type := 0, pos := "replies.go:70", after := #[{ on := 4, ground := Go.Ground.guard }], guard := Option.some (4, Bool.false) }) (v := ?v5) rfl (by kernel_rfl) (by kernel_rfl) (by kernel_rfl) (fun _ _ _ h => h) (Or.inl ⟨by rfl, ?hy5⟩) hH ?r5
    case hy5 => (intro W hSW; (obtain ⟨hS4, hSl⟩ := hSW); go_simp; try with_reducible rfl)
    try simp only [Act.put, List.setIfInBounds_toArray, List.set_cons_zero, List.set_cons_succ]
    refine wpAnyH_take (i := 6) (oi := { dst := Option.some 32, op := Go.Op.load 3 (Go.Operand.tmp 31), type := 3, pos := "replies.go:70", after := #[{ on := 5, ground := Go.Ground.data }, { on := 4, ground := Go.Ground.guard }], guard := Option.some (4, Bool.false) }) (v := ?v6) rfl (by kernel_rfl) (by kernel_rfl) (by kernel_rfl) (fun _ _ _ h => h) (Or.inl ⟨by rfl, ?hy6⟩) hH ?r6
    case hy6 => (intro W hSW; (obtain ⟨hS4, hSl⟩ := hSW); go_simp; try with_reducible rfl)
    try simp only [Act.put, List.setIfInBounds_toArray, List.set_cons_zero, List.set_cons_succ]
    refine wpAnyH_take (i := 7) (oi := { dst := Option.some 33, op := Go.Op.move (Go.Operand.tmp 6), type := 117, pos := "replies.go:70", after := #[{ on := 4, ground := Go.Ground.guard }], guard := Option.some (4, Bool.false) }) (v := ?v7) rfl (by kernel_rfl) (by kernel_rfl) (by kernel_rfl) (fun _ _ _ h => h) (Or.inl ⟨by rfl, ?hy7⟩) hH ?r7
    case hy7 => (intro W hSW; (obtain ⟨hS4, hSl⟩ := hSW); go_simp; try with_reducible rfl)
    try simp only [Act.put, List.setIfInBounds_toArray, List.set_cons_zero, List.set_cons_succ]
    refine wpAnyH_take (i := 8) (oi := { dst := Option.some 34, op := Go.Op.nilCheck (Go.Operand.tmp 33), type := 0, pos := "replies.go:70", after := #[{ on := 7, ground := Go.Ground.data }, { on := 4, ground := Go.Ground.guard }], guard := Option.some (4, Bool.false) }) (v := ?v8) rfl (by kernel_rfl) (by kernel_rfl) (by kernel_rfl) (fun _ _ _ h => h) (Or.inl ⟨by rfl, ?hy8⟩) hH ?r8
    case hy8 => (intro W hSW; (obtain ⟨hS4, hSl⟩ := hSW); go_simp; try with_reducible rfl)
    try simp only [Act.put, List.setIfInBounds_toArray, List.set_cons_zero, List.set_cons_succ]
    refine wpAnyH_take (i := 9) (oi := { dst := Option.some 35, op := Go.Op.fieldAddr 65 (Go.Operand.tmp 34) 0, type := 0, pos := "replies.go:70", after := #[{ on := 8, ground := Go.Ground.data }, { on := 4, ground := Go.Ground.guard }], guard := Option.some (4, Bool.false) }) (v := ?v9) rfl (by kernel_rfl) (by kernel_rfl) (by kernel_rfl) (fun _ _ _ h => h) (Or.inl ⟨by rfl, ?hy9⟩) hH ?r9
    case hy9 => (intro W hSW; (obtain ⟨hS4, hSl⟩ := hSW); go_simp; try with_reducible rfl)
    try simp only [Act.put, List.setIfInBounds_toArray, List.set_cons_zero, List.set_cons_succ]
    refine wpAnyH_take (i := 10) (oi := { dst := Option.some 36, op := Go.Op.fieldAddr 60 (Go.Operand.tmp 35) 1, type := 0, pos := "replies.go:70", after := #[{ on := 9, ground := Go.Ground.data }, { on := 4, ground := Go.Ground.guard }], guard := Option.some (4, Bool.false) }) (v := ?v10) rfl (by kernel_rfl) (by kernel_rfl) (by kernel_rfl) (fun _ _ _ h => h) (Or.inl ⟨by rfl, ?hy10⟩) hH ?r10
    case hy10 => (intro W hSW; (obtain ⟨hS4, hSl⟩ := hSW); go_simp; try with_reducible rfl)
    try simp only [Act.put, List.setIfInBounds_toArray, List.set_cons_zero, List.set_cons_succ]
    refine wpAnyH_take (i := 11) (oi := { dst := Option.some 37, op := Go.Op.load 3 (Go.Operand.tmp 36), type := 3, pos := "replies.go:70", after := #[{ on := 10, ground := Go.Ground.data }, { on := 4, ground := Go.Ground.guard }], guard := Option.some (4, Bool.false) }) (v := ?v11) rfl (by kernel_rfl) (by kernel_rfl) (by kernel_rfl) (fun _ _ _ h => h) (Or.inl ⟨by rfl, ?hy11⟩) hH ?r11
    case hy11 => (intro W hSW; (obtain ⟨hS4, hSl⟩ := hSW); go_simp; try with_reducible rfl)
    try simp only [Act.put, List.setIfInBounds_toArray, List.set_cons_zero, List.set_cons_succ]
    refine wpAnyH_take (i := 12) (oi := { dst := Option.some 38, op := Go.Op.binOp Go.BinOp.lss 3 (Go.Operand.tmp 32) (Go.Operand.tmp 37) 3, type := 4, pos := "replies.go:70", after := #[{ on := 6, ground := Go.Ground.data }, { on := 11, ground := Go.Ground.data }, { on := 4, ground := Go.Ground.guard }], guard := Option.some (4, Bool.false) }) (v := ?v12) rfl (by kernel_rfl) (by kernel_rfl) (by kernel_rfl) (fun _ _ _ h => h) (Or.inl ⟨by rfl, ?hy12⟩) hH ?r12
    case hy12 => (intro W hSW; (obtain ⟨hS4, hSl⟩ := hSW); go_simp; try with_reducible rfl)
    try simp only [Act.put, List.setIfInBounds_toArray, List.set_cons_zero, List.set_cons_succ]
    refine wpAnyH_take (i := 13) (oi := { dst := Option.some 39, op := Go.Op.pick (Go.Operand.tmp 30) (Go.Operand.const (Go.Value.bool Bool.true)) (Go.Operand.tmp 38), type := 4, pos := "replies.go:70", after := #[{ on := 4, ground := Go.Ground.data }, { on := 12, ground := Go.Ground.data }], guard := Option.none }) (v := ?v13) rfl (by kernel_rfl) (by kernel_rfl) (by kernel_rfl) (fun _ _ _ h => h) (Or.inl ⟨by rfl, ?hy13⟩) hH ?r13
    case hy13 => (intro W hSW; (obtain ⟨hS4, hSl⟩ := hSW); go_simp; try with_reducible rfl)
    try simp only [Act.put, List.setIfInBounds_toArray, List.set_cons_zero, List.set_cons_succ]
    refine wpAnyH_take (i := 14) (oi := { dst := Option.some 40, op := Go.Op.move (Go.Operand.tmp 39), type := 4, pos := "replies.go:70", after := #[{ on := 13, ground := Go.Ground.data }, { on := 4, ground := Go.Ground.chain }], guard := Option.none }) (v := ?v14) rfl (by kernel_rfl) (by kernel_rfl) (by kernel_rfl) (fun _ _ _ h => h) (Or.inl ⟨by rfl, ?hy14⟩) hH ?r14
    case hy14 => (intro W hSW; (obtain ⟨hS4, hSl⟩ := hSW); go_simp; try with_reducible rfl)
    try simp only [Act.put, List.setIfInBounds_toArray, List.set_cons_zero, List.set_cons_succ]
    refine wpAnyH_take (i := 15) (oi := { dst := Option.some 41, op := Go.Op.fieldAddr 51 (Go.Operand.tmp 3) 4, type := 0, pos := "replies.go:70", after := #[{ on := 14, ground := Go.Ground.guard }], guard := Option.some (14, Bool.false) }) (v := undef) rfl (by kernel_rfl) (by kernel_rfl) (by kernel_rfl) (fun _ _ _ h => h) (Or.inr ⟨by rfl, rfl⟩) hH ?r15
    try simp only [Act.put, List.setIfInBounds_toArray, List.set_cons_zero, List.set_cons_succ]
    refine wpAnyH_take (i := 16) (oi := { dst := Option.some 42, op := Go.Op.load 3 (Go.Operand.tmp 41), type := 3, pos := "replies.go:70", after := #[{ on := 15, ground := Go.Ground.data }, { on := 14, ground := Go.Ground.guard }], guard := Option.some (14, Bool.false) }) (v := undef) rfl (by kernel_rfl) (by kernel_rfl) (by kernel_rfl) (fun _ _ _ h => h) (Or.inr ⟨by rfl, rfl⟩) hH ?r16
    try simp only [Act.put, List.setIfInBounds_toArray, List.set_cons_zero, List.set_cons_succ]
    refine wpAnyH_take (i := 17) (oi := { dst := Option.some 43, op := Go.Op.move (Go.Operand.tmp 6), type := 117, pos := "replies.go:70", after := #[{ on := 14, ground := Go.Ground.guard }], guard := Option.some (14, Bool.false) }) (v := undef) rfl (by kernel_rfl) (by kernel_rfl) (by kernel_rfl) (fun _ _ _ h => h) (Or.inr ⟨by rfl, rfl⟩) hH ?r17
    try simp only [Act.put, List.setIfInBounds_toArray, List.set_cons_zero, List.set_cons_succ]
    refine wpAnyH_take (i := 18) (oi := { dst := Option.some 44, op := Go.Op.nilCheck (Go.Operand.tmp 43), type := 0, pos := "replies.go:70", after := #[{ on := 17, ground := Go.Ground.data }, { on := 14, ground := Go.Ground.guard }], guard := Option.some (14, Bool.false) }) (v := undef) rfl (by kernel_rfl) (by kernel_rfl) (by kernel_rfl) (fun _ _ _ h => h) (Or.inr ⟨by rfl, rfl⟩) hH ?r18
    try simp only [Act.put, List.setIfInBounds_toArray, List.set_cons_zero, List.set_cons_succ]
    refine wpAnyH_take (i := 19) (oi := { dst := Option.some 45, op := Go.Op.fieldAddr 65 (Go.Operand.tmp 44) 0, type := 0, pos := "replies.go:70", after := #[{ on := 18, ground := Go.Ground.data }, { on := 14, ground := Go.Ground.guard }], guard := Option.some (14, Bool.false) }) (v := undef) rfl (by kernel_rfl) (by kernel_rfl) (by kernel_rfl) (fun _ _ _ h => h) (Or.inr ⟨by rfl, rfl⟩) hH ?r19
    try simp only [Act.put, List.setIfInBounds_toArray, List.set_cons_zero, List.set_cons_succ]
    refine wpAnyH_take (i := 20) (oi := { dst := Option.some 46, op := Go.Op.fieldAddr 60 (Go.Operand.tmp 45) 1, type := 0, pos := "replies.go:70", after := #[{ on := 19, ground := Go.Ground.data }, { on := 14, ground := Go.Ground.guard }], guard := Option.some (14, Bool.false) }) (v := undef) rfl (by kernel_rfl) (by kernel_rfl) (by kernel_rfl) (fun _ _ _ h => h) (Or.inr ⟨by rfl, rfl⟩) hH ?r20
    try simp only [Act.put, List.setIfInBounds_toArray, List.set_cons_zero, List.set_cons_succ]
    refine wpAnyH_take (i := 21) (oi := { dst := Option.some 47, op := Go.Op.load 3 (Go.Operand.tmp 46), type := 3, pos := "replies.go:70", after := #[{ on := 20, ground := Go.Ground.data }, { on := 14, ground := Go.Ground.guard }], guard := Option.some (14, Bool.false) }) (v := undef) rfl (by kernel_rfl) (by kernel_rfl) (by kernel_rfl) (fun _ _ _ h => h) (Or.inr ⟨by rfl, rfl⟩) hH ?r21
    try simp only [Act.put, List.setIfInBounds_toArray, List.set_cons_zero, List.set_cons_succ]
    refine wpAnyH_take (i := 22) (oi := { dst := Option.some 48, op := Go.Op.binOp Go.BinOp.sub 3 (Go.Operand.tmp 42) (Go.Operand.tmp 47) 3, type := 3, pos := "replies.go:70", after := #[{ on := 16, ground := Go.Ground.data }, { on := 21, ground := Go.Ground.data }, { on := 14, ground := Go.Ground.guard }], guard := Option.some (14, Bool.false) }) (v := undef) rfl (by kernel_rfl) (by kernel_rfl) (by kernel_rfl) (fun _ _ _ h => h) (Or.inr ⟨by rfl, rfl⟩) hH ?r22
    try simp only [Act.put, List.setIfInBounds_toArray, List.set_cons_zero, List.set_cons_succ]
    refine wpAnyH_take (i := 23) (oi := { dst := Option.some 49, op := Go.Op.binOp Go.BinOp.geq 3 (Go.Operand.tmp 48) (Go.Operand.const (Go.Value.int Go.IntKind.i64 8)) 3, type := 4, pos := "replies.go:70", after := #[{ on := 22, ground := Go.Ground.data }, { on := 14, ground := Go.Ground.guard }], guard := Option.some (14, Bool.false) }) (v := undef) rfl (by kernel_rfl) (by kernel_rfl) (by kernel_rfl) (fun _ _ _ h => h) (Or.inr ⟨by rfl, rfl⟩) hH ?r23
    try simp only [Act.put, List.setIfInBounds_toArray, List.set_cons_zero, List.set_cons_succ]
    refine wpAnyH_take (i := 24) (oi := { dst := Option.some 50, op := Go.Op.pick (Go.Operand.tmp 40) (Go.Operand.const (Go.Value.bool Bool.true)) (Go.Operand.tmp 49), type := 4, pos := "replies.go:70", after := #[{ on := 14, ground := Go.Ground.data }, { on := 23, ground := Go.Ground.data }], guard := Option.none }) (v := ?v24) rfl (by kernel_rfl) (by kernel_rfl) (by kernel_rfl) (fun _ _ _ h => h) (Or.inl ⟨by rfl, ?hy24⟩) hH ?r24
    case hy24 => (intro W hSW; (obtain ⟨hS4, hSl⟩ := hSW); go_simp; try with_reducible rfl)
    try simp only [Act.put, List.setIfInBounds_toArray, List.set_cons_zero, List.set_cons_succ]
    refine wpAnyH_done (by kernel_rfl) ?_ _
    clear hH
    go_wp2_with fail
    go_ret2
    rw [HRE.out]
    exact ⟨HS3.out.rep, HS3.out.mod, .inl ⟨hst, rfl⟩⟩
  · have d4 : decide (s < R.low) = false := decide_eq_false hst
    refine wp_region_any (by kernel_rfl) ?_
    (try (change wpAny _ _ _ _ _ _ _ (World.drew _)))
    refine wpAny_take (i := 0) (v := ?vx0) rfl (by kernel_rfl) (by kernel_rfl) (by kernel_rfl) (fun _ _ _ h => h) (Or.inl ⟨by rfl, ?hyx0⟩) ?rx0
    case hyx0 => (intro W; go_simp; try with_reducible rfl)
    refine wpAny_ready (rs := [1]) (by kernel_rfl) (by simp) ?_
    refine AllReady.cons rfl (fun K hK => ?_) AllReady.nil
    go_simp
    refine hK _ _ ?_
    clear hK K
    refine wpAny_ready (rs := [2]) (by kernel_rfl) (by simp) ?_
    refine AllReady.cons rfl (fun K hK => ?_) AllReady.nil
    go_simp
    refine (HT.out _ HSq.out.rep).mono ?_
    rintro e w3 ⟨rfl, hr3, hm3⟩
    have HS3 := Lib.hid (HSq.out.turned hpl hr3 hm3)
    have hH : LookH w p R s w3 := ⟨HS3.out.seq, hr3.low⟩
    clear hr3 hm3
    dsimp only
    refine hK _ _ ?_
    clear hK K
    refine wpAny_of_held (S := LookH w p R s) _ _ _ _ ?_
    refine wpAnyH_take (i := 3) (oi := { dst := Option.some 29, op := Go.Op.unOp Go.UnOp.not 4 (Go.Operand.tmp 28), type := 4, pos := "replies.go:70", after := #[{ on := 2, ground := Go.Ground.data }], guard := Option.none }) (v := ?vx3) rfl (by kernel_rfl) (by kernel_rfl) (by kernel_rfl) (fun _ _ _ h => h) (Or.inl ⟨by rfl, ?hyx3⟩) hH ?rx3
    case hyx3 => (intro W hSW; (obtain ⟨hS4, hSl⟩ := hSW); go_simp; try with_reducible rfl)
    try simp only [Act.put, List.setIfInBounds_toArray, List.set_cons_zero, List.set_cons_succ]
    refine wpAnyH_take (i := 4) (oi := { dst := Option.some 30, op := Go.Op.move (Go.Operand.tmp 29), type := 4, pos := "replies.go:70", after := #[{ on := 3, ground := Go.Ground.data }, { on := 2, ground := Go.Ground.chain }], guard := Option.none }) (v := ?vx4) rfl (by kernel_rfl) (by kernel_rfl) (by kernel_rfl) (fun _ _ _ h => h) (Or.inl ⟨by rfl, ?hyx4⟩) hH ?rx4
    case hyx4 => (intro W hSW; (obtain ⟨hS4, hSl⟩ := hSW); go_simp; try with_reducible rfl)
    try simp only [Act.put, List.setIfInBounds_toArray, List.set_cons_zero, List.set_cons_succ]
    refine wpAnyH_take (i := 5) (oi := { dst := Option.some 31, op := Go.Op.fieldAddr 51 (Go.Operand.tmp 3) 4, type := 0, pos := "replies.go:70", after := #[{ on := 4, ground := Go.Ground.guard }], guard := Option.some (4, Bool.false) }) (v := ?vx5) rfl (by kernel_rfl) (by kernel_rfl) (by kernel_rfl) (fun _ _ _ h => h) (Or.inl ⟨by rfl, ?hyx5⟩) hH ?rx5
    case hyx5 => (intro W hSW; (obtain ⟨hS4, hSl⟩ := hSW); go_simp; try with_reducible rfl)
    try simp only [Act.put, List.setIfInBounds_toArray, List.set_cons_zero, List.set_cons_succ]
    refine wpAnyH_take (i := 6) (oi := { dst := Option.some 32, op := Go.Op.load 3 (Go.Operand.tmp 31), type := 3, pos := "replies.go:70", after := #[{ on := 5, ground := Go.Ground.data }, { on := 4, ground := Go.Ground.guard }], guard := Option.some (4, Bool.false) }) (v := ?vx6) rfl (by kernel_rfl) (by kernel_rfl) (by kernel_rfl) (fun _ _ _ h => h) (Or.inl ⟨by rfl, ?hyx6⟩) hH ?rx6
    case hyx6 => (intro W hSW; (obtain ⟨hS4, hSl⟩ := hSW); go_simp; try with_reducible rfl)
    try simp only [Act.put, List.setIfInBounds_toArray, List.set_cons_zero, List.set_cons_succ]
    refine wpAnyH_take (i := 7) (oi := { dst := Option.some 33, op := Go.Op.move (Go.Operand.tmp 6), type := 117, pos := "replies.go:70", after := #[{ on := 4, ground := Go.Ground.guard }], guard := Option.some (4, Bool.false) }) (v := ?vx7) rfl (by kernel_rfl) (by kernel_rfl) (by kernel_rfl) (fun _ _ _ h => h) (Or.inl ⟨by rfl, ?hyx7⟩) hH ?rx7
    case hyx7 => (intro W hSW; (obtain ⟨hS4, hSl⟩ := hSW); go_simp; try with_reducible rfl)
    try simp only [Act.put, List.setIfInBounds_toArray, List.set_cons_zero, List.set_cons_succ]
    refine wpAnyH_take (i := 8) (oi := { dst := Option.some 34, op := Go.Op.nilCheck (Go.Operand.tmp 33), type := 0, pos := "replies.go:70", after := #[{ on := 7, ground := Go.Ground.data }, { on := 4, ground := Go.Ground.guard }], guard := Option.some (4, Bool.false) }) (v := ?vx8) rfl (by kernel_rfl) (by kernel_rfl) (by kernel_rfl) (fun _ _ _ h => h) (Or.inl ⟨by rfl, ?hyx8⟩) hH ?rx8
    case hyx8 => (intro W hSW; (obtain ⟨hS4, hSl⟩ := hSW); go_simp; try with_reducible rfl)
    try simp only [Act.put, List.setIfInBounds_toArray, List.set_cons_zero, List.set_cons_succ]
    refine wpAnyH_take (i := 9) (oi := { dst := Option.some 35, op := Go.Op.fieldAddr 65 (Go.Operand.tmp 34) 0, type := 0, pos := "replies.go:70", after := #[{ on := 8, ground := Go.Ground.data }, { on := 4, ground := Go.Ground.guard }], guard := Option.some (4, Bool.false) }) (v := ?vx9) rfl (by kernel_rfl) (by kernel_rfl) (by kernel_rfl) (fun _ _ _ h => h) (Or.inl ⟨by rfl, ?hyx9⟩) hH ?rx9
    case hyx9 => (intro W hSW; (obtain ⟨hS4, hSl⟩ := hSW); go_simp; try with_reducible rfl)
    try simp only [Act.put, List.setIfInBounds_toArray, List.set_cons_zero, List.set_cons_succ]
    refine wpAnyH_take (i := 10) (oi := { dst := Option.some 36, op := Go.Op.fieldAddr 60 (Go.Operand.tmp 35) 1, type := 0, pos := "replies.go:70", after := #[{ on := 9, ground := Go.Ground.data }, { on := 4, ground := Go.Ground.guard }], guard := Option.some (4, Bool.false) }) (v := ?vx10) rfl (by kernel_rfl) (by kernel_rfl) (by kernel_rfl) (fun _ _ _ h => h) (Or.inl ⟨by rfl, ?hyx10⟩) hH ?rx10
    case hyx10 => (intro W hSW; (obtain ⟨hS4, hSl⟩ := hSW); go_simp; try with_reducible rfl)
    try simp only [Act.put, List.setIfInBounds_toArray, List.set_cons_zero, List.set_cons_succ]
    refine wpAnyH_take (i := 11) (oi := { dst := Option.some 37, op := Go.Op.load 3 (Go.Operand.tmp 36), type := 3, pos := "replies.go:70", after := #[{ on := 10, ground := Go.Ground.data }, { on := 4, ground := Go.Ground.guard }], guard := Option.some (4, Bool.false) }) (v := ?vx11) rfl (by kernel_rfl) (by kernel_rfl) (by kernel_rfl) (fun _ _ _ h => h) (Or.inl ⟨by rfl, ?hyx11⟩) hH ?rx11
    case hyx11 => (intro W hSW; (obtain ⟨hS4, hSl⟩ := hSW); go_simp; try with_reducible rfl)
    try simp only [Act.put, List.setIfInBounds_toArray, List.set_cons_zero, List.set_cons_succ]
    refine wpAnyH_take (i := 12) (oi := { dst := Option.some 38, op := Go.Op.binOp Go.BinOp.lss 3 (Go.Operand.tmp 32) (Go.Operand.tmp 37) 3, type := 4, pos := "replies.go:70", after := #[{ on := 6, ground := Go.Ground.data }, { on := 11, ground := Go.Ground.data }, { on := 4, ground := Go.Ground.guard }], guard := Option.some (4, Bool.false) }) (v := ?vx12) rfl (by kernel_rfl) (by kernel_rfl) (by kernel_rfl) (fun _ _ _ h => h) (Or.inl ⟨by rfl, ?hyx12⟩) hH ?rx12
    case hyx12 => (intro W hSW; (obtain ⟨hS4, hSl⟩ := hSW); go_simp; try with_reducible rfl)
    try simp only [Act.put, List.setIfInBounds_toArray, List.set_cons_zero, List.set_cons_succ]
    refine wpAnyH_take (i := 13) (oi := { dst := Option.some 39, op := Go.Op.pick (Go.Operand.tmp 30) (Go.Operand.const (Go.Value.bool Bool.true)) (Go.Operand.tmp 38), type := 4, pos := "replies.go:70", after := #[{ on := 4, ground := Go.Ground.data }, { on := 12, ground := Go.Ground.data }], guard := Option.none }) (v := ?vx13) rfl (by kernel_rfl) (by kernel_rfl) (by kernel_rfl) (fun _ _ _ h => h) (Or.inl ⟨by rfl, ?hyx13⟩) hH ?rx13
    case hyx13 => (intro W hSW; (obtain ⟨hS4, hSl⟩ := hSW); go_simp; try with_reducible rfl)
    try simp only [Act.put, List.setIfInBounds_toArray, List.set_cons_zero, List.set_cons_succ]
    refine wpAnyH_take (i := 14) (oi := { dst := Option.some 40, op := Go.Op.move (Go.Operand.tmp 39), type := 4, pos := "replies.go:70", after := #[{ on := 13, ground := Go.Ground.data }, { on := 4, ground := Go.Ground.chain }], guard := Option.none }) (v := ?vx14) rfl (by kernel_rfl) (by kernel_rfl) (by kernel_rfl) (fun _ _ _ h => h) (Or.inl ⟨by rfl, ?hyx14⟩) hH ?rx14
    case hyx14 => (intro W hSW; (obtain ⟨hS4, hSl⟩ := hSW); go_simp; try with_reducible rfl)
    try simp only [Act.put, List.setIfInBounds_toArray, List.set_cons_zero, List.set_cons_succ]
    refine wpAnyH_take (i := 15) (oi := { dst := Option.some 41, op := Go.Op.fieldAddr 51 (Go.Operand.tmp 3) 4, type := 0, pos := "replies.go:70", after := #[{ on := 14, ground := Go.Ground.guard }], guard := Option.some (14, Bool.false) }) (v := ?vx15) rfl (by kernel_rfl) (by kernel_rfl) (by kernel_rfl) (fun _ _ _ h => h) (Or.inl ⟨by rfl, ?hyx15⟩) hH ?rx15
    case hyx15 => (intro W hSW; (obtain ⟨hS4, hSl⟩ := hSW); go_simp; try with_reducible rfl)
    try simp only [Act.put, List.setIfInBounds_toArray, List.set_cons_zero, List.set_cons_succ]
    refine wpAnyH_take (i := 16) (oi := { dst := Option.some 42, op := Go.Op.load 3 (Go.Operand.tmp 41), type := 3, pos := "replies.go:70", after := #[{ on := 15, ground := Go.Ground.data }, { on := 14, ground := Go.Ground.guard }], guard := Option.some (14, Bool.false) }) (v := ?vx16) rfl (by kernel_rfl) (by kernel_rfl) (by kernel_rfl) (fun _ _ _ h => h) (Or.inl ⟨by rfl, ?hyx16⟩) hH ?rx16
    case hyx16 => (intro W hSW; (obtain ⟨hS4, hSl⟩ := hSW); go_simp; try with_reducible rfl)
    try simp only [Act.put, List.setIfInBounds_toArray, List.set_cons_zero, List.set_cons_succ]
    refine wpAnyH_take (i := 17) (oi := { dst := Option.some 43, op := Go.Op.move (Go.Operand.tmp 6), type := 117, pos := "replies.go:70", after := #[{ on := 14, ground := Go.Ground.guard }], guard := Option.some (14, Bool.false) }) (v := ?vx17) rfl (by kernel_rfl) (by kernel_rfl) (by kernel_rfl) (fun _ _ _ h => h) (Or.inl ⟨by rfl, ?hyx17⟩) hH ?rx17
    case hyx17 => (intro W hSW; (obtain ⟨hS4, hSl⟩ := hSW); go_simp; try with_reducible rfl)
    try simp only [Act.put, List.setIfInBounds_toArray, List.set_cons_zero, List.set_cons_succ]
    refine wpAnyH_take (i := 18) (oi := { dst := Option.some 44, op := Go.Op.nilCheck (Go.Operand.tmp 43), type := 0, pos := "replies.go:70", after := #[{ on := 17, ground := Go.Ground.data }, { on := 14, ground := Go.Ground.guard }], guard := Option.some (14, Bool.false) }) (v := ?vx18) rfl (by kernel_rfl) (by kernel_rfl) (by kernel_rfl) (fun _ _ _ h => h) (Or.inl ⟨by rfl, ?hyx18⟩) hH ?rx18
    case hyx18 => (intro W hSW; (obtain ⟨hS4, hSl⟩ := hSW); go_simp; try with_reducible rfl)
    try simp only [Act.put, List.setIfInBounds_toArray, List.set_cons_zero, List.set_cons_succ]
    refine wpAnyH_take (i := 19) (oi := { dst := Option.some 45, op := Go.Op.fieldAddr 65 (Go.Operand.tmp 44) 0, type := 0, pos := "replies.go:70", after := #[{ on := 18, ground := Go.Ground.data }, { on := 14, ground := Go.Ground.guard }], guard := Option.some (14, Bool.false) }) (v := ?vx19) rfl (by kernel_rfl) (by kernel_rfl) (by kernel_rfl) (fun _ _ _ h => h) (Or.inl ⟨by rfl, ?hyx19⟩) hH ?rx19
    case hyx19 => (intro W hSW; (obtain ⟨hS4, hSl⟩ := hSW); go_simp; try with_reducible rfl)
    try simp only [Act.put, List.setIfInBounds_toArray, List.set_cons_zero, List.set_cons_succ]
    refine wpAnyH_take (i := 20) (oi := { dst := Option.some 46, op := Go.Op.fieldAddr 60 (Go.Operand.tmp 45) 1, type := 0, pos := "replies.go:70", after := #[{ on := 19, ground := Go.Ground.data }, { on := 14, ground := Go.Ground.guard }], guard := Option.some (14, Bool.false) }) (v := ?vx20) rfl (by kernel_rfl) (by kernel_rfl) (by kernel_rfl) (fun _ _ _ h => h) (Or.inl ⟨by rfl, ?hyx20⟩) hH ?rx20
    case hyx20 => (intro W hSW; (obtain ⟨hS4, hSl⟩ := hSW); go_simp; try with_reducible rfl)
    try simp only [Act.put, List.setIfInBounds_toArray, List.set_cons_zero, List.set_cons_succ]
    refine wpAnyH_take (i := 21) (oi := { dst := Option.some 47, op := Go.Op.load 3 (Go.Operand.tmp 46), type := 3, pos := "replies.go:70", after := #[{ on := 20, ground := Go.Ground.data }, { on := 14, ground := Go.Ground.guard }], guard := Option.some (14, Bool.false) }) (v := ?vx21) rfl (by kernel_rfl) (by kernel_rfl) (by kernel_rfl) (fun _ _ _ h => h) (Or.inl ⟨by rfl, ?hyx21⟩) hH ?rx21
    case hyx21 => (intro W hSW; (obtain ⟨hS4, hSl⟩ := hSW); go_simp; try with_reducible rfl)
    try simp only [Act.put, List.setIfInBounds_toArray, List.set_cons_zero, List.set_cons_succ]
    refine wpAnyH_take (i := 22) (oi := { dst := Option.some 48, op := Go.Op.binOp Go.BinOp.sub 3 (Go.Operand.tmp 42) (Go.Operand.tmp 47) 3, type := 3, pos := "replies.go:70", after := #[{ on := 16, ground := Go.Ground.data }, { on := 21, ground := Go.Ground.data }, { on := 14, ground := Go.Ground.guard }], guard := Option.some (14, Bool.false) }) (v := ?vx22) rfl (by kernel_rfl) (by kernel_rfl) (by kernel_rfl) (fun _ _ _ h => h) (Or.inl ⟨by rfl, ?hyx22⟩) hH ?rx22
    case hyx22 => (intro W hSW; (obtain ⟨hS4, hSl⟩ := hSW); go_simp; try with_reducible rfl)
    try simp only [Act.put, List.setIfInBounds_toArray, List.set_cons_zero, List.set_cons_succ]
    refine wpAnyH_take (i := 23) (oi := { dst := Option.some 49, op := Go.Op.binOp Go.BinOp.geq 3 (Go.Operand.tmp 48) (Go.Operand.const (Go.Value.int Go.IntKind.i64 8)) 3, type := 4, pos := "replies.go:70", after := #[{ on := 22, ground := Go.Ground.data }, { on := 14, ground := Go.Ground.guard }], guard := Option.some (14, Bool.false) }) (v := ?vx23) rfl (by kernel_rfl) (by kernel_rfl) (by kernel_rfl) (fun _ _ _ h => h) (Or.inl ⟨by rfl, ?hyx23⟩) hH ?rx23
    case hyx23 => (intro W hSW; (obtain ⟨hS4, hSl⟩ := hSW); go_simp; try with_reducible rfl)
    try simp only [Act.put, List.setIfInBounds_toArray, List.set_cons_zero, List.set_cons_succ]
    refine wpAnyH_take (i := 24) (oi := { dst := Option.some 50, op := Go.Op.pick (Go.Operand.tmp 40) (Go.Operand.const (Go.Value.bool Bool.true)) (Go.Operand.tmp 49), type := 4, pos := "replies.go:70", after := #[{ on := 14, ground := Go.Ground.data }, { on := 23, ground := Go.Ground.data }], guard := Option.none }) (v := ?vx24) rfl (by kernel_rfl) (by kernel_rfl) (by kernel_rfl) (fun _ _ _ h => h) (Or.inl ⟨by rfl, ?hyx24⟩) hH ?rx24
    case hyx24 => (intro W hSW; (obtain ⟨hS4, hSl⟩ := hSW); go_simp; try with_reducible rfl)
    try simp only [Act.put, List.setIfInBounds_toArray, List.set_cons_zero, List.set_cons_succ]
    refine wpAnyH_done (by kernel_rfl) ?_ _
    obtain ⟨g4, gl⟩ := hH
    go_wp2_with fail
    go_quiet (fail)
    go_wp2_with fail
    have hm8 : s % 8 < 8 := Nat.mod_lt _ (by omega)
    have cs : w3.cell? ⟨p, 140 + s % 8 * 17, none⟩ = some (.int .i64 ((R.slots (s % 8)).s : Int)) := by
      have := HS3.out.rep.slot hm8 (i := 0) (by omega)
      rw [Nat.add_zero] at this
      rw [this]
      rfl
    by_cases hq : (R.slots (s % 8)).s = s
    · have HQ := Lib.hid hq
      rw [hq] at cs
      clear hq
      go_quiet (fail)
      go_wp2_with fail
      go_ret2
      rw [HRE.out]
      exact ⟨HS3.out.rep.keep rfl, (HS3.out.mod.drewN _).drewN _, .inr (.inl ⟨by omega, HQ.out, rfl⟩)⟩
    · have dq : ((R.slots (s % 8)).s == s) = false := by rw [beq_eq_false_iff_ne]; exact hq
      have dq2 : (((R.slots (s % 8)).s : Int) == (s : Int)) = false := by rw [beq_eq_false_iff_ne]; omega
      have HQ := Lib.hid hq
      clear hq
      go_quiet (fail)
      go_wp2_with fail
      go_ret2
      rw [HRE.out]
      exact ⟨HS3.out.rep.keep rfl, (HS3.out.mod.drewN _).drewN _, .inr (.inr ⟨by omega, HQ.out, rfl⟩)⟩
end Go.Proofs.YtaelbgjcoakdlaaGreat
