/- opens: its region of three appends. -/
import Derived.Test.YtaelbgjcoakdlaaGreatOpr
import Derived.Test.YtaelbgjcoakdlaaGreatArr
namespace Go.Proofs.YtaelbgjcoakdlaaGreat
open Go.RowKit Go.Maps

def preds (ops : Array Oper) (i j : Nat) : Bool := match ops[i]? with | some o => o.after.any (fun e => Region.binds .any e && e.on == j) | none => false
theorem preds_spec {ops : Array Oper} {i j : Nat} {o : Oper} {L : Nat → Bool} (h : preds ops i j = true) (ho : ops[i]? = some o) (hp : ∀ e ∈ o.after, Region.binds .any e = true → L e.on = true) : L j = true := by
  unfold preds at h
  rw [ho] at h
  obtain ⟨e, he, hb⟩ := Array.any_eq_true'.1 h
  simp only [Bool.and_eq_true, beq_iff_eq] at hb
  exact hb.2 ▸ hp e he hb.1
def opsTab : List (Option Tmp × Op × Option (Nat × Bool)) := [(some 36, Go.Op.move (Go.Operand.tmp 0), none),
  (some 37, Go.Op.move (Go.Operand.tmp 0), none),
  (some 38, Go.Op.move (Go.Operand.tmp 0), none),
  (some 39, Go.Op.move (Go.Operand.tmp 0), none),
  (some 40, Go.Op.nilCheck (Go.Operand.tmp 39), none),
  (some 41, Go.Op.fieldAddr 34 (Go.Operand.tmp 40) 3, none),
  (some 42, Go.Op.load 32 (Go.Operand.tmp 41), none),
  (some 43, Go.Op.buildSlice 32 1 #[(0, Go.Operand.const (Go.Value.int Go.IntKind.i64 0))], none),
  (some 44, Go.Op.call { callee := Go.Callee.builtin Go.Builtin.append, args := #[Go.Operand.tmp 42, Go.Operand.tmp 43], argTypes := #[32, 32] }, none),
  (some 45, Go.Op.move (Go.Operand.tmp 0), none),
  (some 46, Go.Op.nilCheck (Go.Operand.tmp 45), none),
  (some 47, Go.Op.fieldAddr 34 (Go.Operand.tmp 46) 4, none),
  (some 48, Go.Op.load 32 (Go.Operand.tmp 47), none),
  (some 49, Go.Op.buildSlice 32 1 #[(0, Go.Operand.const (Go.Value.int Go.IntKind.i64 0))], none),
  (some 50, Go.Op.call { callee := Go.Callee.builtin Go.Builtin.append, args := #[Go.Operand.tmp 48, Go.Operand.tmp 49], argTypes := #[32, 32] }, none),
  (some 51, Go.Op.move (Go.Operand.tmp 0), none),
  (some 52, Go.Op.nilCheck (Go.Operand.tmp 51), none),
  (some 53, Go.Op.fieldAddr 34 (Go.Operand.tmp 52) 5, none),
  (some 54, Go.Op.load 32 (Go.Operand.tmp 53), none),
  (some 55, Go.Op.buildSlice 32 1 #[(0, Go.Operand.const (Go.Value.int Go.IntKind.i64 0))], none),
  (some 56, Go.Op.call { callee := Go.Callee.builtin Go.Builtin.append, args := #[Go.Operand.tmp 54, Go.Operand.tmp 55], argTypes := #[32, 32] }, none),
  (some 57, Go.Op.nilCheck (Go.Operand.tmp 36), none),
  (some 58, Go.Op.fieldAddr 34 (Go.Operand.tmp 57) 3, none),
  (none, Go.Op.store 32 (Go.Operand.tmp 58) (Go.Operand.tmp 44), none),
  (some 59, Go.Op.nilCheck (Go.Operand.tmp 37), none),
  (some 60, Go.Op.fieldAddr 34 (Go.Operand.tmp 59) 4, none),
  (none, Go.Op.store 32 (Go.Operand.tmp 60) (Go.Operand.tmp 50), none),
  (some 61, Go.Op.nilCheck (Go.Operand.tmp 38), none),
  (some 62, Go.Op.fieldAddr 34 (Go.Operand.tmp 61) 5, none),
  (none, Go.Op.store 32 (Go.Operand.tmp 62) (Go.Operand.tmp 56), none)]
def predTab : List (Nat × Nat) := [(4, 3), (5, 4), (6, 5), (8, 6), (8, 7), (10, 9), (11, 10), (12, 11), (14, 8), (14, 12), (14, 13), (16, 15), (17, 16), (18, 17), (20, 14), (20, 18), (20, 19), (21, 0), (22, 21), (23, 6), (23, 8), (23, 12), (23, 18), (23, 20), (23, 22), (24, 1), (25, 24), (26, 14), (26, 23), (26, 25), (27, 2), (28, 27), (29, 20), (29, 23), (29, 28)]
theorem row_of {ops : Array Oper} (htab : ops.toList.map (fun o => (o.dst, o.op, o.guard)) = opsTab) {i : Nat} {o : Oper} (ho : ops[i]? = some o) {d : Option Tmp} {op : Op} (hr : opsTab[i]? = some (d, op, none)) : o.dst = d ∧ o.op = op ∧ o.guard = none := by
  have h : (ops.toList.map (fun o => (o.dst, o.op, o.guard)))[i]? = some (o.dst, o.op, o.guard) := by rw [List.getElem?_map, Array.getElem?_toList, ho]; rfl
  rw [htab, hr] at h
  injection h with h
  injection h with h1 h2
  injection h2 with h2 h3
  exact ⟨h1.symm, h2.symm, h3.symm⟩
theorem Oper.wp_skip {P : Program} {Q : Exit → Act → World → Prop} {o : Oper} {K : Act → World → Prop} {a : Act} {w w' : World} (hr : (execOp a.eval o).run P w = .ok .skip w') (h : K (a.put o.dst undef) w') : o.wp P a w K Q := by
  unfold Oper.wp
  rw [hr]
  exact h
theorem AkAt.start {own : Nat → Nat} {base q : Nat} {h : Hd} {a : Ak} {w : World} (H : AkAt own base w q h a) (e : Nat → Value) (V : Nat → Value) : OIx base q h a w (fun _ => false) e w own V := by
  refine ⟨fun d v _ hl => (by cases hl), fun k _ hl => (by cases hl), H.head, H.hq, H.calls, H.rep, H.hr, H.bag, fun k hk => ?_, H.back, fun k _ hl => (by cases hl), fun hl => (by cases hl), fun hl => (by cases hl), fun hl => (by cases hl), fun hl => (by cases hl), fun hl => (by cases hl), H.ext, Below.refl _ _⟩
  obtain rfl | rfl | rfl : k = 0 ∨ k = 1 ∨ k = 2 := by omega
  · exact H.done
  · exact H.told
  · exact H.seen
/-- The appends: what is told of the row's run. -/
theorem push_wp {base q : Nat} {h : Hd} {a : Ak} {w0 : World} {L : Nat → Bool} {e : Nat → Value} {w : World} {own : Nat → Nat} {V : Nat → Value} {A : Act} {o : Oper} {Q : Exit → Act → World → Prop} {K : Act → World → Prop} (H : OIx base q h a w0 L e w own V) (hB : base ≤ w0.heap.size) {k : Nat} (hk : k < 3)
    (hlen : (a.row k).length ≤ 1000) (hg : o.guard = none) (ho : o.op = .call { callee := .builtin .append, args := #[.tmp (42 + 6 * k), .tmp (43 + 6 * k)], argTypes := #[32, 32] })
    (hs : A.eval (.tmp (42 + 6 * k)) = h.row k) (hx : A.eval (.tmp (43 + 6 * k)) = e (43 + 6 * k)) (h7 : L (7 + 6 * k) = true) (h8 : L (8 + 6 * k) = false) (hpre : k = 2 → L 8 = true ∧ L 14 = true) (hpre1 : k = 1 → L 8 = true)
    (hK : ∀ v w', OIx base q h a w0 (got L (8 + 6 * k)) (upd e (44 + 6 * k) v) w' (paint own w w' (4 + k)) (fun j => if j = k then v else V j) → K (A.put o.dst v) w') : o.wp Tryz.prog A w K Q := by
  obtain ⟨g, e1, e2, e3⟩ := H.one k hk h7 h8
  have hr := H.rows k hk
  rw [h8] at hr
  have hsz : base ≤ w.heap.size := Nat.le_trans hB H.low.size
  have hiv : Bg8.IntsV (fun b => b = g) w (.slice (some ⟨g, 0, none⟩) 1 1) [0] := Bg8.IntsV.of_block (l := [0]) e2 (fun j x hx => by
    cases j with
    | zero => simpa using hx
    | succ j => simp at hx) (by simp) (by decide)
  cases hi : Tryz.prog.info? 3 with
  | none =>
    have := Bg8.Tryz.info3
    rw [hi] at this
    cases this
  | some i0 =>
    have hz := Bg8.Tryz.info3
    rw [hi] at hz
    have hz' : (i0.zero, i0.size, i0.bytes) = (some (.int .i64 0), 1, 8) := by simpa using hz
    injection hz' with hz0 hz1
    injection hz1 with hz1 hz2
    have st := Bg8.step_append_ints (P := Tryz.prog) (ops := #[]) (E := False) (Q := Q) (K := K) (w := w) (a := A) hg (.tmp (42 + 6 * k)) (.tmp (43 + 6 * k)) 32 ho base 3 i0 Tryz.underlying32 hi hz0 hz1 hz2 (h.row k) (a.row k).length ((a.row k).map I8) hs hr.1 _ _ [0] (hx.trans e1) hiv (by simp; omega) hsz
      (fun v' w' a1 a2 a3 => hK v' w' (H.push hB hk h8 hpre hpre1 (by rw [List.map_append]; exact a1) a2 a3))
    rwa [if_pos (by simp [Region.wanted, hg])] at st
theorem store_wp {base q : Nat} {h : Hd} {a : Ak} {w0 : World} {L : Nat → Bool} {e : Nat → Value} {w : World} {own : Nat → Nat} {V : Nat → Value} {A : Act} {o : Oper} {Q : Exit → Act → World → Prop} {K : Act → World → Prop} (H : OIx base q h a w0 L e w own V) {k : Nat} (hk : k < 3) {t : Nat}
    (ho : o.op = .store 32 (.tmp t) (.tmp (44 + 6 * k))) (hs : A.eval (.tmp t) = qp q (3 + k)) (hx : A.eval (.tmp (44 + 6 * k)) = e (44 + 6 * k)) (h8 : L (8 + 6 * k) = true)
    (h0 : k = 0 → L 20 = true ∧ L 6 = true ∧ L 12 = true ∧ L 18 = true) (h1 : k ≠ 0 → L 23 = true)
    (hK : OIx base q h a w0 (got L (23 + 3 * k)) e (w.setCell ⟨q, 3 + k, none⟩ (V k)) own V → K (A.put o.dst undef) (w.setCell ⟨q, 3 + k, none⟩ (V k))) : o.wp Tryz.prog A w K Q := by
  have hr := H.rows k hk
  rw [h8] at hr
  obtain ⟨x, c, hv⟩ := hr.slice
  have hv' : V k = .slice x (a.row k ++ [0]).length c := hv
  have hc : ∃ v, w.cell? ⟨q, 3 + k, none⟩ = some v := by
    obtain rfl | rfl | rfl : k = 0 ∨ k = 1 ∨ k = 2 := by omega
    · exact ⟨_, blk_cell H.head 3⟩
    · exact ⟨_, blk_cell H.head 4⟩
    · exact ⟨_, blk_cell H.head 5⟩
  obtain ⟨v, hc⟩ := hc
  have hrun := run_st (ρ := A.eval) ho hs w (hx.trans ((H.tx k hk h8).trans hv')) hc (blk_free H.head _)
  rw [← hv'] at hrun
  exact Oper.wp_skip hrun (hK (H.store hk h0 h1))
def OI (F : (Nat → Value) → Act) (base q : Nat) (h : Hd) (a : Ak) (w0 : World) (L : Nat → Bool) (A : Act) (w : World) : Prop := ∃ e own V, A = F e ∧ OIx base q h a w0 L e w own V
theorem opens_step {base q : Nat} {h : Hd} {a : Ak} {w0 : World} {ops : Array Oper} (htab : ops.toList.map (fun o => (o.dst, o.op, o.guard)) = opsTab) (hpt : predTab.all (fun p => preds ops p.1 p.2) = true)
    (F : (Nat → Value) → Act) (hput : ∀ e d v, 36 ≤ d → d ≤ 62 → (F e).put (some d) v = F (upd e d v)) (hget : ∀ e d, 36 ≤ d → d ≤ 62 → (F e).eval (.tmp d) = e d) (h0 : ∀ e, (F e).eval (.tmp 0) = qp q 0) {Q : Exit → Act → World → Prop} (hB : base ≤ w0.heap.size)
    (hlen : ∀ k, (a.row k).length ≤ 1000) (L : Nat → Bool) (i : Nat) (o : Oper) (A : Act) (w : World) (ho : ops[i]? = some o) (hL : L i = false) (hpre : ∀ e ∈ o.after, Region.binds .any e = true → L e.on = true) (HI : OI F base q h a w0 L A w) :
    wpOp Tryz.prog ops Q i (OI F base q h a w0 (got L i)) A w := by
  obtain ⟨e, own, V, rfl, H⟩ := HI
  have hi : i < 30 := by
    have h1 : (ops.toList.map (fun o => (o.dst, o.op, o.guard))).length = 30 := by rw [htab]; rfl
    have := (Array.getElem?_eq_some_iff.1 ho).1
    simp at h1
    omega
  have hp : ∀ j, (i, j) ∈ predTab → L j = true := fun j hj => preds_spec (List.all_eq_true.1 hpt _ hj) ho hpre
  have kq : ∀ {d v}, kst q h d = some v → L (opOf d) = true → (F e).eval (.tmp d) = v := fun {d v} hk hl => (hget e d (kst_range hk).1 (kst_range hk).2).trans (H.tm d v hk hl)
  have rd : ∀ {d v}, o.guard = none → o.dst = some d → opOf d = i → kst q h d = some v → (execOp (F e).eval o).run Tryz.prog w = .ok (.value v) w → wpOp Tryz.prog ops Q i (OI F base q h a w0 (got L i)) (F e) w := by
    intro d v hg hd hop hk hr
    have hrg := kst_range hk
    refine wpOp_bare ho hg (Oper.wp_value hr ?_)
    rw [hd, hput e d v hrg.1 hrg.2]
    exact ⟨_, own, V, rfl, H.read hrg hop hk⟩
  obtain rfl | rfl | rfl | rfl | rfl | rfl | rfl | rfl | rfl | rfl | rfl | rfl | rfl | rfl | rfl | rfl | rfl | rfl | rfl | rfl | rfl | rfl | rfl | rfl | rfl | rfl | rfl | rfl | rfl | rfl : i = 0 ∨ i = 1 ∨ i = 2 ∨ i = 3 ∨ i = 4 ∨ i = 5 ∨ i = 6 ∨ i = 7 ∨ i = 8 ∨ i = 9 ∨ i = 10 ∨ i = 11 ∨ i = 12 ∨ i = 13 ∨ i = 14 ∨ i = 15 ∨ i = 16 ∨ i = 17 ∨ i = 18 ∨ i = 19 ∨ i = 20 ∨ i = 21 ∨ i = 22 ∨ i = 23 ∨ i = 24 ∨ i = 25 ∨ i = 26 ∨ i = 27 ∨ i = 28 ∨ i = 29 := by omega
  · obtain ⟨hd, hop, hg⟩ := row_of htab ho (d := some 36) (op := Go.Op.move (Go.Operand.tmp 0)) rfl
    exact rd hg hd rfl (v := qp q 0) rfl ((BigFrame.run_move _ hop w).trans (by rw [h0]))
  · obtain ⟨hd, hop, hg⟩ := row_of htab ho (d := some 37) (op := Go.Op.move (Go.Operand.tmp 0)) rfl
    exact rd hg hd rfl (v := qp q 0) rfl ((BigFrame.run_move _ hop w).trans (by rw [h0]))
  · obtain ⟨hd, hop, hg⟩ := row_of htab ho (d := some 38) (op := Go.Op.move (Go.Operand.tmp 0)) rfl
    exact rd hg hd rfl (v := qp q 0) rfl ((BigFrame.run_move _ hop w).trans (by rw [h0]))
  · obtain ⟨hd, hop, hg⟩ := row_of htab ho (d := some 39) (op := Go.Op.move (Go.Operand.tmp 0)) rfl
    exact rd hg hd rfl (v := qp q 0) rfl ((BigFrame.run_move _ hop w).trans (by rw [h0]))
  · obtain ⟨hd, hop, hg⟩ := row_of htab ho (d := some 40) (op := Go.Op.nilCheck (Go.Operand.tmp 39)) rfl
    exact rd hg hd rfl (v := qp q 0) rfl (run_nil hop (kq (v := qp q 0) rfl (hp 3 (by decide))) w)
  · obtain ⟨hd, hop, hg⟩ := row_of htab ho (d := some 41) (op := Go.Op.fieldAddr 34 (Go.Operand.tmp 40) 3) rfl
    exact rd hg hd rfl (v := qp q 3) rfl (run_fa (by decide) hop (kq (v := qp q 0) rfl (hp 4 (by decide))) w)
  · obtain ⟨hd, hop, hg⟩ := row_of htab ho (d := some 42) (op := Go.Op.load 32 (Go.Operand.tmp 41)) rfl
    have hc : w.cell? ⟨q, 3, none⟩ = some h.vd := by
      have hf : L 23 = false := by
        cases eL : L 23 with
        | false => rfl
        | true => exact absurd (((H.o23 eL).2.1)) (by rw [hL]; decide)
      have := blk_cell H.head 3
      rw [hf] at this
      exact this
    exact rd hg hd rfl (v := h.vd) rfl (run_ld hop (kq (v := qp q 3) rfl (hp 5 (by decide))) w hc)
  · obtain ⟨hd, hop, hg⟩ := row_of htab ho (d := some 43) (op := Go.Op.buildSlice 32 1 #[(0, Go.Operand.const (Go.Value.int Go.IntKind.i64 0))]) rfl
    refine wpOp_bare ho hg (Oper.wp_value (run_bs hop rfl w) ?_)
    rw [hd, hput e 43 _ (by decide) (by decide)]
    exact ⟨_, own, V, rfl, H.build hB (k := 0) (by decide)⟩
  · obtain ⟨hd, hop, hg⟩ := row_of htab ho (d := some 44) (op := Go.Op.call { callee := Go.Callee.builtin Go.Builtin.append, args := #[Go.Operand.tmp 42, Go.Operand.tmp 43], argTypes := #[32, 32] }) rfl
    refine wpOp_bare ho hg (push_wp H hB (k := 0) (by decide) (hlen 0) hg hop (kq (v := h.vd) rfl (hp 6 (by decide))) (hget e 43 (by decide) (by decide)) (hp 7 (by decide)) hL (fun e => absurd e (by decide)) (fun e => absurd e (by decide)) (fun v w' hx => ?hk))
    case hk =>
      rw [hd, hput e 44 v (by decide) (by decide)]
      exact ⟨_, _, _, rfl, hx⟩
  · obtain ⟨hd, hop, hg⟩ := row_of htab ho (d := some 45) (op := Go.Op.move (Go.Operand.tmp 0)) rfl
    exact rd hg hd rfl (v := qp q 0) rfl ((BigFrame.run_move _ hop w).trans (by rw [h0]))
  · obtain ⟨hd, hop, hg⟩ := row_of htab ho (d := some 46) (op := Go.Op.nilCheck (Go.Operand.tmp 45)) rfl
    exact rd hg hd rfl (v := qp q 0) rfl (run_nil hop (kq (v := qp q 0) rfl (hp 9 (by decide))) w)
  · obtain ⟨hd, hop, hg⟩ := row_of htab ho (d := some 47) (op := Go.Op.fieldAddr 34 (Go.Operand.tmp 46) 4) rfl
    exact rd hg hd rfl (v := qp q 4) rfl (run_fa (by decide) hop (kq (v := qp q 0) rfl (hp 10 (by decide))) w)
  · obtain ⟨hd, hop, hg⟩ := row_of htab ho (d := some 48) (op := Go.Op.load 32 (Go.Operand.tmp 47)) rfl
    have hc : w.cell? ⟨q, 4, none⟩ = some h.vt := by
      have hf : L 26 = false := by
        cases eL : L 26 with
        | false => rfl
        | true => exact absurd (((H.o23 (H.o26 eL)).2.2.1)) (by rw [hL]; decide)
      have := blk_cell H.head 4
      rw [hf] at this
      exact this
    exact rd hg hd rfl (v := h.vt) rfl (run_ld hop (kq (v := qp q 4) rfl (hp 11 (by decide))) w hc)
  · obtain ⟨hd, hop, hg⟩ := row_of htab ho (d := some 49) (op := Go.Op.buildSlice 32 1 #[(0, Go.Operand.const (Go.Value.int Go.IntKind.i64 0))]) rfl
    refine wpOp_bare ho hg (Oper.wp_value (run_bs hop rfl w) ?_)
    rw [hd, hput e 49 _ (by decide) (by decide)]
    exact ⟨_, own, V, rfl, H.build hB (k := 1) (by decide)⟩
  · obtain ⟨hd, hop, hg⟩ := row_of htab ho (d := some 50) (op := Go.Op.call { callee := Go.Callee.builtin Go.Builtin.append, args := #[Go.Operand.tmp 48, Go.Operand.tmp 49], argTypes := #[32, 32] }) rfl
    refine wpOp_bare ho hg (push_wp H hB (k := 1) (by decide) (hlen 1) hg hop (kq (v := h.vt) rfl (hp 12 (by decide))) (hget e 49 (by decide) (by decide)) (hp 13 (by decide)) hL (fun e => absurd e (by decide)) (fun _ => hp 8 (by decide)) (fun v w' hx => ?hk))
    case hk =>
      rw [hd, hput e 50 v (by decide) (by decide)]
      exact ⟨_, _, _, rfl, hx⟩
  · obtain ⟨hd, hop, hg⟩ := row_of htab ho (d := some 51) (op := Go.Op.move (Go.Operand.tmp 0)) rfl
    exact rd hg hd rfl (v := qp q 0) rfl ((BigFrame.run_move _ hop w).trans (by rw [h0]))
  · obtain ⟨hd, hop, hg⟩ := row_of htab ho (d := some 52) (op := Go.Op.nilCheck (Go.Operand.tmp 51)) rfl
    exact rd hg hd rfl (v := qp q 0) rfl (run_nil hop (kq (v := qp q 0) rfl (hp 15 (by decide))) w)
  · obtain ⟨hd, hop, hg⟩ := row_of htab ho (d := some 53) (op := Go.Op.fieldAddr 34 (Go.Operand.tmp 52) 5) rfl
    exact rd hg hd rfl (v := qp q 5) rfl (run_fa (by decide) hop (kq (v := qp q 0) rfl (hp 16 (by decide))) w)
  · obtain ⟨hd, hop, hg⟩ := row_of htab ho (d := some 54) (op := Go.Op.load 32 (Go.Operand.tmp 53)) rfl
    have hc : w.cell? ⟨q, 5, none⟩ = some h.vs := by
      have hf : L 29 = false := by
        cases eL : L 29 with
        | false => rfl
        | true => exact absurd (((H.o23 (H.o29 eL)).2.2.2)) (by rw [hL]; decide)
      have := blk_cell H.head 5
      rw [hf] at this
      exact this
    exact rd hg hd rfl (v := h.vs) rfl (run_ld hop (kq (v := qp q 5) rfl (hp 17 (by decide))) w hc)
  · obtain ⟨hd, hop, hg⟩ := row_of htab ho (d := some 55) (op := Go.Op.buildSlice 32 1 #[(0, Go.Operand.const (Go.Value.int Go.IntKind.i64 0))]) rfl
    refine wpOp_bare ho hg (Oper.wp_value (run_bs hop rfl w) ?_)
    rw [hd, hput e 55 _ (by decide) (by decide)]
    exact ⟨_, own, V, rfl, H.build hB (k := 2) (by decide)⟩
  · obtain ⟨hd, hop, hg⟩ := row_of htab ho (d := some 56) (op := Go.Op.call { callee := Go.Callee.builtin Go.Builtin.append, args := #[Go.Operand.tmp 54, Go.Operand.tmp 55], argTypes := #[32, 32] }) rfl
    refine wpOp_bare ho hg (push_wp H hB (k := 2) (by decide) (hlen 2) hg hop (kq (v := h.vs) rfl (hp 18 (by decide))) (hget e 55 (by decide) (by decide)) (hp 19 (by decide)) hL (fun _ => ⟨?h8, hp 14 (by decide)⟩) (fun e => absurd e (by decide)) (fun v w' hx => ?hk))
    case hk =>
      rw [hd, hput e 56 v (by decide) (by decide)]
      exact ⟨_, _, _, rfl, hx⟩
    case h8 => exact H.o14 (hp 14 (by decide))
  · obtain ⟨hd, hop, hg⟩ := row_of htab ho (d := some 57) (op := Go.Op.nilCheck (Go.Operand.tmp 36)) rfl
    exact rd hg hd rfl (v := qp q 0) rfl (run_nil hop (kq (v := qp q 0) rfl (hp 0 (by decide))) w)
  · obtain ⟨hd, hop, hg⟩ := row_of htab ho (d := some 58) (op := Go.Op.fieldAddr 34 (Go.Operand.tmp 57) 3) rfl
    exact rd hg hd rfl (v := qp q 3) rfl (run_fa (by decide) hop (kq (v := qp q 0) rfl (hp 21 (by decide))) w)
  · obtain ⟨hd, hop, hg⟩ := row_of htab ho (d := none) (op := Go.Op.store 32 (Go.Operand.tmp 58) (Go.Operand.tmp 44)) rfl
    refine wpOp_bare ho hg (store_wp H (k := 0) (by decide) hop (kq (v := qp q 3) rfl (hp 22 (by decide))) (hget e 44 (by decide) (by decide)) (hp 8 (by decide)) (fun _ => ⟨(hp 20 (by decide)), (hp 6 (by decide)), (hp 12 (by decide)), (hp 18 (by decide))⟩) (fun e => absurd rfl e) (fun hx => ?_))
    rw [hd]
    exact ⟨e, own, V, rfl, hx⟩
  · obtain ⟨hd, hop, hg⟩ := row_of htab ho (d := some 59) (op := Go.Op.nilCheck (Go.Operand.tmp 37)) rfl
    exact rd hg hd rfl (v := qp q 0) rfl (run_nil hop (kq (v := qp q 0) rfl (hp 1 (by decide))) w)
  · obtain ⟨hd, hop, hg⟩ := row_of htab ho (d := some 60) (op := Go.Op.fieldAddr 34 (Go.Operand.tmp 59) 4) rfl
    exact rd hg hd rfl (v := qp q 4) rfl (run_fa (by decide) hop (kq (v := qp q 0) rfl (hp 24 (by decide))) w)
  · obtain ⟨hd, hop, hg⟩ := row_of htab ho (d := none) (op := Go.Op.store 32 (Go.Operand.tmp 60) (Go.Operand.tmp 50)) rfl
    refine wpOp_bare ho hg (store_wp H (k := 1) (by decide) hop (kq (v := qp q 4) rfl (hp 25 (by decide))) (hget e 50 (by decide) (by decide)) (hp 14 (by decide)) (fun e => absurd e (by decide)) (fun _ => (hp 23 (by decide))) (fun hx => ?_))
    rw [hd]
    exact ⟨e, own, V, rfl, hx⟩
  · obtain ⟨hd, hop, hg⟩ := row_of htab ho (d := some 61) (op := Go.Op.nilCheck (Go.Operand.tmp 38)) rfl
    exact rd hg hd rfl (v := qp q 0) rfl (run_nil hop (kq (v := qp q 0) rfl (hp 2 (by decide))) w)
  · obtain ⟨hd, hop, hg⟩ := row_of htab ho (d := some 62) (op := Go.Op.fieldAddr 34 (Go.Operand.tmp 61) 5) rfl
    exact rd hg hd rfl (v := qp q 5) rfl (run_fa (by decide) hop (kq (v := qp q 0) rfl (hp 27 (by decide))) w)
  · obtain ⟨hd, hop, hg⟩ := row_of htab ho (d := none) (op := Go.Op.store 32 (Go.Operand.tmp 62) (Go.Operand.tmp 56)) rfl
    refine wpOp_bare ho hg (store_wp H (k := 2) (by decide) hop (kq (v := qp q 5) rfl (hp 28 (by decide))) (hget e 56 (by decide) (by decide)) (hp 20 (by decide)) (fun e => absurd e (by decide)) (fun _ => (hp 23 (by decide))) (fun hx => ?_))
    rw [hd]
    exact ⟨e, own, V, rfl, hx⟩
/-- The region. -/
theorem opens_region {own : Nat → Nat} {base q : Nat} {h : Hd} {a : Ak} {w : World} {ops : Array Oper} {id : Nat} (hb : backward .any ops = true) (htab : ops.toList.map (fun o => (o.dst, o.op, o.guard)) = opsTab) (hpt : predTab.all (fun p => preds ops p.1 p.2) = true)
    (F : (Nat → Value) → Act) (hput : ∀ e d v, 36 ≤ d → d ≤ 62 → (F e).put (some d) v = F (upd e d v)) (hget : ∀ e d, 36 ≤ d → d ≤ 62 → (F e).eval (.tmp d) = e d) (h0 : ∀ e, (F e).eval (.tmp 0) = qp q 0) {Q : Exit → Act → World → Prop} (e0 : Nat → Value) (hB : base ≤ w.heap.size)
    (hlen : ∀ k, (a.row k).length ≤ 1000) (H : AkAt own base w q h a)
    (fin : ∀ e own' h' w', h'.pc = h.pc → h'.pr = h.pr → h'.pb = h.pb → AkAt own' base w' q h' { a with done := a.done ++ [0], told := a.told ++ [0], seen := a.seen ++ [0] } → Below base w w' → Q .normal (F e) w') :
    (Code.region id ops true).wp Tryz.prog Q (F e0) w := by
  refine wp_region_inv (by kernel_rfl) hb (OI F base q h a w.drew) ⟨e0, own, fun _ => undef, rfl, (H.below (below_drew w)).start e0 _⟩ (opens_step htab hpt F hput hget h0 hB hlen) ?_
  rintro L A w' hall ⟨e, own', V, rfl, HI⟩
  have hsz : ops.size = 30 := by
    have h1 : (ops.toList.map (fun o => (o.dst, o.op, o.guard))).length = 30 := by rw [htab]; rfl
    simpa using h1
  have hL : ∀ i, i < 30 → L i = true := fun i hi => hall i (by omega)
  refine fin e own' ⟨h.pc, h.pr, h.pb, V 0, V 1, V 2⟩ w' rfl rfl rfl ⟨?_, HI.hq, HI.calls, HI.rep, HI.hr, HI.bag, ?_, ?_, ?_, HI.back, HI.ext⟩ (((below_drew w).mono hB).trans HI.low)
  · have := HI.head
    rw [hL 23 (by decide), hL 26 (by decide), hL 29 (by decide)] at this
    exact this
  · have := HI.rows 0 (by decide)
    rw [hL _ (by decide)] at this
    exact this
  · have := HI.rows 1 (by decide)
    rw [hL _ (by decide)] at this
    exact this
  · have := HI.rows 2 (by decide)
    rw [hL _ (by decide)] at this
    exact this
/-- The region, from a frame that is written out. -/
theorem opens_region_at {own : Nat → Nat} {base q : Nat} {h : Hd} {a : Ak} {w : World} {ops : Array Oper} {id : Nat} {ds : List Deferred} {t1 t2 t3 t4 t5 t6 t7 t8 t9 t10 t11 t12 t13 t14 t15 t16 t17 t18 t19 t20 t21 t22 t23 t24 t25 t26 t27 t28 t29 t30 t31 t32 t33 t34 t35 t36 t37 t38 t39 t40 t41 t42 t43 t44 t45 t46 t47 t48 t49 t50 t51 t52 t53 t54 t55 t56 t57 t58 t59 t60 t61 t62 t63 t64 t65 t66 t67 t68 t69 t70 t71 t72 : Value} {Q : Exit → Act → World → Prop} (hb : backward .any ops = true) (htab : ops.toList.map (fun o => (o.dst, o.op, o.guard)) = opsTab) (hpt : predTab.all (fun p => preds ops p.1 p.2) = true) (hB : base ≤ w.heap.size)
    (hlen : ∀ k, (a.row k).length ≤ 1000) (H : AkAt own base w q h a)
    (fin : ∀ (e : Nat → Value) own' h' w', h'.pc = h.pc → h'.pr = h.pr → h'.pb = h.pb → AkAt own' base w' q h' { a with done := a.done ++ [0], told := a.told ++ [0], seen := a.seen ++ [0] } → Below base w w' → Q .normal ⟨#[.pointer (some ⟨q, 0, none⟩), t1, t2, t3, t4, t5, t6, t7, t8, t9, t10, t11, t12, t13, t14, t15, t16, t17, t18, t19, t20, t21, t22, t23, t24, t25, t26, t27, t28, t29, t30, t31, t32, t33, t34, t35, e 36, e 37, e 38, e 39, e 40, e 41, e 42, e 43, e 44, e 45, e 46, e 47, e 48, e 49, e 50, e 51, e 52, e 53, e 54, e 55, e 56, e 57, e 58, e 59, e 60, e 61, e 62, t63, t64, t65, t66, t67, t68, t69, t70, t71, t72], ds⟩ w') :
    (Code.region id ops true).wp Tryz.prog Q ⟨#[.pointer (some ⟨q, 0, none⟩), t1, t2, t3, t4, t5, t6, t7, t8, t9, t10, t11, t12, t13, t14, t15, t16, t17, t18, t19, t20, t21, t22, t23, t24, t25, t26, t27, t28, t29, t30, t31, t32, t33, t34, t35, t36, t37, t38, t39, t40, t41, t42, t43, t44, t45, t46, t47, t48, t49, t50, t51, t52, t53, t54, t55, t56, t57, t58, t59, t60, t61, t62, t63, t64, t65, t66, t67, t68, t69, t70, t71, t72], ds⟩ w := by
  have rng : ∀ d : Nat, 36 ≤ d → d ≤ 62 → d = 36 ∨ d = 37 ∨ d = 38 ∨ d = 39 ∨ d = 40 ∨ d = 41 ∨ d = 42 ∨ d = 43 ∨ d = 44 ∨ d = 45 ∨ d = 46 ∨ d = 47 ∨ d = 48 ∨ d = 49 ∨ d = 50 ∨ d = 51 ∨ d = 52 ∨ d = 53 ∨ d = 54 ∨ d = 55 ∨ d = 56 ∨ d = 57 ∨ d = 58 ∨ d = 59 ∨ d = 60 ∨ d = 61 ∨ d = 62 := by omega
  have hput : ∀ (e : Nat → Value) (d : Nat) (v : Value), 36 ≤ d → d ≤ 62 → Act.put ⟨#[.pointer (some ⟨q, 0, none⟩), t1, t2, t3, t4, t5, t6, t7, t8, t9, t10, t11, t12, t13, t14, t15, t16, t17, t18, t19, t20, t21, t22, t23, t24, t25, t26, t27, t28, t29, t30, t31, t32, t33, t34, t35, e 36, e 37, e 38, e 39, e 40, e 41, e 42, e 43, e 44, e 45, e 46, e 47, e 48, e 49, e 50, e 51, e 52, e 53, e 54, e 55, e 56, e 57, e 58, e 59, e 60, e 61, e 62, t63, t64, t65, t66, t67, t68, t69, t70, t71, t72], ds⟩ (some d) v = (fun e : Nat → Value => (⟨#[.pointer (some ⟨q, 0, none⟩), t1, t2, t3, t4, t5, t6, t7, t8, t9, t10, t11, t12, t13, t14, t15, t16, t17, t18, t19, t20, t21, t22, t23, t24, t25, t26, t27, t28, t29, t30, t31, t32, t33, t34, t35, e 36, e 37, e 38, e 39, e 40, e 41, e 42, e 43, e 44, e 45, e 46, e 47, e 48, e 49, e 50, e 51, e 52, e 53, e 54, e 55, e 56, e 57, e 58, e 59, e 60, e 61, e 62, t63, t64, t65, t66, t67, t68, t69, t70, t71, t72], ds⟩ : Act)) (upd e d v) := by
    intro e d v h1 h2
    obtain rfl | rfl | rfl | rfl | rfl | rfl | rfl | rfl | rfl | rfl | rfl | rfl | rfl | rfl | rfl | rfl | rfl | rfl | rfl | rfl | rfl | rfl | rfl | rfl | rfl | rfl | rfl := rng d h1 h2
    all_goals rfl
  have hget : ∀ (e : Nat → Value) (d : Nat), 36 ≤ d → d ≤ 62 → Act.eval ⟨#[.pointer (some ⟨q, 0, none⟩), t1, t2, t3, t4, t5, t6, t7, t8, t9, t10, t11, t12, t13, t14, t15, t16, t17, t18, t19, t20, t21, t22, t23, t24, t25, t26, t27, t28, t29, t30, t31, t32, t33, t34, t35, e 36, e 37, e 38, e 39, e 40, e 41, e 42, e 43, e 44, e 45, e 46, e 47, e 48, e 49, e 50, e 51, e 52, e 53, e 54, e 55, e 56, e 57, e 58, e 59, e 60, e 61, e 62, t63, t64, t65, t66, t67, t68, t69, t70, t71, t72], ds⟩ (.tmp d) = e d := by
    intro e d h1 h2
    obtain rfl | rfl | rfl | rfl | rfl | rfl | rfl | rfl | rfl | rfl | rfl | rfl | rfl | rfl | rfl | rfl | rfl | rfl | rfl | rfl | rfl | rfl | rfl | rfl | rfl | rfl | rfl := rng d h1 h2
    all_goals rfl
  exact opens_region hb htab hpt (fun e => ⟨#[.pointer (some ⟨q, 0, none⟩), t1, t2, t3, t4, t5, t6, t7, t8, t9, t10, t11, t12, t13, t14, t15, t16, t17, t18, t19, t20, t21, t22, t23, t24, t25, t26, t27, t28, t29, t30, t31, t32, t33, t34, t35, e 36, e 37, e 38, e 39, e 40, e 41, e 42, e 43, e 44, e 45, e 46, e 47, e 48, e 49, e 50, e 51, e 52, e 53, e 54, e 55, e 56, e 57, e 58, e 59, e 60, e 61, e 62, t63, t64, t65, t66, t67, t68, t69, t70, t71, t72], ds⟩) hput hget (fun e => rfl) (fun d => [t36, t37, t38, t39, t40, t41, t42, t43, t44, t45, t46, t47, t48, t49, t50, t51, t52, t53, t54, t55, t56, t57, t58, t59, t60, t61, t62].getD (d - 36) undef) hB hlen H fin
end Go.Proofs.YtaelbgjcoakdlaaGreat
