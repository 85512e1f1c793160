/- arrives: the region of Keep. -/
import Derived.Test.YtaelbgjcoakdlaaGreatOprb
import Derived.Test.YtaelbgjcoakdlaaGreatArrd
namespace Go.Proofs.YtaelbgjcoakdlaaGreat
open Go.RowKit Go.Maps

def newTab : List (Option Tmp × Op × Option (Nat × Bool)) := [(some 156, Go.Op.move (Go.Operand.tmp 11), none),
  (some 157, Go.Op.binOp Go.BinOp.eql 81 (Go.Operand.tmp 156) (Go.Operand.const (Go.Value.int Go.IntKind.i64 3)) 81, none),
  (some 158, Go.Op.move (Go.Operand.tmp 157), none),
  (some 159, Go.Op.move (Go.Operand.tmp 0), some (2, Bool.true)),
  (some 160, Go.Op.nilCheck (Go.Operand.tmp 159), some (2, Bool.true)),
  (some 161, Go.Op.fieldAddr 34 (Go.Operand.tmp 160) 1, some (2, Bool.true)),
  (some 162, Go.Op.load 28 (Go.Operand.tmp 161), some (2, Bool.true)),
  (some 163, Go.Op.load 51 (Go.Operand.tmp 7), some (2, Bool.true)),
  (some 164, Go.Op.load 51 (Go.Operand.tmp 15), some (2, Bool.true)),
  (some 165, Go.Op.call { callee := Go.Callee.value (Go.Operand.func 23), args := #[Go.Operand.tmp 162, Go.Operand.tmp 163, Go.Operand.tmp 164], argTypes := #[28, 51, 51] }, some (2, Bool.true)),
  (some 166, Go.Op.pick (Go.Operand.tmp 158) (Go.Operand.tmp 165) (Go.Operand.const (Go.Value.bool Bool.false)), none),
  (some 6, Go.Op.assign (Go.Operand.tmp 166), none)]
def newPre : List (Nat × Nat) := [(1, 0), (2, 1), (3, 2), (4, 2), (4, 3), (5, 2), (5, 4), (6, 2), (6, 5), (7, 2), (8, 2), (9, 2), (9, 6), (9, 7), (9, 8), (10, 2), (10, 9), (11, 9), (11, 10)]
theorem newRow {ops : Array Oper} (htab : ops.toList.map (fun o => (o.dst, o.op, o.guard)) = newTab) {i : Nat} {o : Oper} (ho : ops[i]? = some o) {d : Option Tmp} {op : Op} {g : Option (Nat × Bool)} (hr : newTab[i]? = some (d, op, g)) : o.dst = d ∧ o.op = op ∧ o.guard = g := by
  have h : (ops.toList.map (fun o => (o.dst, o.op, o.guard)))[i]? = some (o.dst, o.op, o.guard) := by rw [List.getElem?_map, Array.getElem?_toList, ho]; rfl
  rw [htab, hr] at h
  injection h with h
  injection h with h1 h2
  injection h2 with h2 h3
  exact ⟨h1.symm, h2.symm, h3.symm⟩
def nd (i : Nat) : Nat := if i = 11 then 6 else 156 + i
theorem nd_inj {i j : Nat} (hi : i < 12) (hj : j < 12) (h : nd i = nd j) : i = j := by
  unfold nd at h
  split at h <;> split at h <;> omega
def nv (q pr : Nat) (m an : Ms) : Nat → Value
  | 0 => .int .i64 3
  | 1 => .bool true
  | 2 => .bool true
  | 3 => qp q 0
  | 4 => qp q 0
  | 5 => qp q 1
  | 6 => qp pr 0
  | 7 => m.val
  | 8 => an.val
  | 9 => .bool true
  | 10 => .bool true
  | 11 => .bool true
  | _ => undef
structure NI (q pr : Nat) (m an : Ms) (w0 : World) (R : World → Prop) (L : Nat → Bool) (e : Nat → Value) (w : World) : Prop where
  tm : ∀ i, i < 12 → L i = true → e (nd i) = nv q pr m an i
  w0 : L 9 = false → w = w0
  wR : L 9 = true → R w
theorem NI.put {q pr : Nat} {m an : Ms} {w0 w' w : World} {R : World → Prop} {L : Nat → Bool} {e : Nat → Value} (H : NI q pr m an w0 R L e w) {i : Nat} (hi : i < 12) (h0 : i ≠ 9 → w' = w) (hR : i = 9 → R w') : NI q pr m an w0 R (got L i) (upd e (nd i) (nv q pr m an i)) w' := by
  refine ⟨fun j hj hl => ?_, fun hl => ?_, fun hl => ?_⟩
  · by_cases e1 : j = i
    · subst e1; rw [upd_self]
    · rw [upd_ne (fun e2 => e1 (nd_inj hj hi e2))]
      rw [got_ne e1] at hl
      exact H.tm j hj hl
  · by_cases e1 : i = 9
    · subst e1; rw [got_self] at hl; cases hl
    · rw [got_ne (Ne.symm e1)] at hl
      rw [h0 e1]; exact H.w0 hl
  · by_cases e1 : i = 9
    · exact hR e1
    · rw [got_ne (Ne.symm e1)] at hl
      rw [h0 e1]; exact H.wR hl
theorem run_pick {ρ : Operand → Value} {o : Oper} {c x y : Operand} (h : o.op = .pick c x y) (hc : ρ c = .bool true) (w : World) : (execOp ρ o).run Tryz.prog w = .ok (.value (ρ x)) w := by
  unfold execOp; rw [h]; simp only [hc]; go_simp
theorem run_eq3 {ρ : Operand → Value} {o : Oper} {x : Operand} (h : o.op = .binOp .eql 81 x (.const (.int .i64 3)) 81) (hx : ρ x = .int .i64 3) (hc : ρ (.const (.int .i64 3)) = .int .i64 3) (w : World) : (execOp ρ o).run Tryz.prog w = .ok (.value (.bool true)) w := by
  unfold execOp; rw [h]; simp only [hx, hc]; go_simp
theorem run_ldr {ρ : Operand → Value} {o : Oper} {x : Operand} (h : o.op = .load 28 x) {q i : Nat} (hx : ρ x = qp q i) (w : World) {v : Value} (hc : w.cell? ⟨q, i, none⟩ = some v) : (execOp ρ o).run Tryz.prog w = .ok (.value v) w := by
  unfold execOp; rw [h]; simp only [hx, qp]; go_simp
theorem wpOp_yes {P : Program} {ops : Array Oper} {Q : Exit → Act → World → Prop} {i : Nat} {o : Oper} {K : Act → World → Prop} {a : Act} {w : World} (ho : ops[i]? = some o) {g : Nat} (hg : o.guard = some (g, true)) {og : Oper} (hog : ops[g]? = some og) {d : Nat} (hd : og.dst = some d) (ht : a.tmps[d]? = some (.bool true)) (h : o.wp P a w K Q) : wpOp P ops Q i K a w := by
  unfold wpOp
  simp only [ho]
  have hw : Region.wanted o (yielded ops a.tmps) = true := by
    unfold Region.wanted yielded
    rw [hg]
    simp [hog, hd, ht]
  rw [if_pos hw]
  exact .inl h
theorem Oper.wp_enter {P : Program} {Q : Exit → Act → World → Prop} {o : Oper} {K : Act → World → Prop} {a : Act} {w w' : World} {f : FuncId} {args : Array Value} (hr : (execOp a.eval o).run P w = .ok (.enter f args) w') {R : Value → World → Prop} (hc : Calls P f args w' fun e w2 => ∃ v, e = .returned v ∧ R v w2) (h : ∀ v w2, R v w2 → K (a.put o.dst v) w2) : o.wp P a w K Q := by
  unfold Oper.wp
  rw [hr]
  refine hc.mono ?_
  rintro e w2 ⟨v, rfl, hR⟩
  exact h v w2 hR
theorem call_keep (args : Array Value) (w : World) : (callFunc 23 args).run Tryz.prog w = .ok (.enter 23 args) w := by kernel_rfl
def NF (F : (Nat → Value) → Act) (q pr : Nat) (m an : Ms) (w0 : World) (R : World → Prop) (L : Nat → Bool) (A : Act) (w : World) : Prop := ∃ e, A = F e ∧ NI q pr m an w0 R L e w
set_option maxRecDepth 100000 in
theorem new_step {q pr mb ab : Nat} {m an : Ms} {w0 : World} {R : World → Prop} {ops : Array Oper} (htab : ops.toList.map (fun o => (o.dst, o.op, o.guard)) = newTab) (hpt : newPre.all (fun p => preds ops p.1 p.2) = true)
    (F : (Nat → Value) → Act) (hput : ∀ e i v, i < 12 → (F e).put (some (nd i)) v = F (upd e (nd i) v)) (hget : ∀ e i, i < 12 → (F e).tmps[nd i]? = some (e (nd i))) (h0 : ∀ e, (F e).eval (.tmp 0) = qp q 0) (h7 : ∀ e, (F e).eval (.tmp 7) = qp mb 0) (h11 : ∀ e, (F e).eval (.tmp 11) = .int .i64 3) (h15 : ∀ e, (F e).eval (.tmp 15) = qp ab 0)
    {Q : Exit → Act → World → Prop} (hq : w0.cell? ⟨q, 1, none⟩ = some (qp pr 0)) (hm : w0.heap[mb]? = some (.cells m.cells 51 (0, 0))) (ha : w0.heap[ab]? = some (.cells an.cells 51 (0, 0)))
    (hcall : Calls Tryz.prog 23 #[qp pr 0, m.val, an.val] w0 (fun e w' => e = .returned (.bool true) ∧ R w'))
    (L : Nat → Bool) (i : Nat) (o : Oper) (A : Act) (w : World) (ho : ops[i]? = some o) (hL : L i = false) (hpre : ∀ e ∈ o.after, Region.binds .any e = true → L e.on = true) (HI : NF F q pr m an w0 R L A w) (h96 : L 9 = true → L 6 = true ∧ L 7 = true ∧ L 8 = true) :
    wpOp Tryz.prog ops Q i (NF F q pr m an w0 R (got L i)) A w := by
  obtain ⟨e, rfl, H⟩ := HI
  have hlen : ops.size = 12 := by
    have h1 : (ops.toList.map (fun o => (o.dst, o.op, o.guard))).length = 12 := by rw [htab]; rfl
    simpa using h1
  have hi : i < 12 := by
    have := (Array.getElem?_eq_some_iff.1 ho).1
    omega
  have hp : ∀ j, (i, j) ∈ newPre → L j = true := fun j hj => preds_spec (List.all_eq_true.1 hpt _ hj) ho hpre
  have kq : ∀ j, j < 12 → L j = true → (F e).eval (.tmp (nd j)) = nv q pr m an j := fun j hj hl => by
    show (F e).tmps.getD (nd j) undef = _
    rw [Array.getD_eq_getD_getElem?, hget e j hj, H.tm j hj hl]; rfl
  have fin : ∀ {w'}, o.dst = some (nd i) → (i ≠ 9 → w' = w) → (i = 9 → R w') → NF F q pr m an w0 R (got L i) ((F e).put o.dst (nv q pr m an i)) w' := fun hd e1 e2 => by
    rw [hd, hput e i _ hi]
    exact ⟨_, rfl, H.put hi e1 e2⟩
  obtain ⟨o2, ho2⟩ : ∃ o2, ops[2]? = some o2 := ⟨ops[2], Array.getElem?_eq_getElem (by omega)⟩
  obtain ⟨hd2, _, _⟩ := newRow htab ho2 (d := some (nd 2)) rfl
  have h2 : L 2 = true → (F e).tmps[nd 2]? = some (.bool true) := fun hl => by rw [hget e 2 (by decide), H.tm 2 (by decide) hl]; rfl
  obtain rfl | rfl | rfl | rfl | rfl | rfl | rfl | rfl | rfl | rfl | rfl | rfl : i = 0 ∨ i = 1 ∨ i = 2 ∨ i = 3 ∨ i = 4 ∨ i = 5 ∨ i = 6 ∨ i = 7 ∨ i = 8 ∨ i = 9 ∨ i = 10 ∨ i = 11 := by omega
  · obtain ⟨hd, hop, hg⟩ := newRow htab ho (d := some (nd 0)) (op := Go.Op.move (Go.Operand.tmp 11)) (g := none) rfl
    refine wpOp_bare ho hg (Oper.wp_value (v := nv q pr m an 0) ((BigFrame.run_move _ hop w).trans (congrArg (fun v => Result.ok (Next.value v) w) (h11 e))) (fin hd (fun _ => rfl) (fun e => absurd e (by decide))))
  · obtain ⟨hd, hop, hg⟩ := newRow htab ho (d := some (nd 1)) (op := Go.Op.binOp Go.BinOp.eql 81 (Go.Operand.tmp 156) (Go.Operand.const (Go.Value.int Go.IntKind.i64 3)) 81) (g := none) rfl
    refine wpOp_bare ho hg (Oper.wp_value (v := nv q pr m an 1) (run_eq3 hop (kq 0 (by decide) (hp 0 (by decide))) rfl w) (fin hd (fun _ => rfl) (fun e => absurd e (by decide))))
  · obtain ⟨hd, hop, hg⟩ := newRow htab ho (d := some (nd 2)) (op := Go.Op.move (Go.Operand.tmp 157)) (g := none) rfl
    refine wpOp_bare ho hg (Oper.wp_value (v := nv q pr m an 2) ((BigFrame.run_move _ hop w).trans (congrArg (fun v => Result.ok (Next.value v) w) (kq 1 (by decide) (hp 1 (by decide))))) (fin hd (fun _ => rfl) (fun e => absurd e (by decide))))
  · obtain ⟨hd, hop, hg⟩ := newRow htab ho (d := some (nd 3)) (op := Go.Op.move (Go.Operand.tmp 0)) (g := some (2, Bool.true)) rfl
    refine wpOp_yes ho hg ho2 hd2 (h2 (hp 2 (by decide))) (Oper.wp_value (v := nv q pr m an 3) ((BigFrame.run_move _ hop w).trans (congrArg (fun v => Result.ok (Next.value v) w) (h0 e))) (fin hd (fun _ => rfl) (fun e => absurd e (by decide))))
  · obtain ⟨hd, hop, hg⟩ := newRow htab ho (d := some (nd 4)) (op := Go.Op.nilCheck (Go.Operand.tmp 159)) (g := some (2, Bool.true)) rfl
    refine wpOp_yes ho hg ho2 hd2 (h2 (hp 2 (by decide))) (Oper.wp_value (v := nv q pr m an 4) (run_nil hop (kq 3 (by decide) (hp 3 (by decide))) w) (fin hd (fun _ => rfl) (fun e => absurd e (by decide))))
  · obtain ⟨hd, hop, hg⟩ := newRow htab ho (d := some (nd 5)) (op := Go.Op.fieldAddr 34 (Go.Operand.tmp 160) 1) (g := some (2, Bool.true)) rfl
    refine wpOp_yes ho hg ho2 hd2 (h2 (hp 2 (by decide))) (Oper.wp_value (v := nv q pr m an 5) (run_fa (by decide) hop (kq 4 (by decide) (hp 4 (by decide))) w) (fin hd (fun _ => rfl) (fun e => absurd e (by decide))))
  · obtain ⟨hd, hop, hg⟩ := newRow htab ho (d := some (nd 6)) (op := Go.Op.load 28 (Go.Operand.tmp 161)) (g := some (2, Bool.true)) rfl
    have e0 : w = w0 := H.w0 (by
      cases e9 : L 9 with
      | false => rfl
      | true => exact absurd (h96 e9).1 (by rw [hL]; decide))
    subst e0
    refine wpOp_yes ho hg ho2 hd2 (h2 (hp 2 (by decide))) (Oper.wp_value (v := nv q pr m an 6) (run_ldr hop (kq 5 (by decide) (hp 5 (by decide))) w hq) (fin hd (fun _ => rfl) (fun e => absurd e (by decide))))
  · obtain ⟨hd, hop, hg⟩ := newRow htab ho (d := some (nd 7)) (op := Go.Op.load 51 (Go.Operand.tmp 7)) (g := some (2, Bool.true)) rfl
    have e0 : w = w0 := H.w0 (by
      cases e9 : L 9 with
      | false => rfl
      | true => exact absurd (h96 e9).2.1 (by rw [hL]; decide))
    subst e0
    refine wpOp_yes ho hg ho2 hd2 (h2 (hp 2 (by decide))) (wp_load_row 51 (.tmp 7) hop mb (h7 e) 51 m.cells (0, 0) _ hm Tryz.underlying51 rfl (by kernel_rfl) (fin hd (fun _ => rfl) (fun e => absurd e (by decide))))
  · obtain ⟨hd, hop, hg⟩ := newRow htab ho (d := some (nd 8)) (op := Go.Op.load 51 (Go.Operand.tmp 15)) (g := some (2, Bool.true)) rfl
    have e0 : w = w0 := H.w0 (by
      cases e9 : L 9 with
      | false => rfl
      | true => exact absurd (h96 e9).2.2 (by rw [hL]; decide))
    subst e0
    refine wpOp_yes ho hg ho2 hd2 (h2 (hp 2 (by decide))) (wp_load_row 51 (.tmp 15) hop ab (h15 e) 51 an.cells (0, 0) _ ha Tryz.underlying51 rfl (by kernel_rfl) (fin hd (fun _ => rfl) (fun e => absurd e (by decide))))
  · obtain ⟨hd, hop, hg⟩ := newRow htab ho (d := some (nd 9)) (op := Go.Op.call { callee := Go.Callee.value (Go.Operand.func 23), args := #[Go.Operand.tmp 162, Go.Operand.tmp 163, Go.Operand.tmp 164], argTypes := #[28, 51, 51] }) (g := some (2, Bool.true)) rfl
    have e0 : w = w0 := H.w0 hL
    subst e0
    have hr : (execOp (F e).eval o).run Tryz.prog w = .ok (.enter 23 #[qp pr 0, m.val, an.val]) w := by
      have k6 : (F e).eval (.tmp 162) = qp pr 0 := kq 6 (by decide) (hp 6 (by decide))
      have k7 : (F e).eval (.tmp 163) = m.val := kq 7 (by decide) (hp 7 (by decide))
      have k8 : (F e).eval (.tmp 164) = an.val := kq 8 (by decide) (hp 8 (by decide))
      have e0 : execOp (F e).eval o = callFunc 23 (#[] ++ (#[.tmp 162, .tmp 163, .tmp 164] : Array Operand).map (F e).eval ++ #[]) := by unfold execOp; rw [hop]; rfl
      have e1 : (#[] ++ (#[.tmp 162, .tmp 163, .tmp 164] : Array Operand).map (F e).eval ++ #[]) = #[qp pr 0, m.val, an.val] := by simp [k6, k7, k8]
      rw [e0, e1]
      exact call_keep _ w
    refine wpOp_yes ho hg ho2 hd2 (h2 (hp 2 (by decide))) (Oper.wp_enter (R := fun v w2 => v = nv q pr m an 9 ∧ R w2) hr (hcall.mono fun e2 w2 h => ⟨_, h.1, rfl, h.2⟩) ?_)
    rintro v w2 ⟨rfl, hR⟩
    exact fin hd (fun e => absurd rfl e) (fun _ => hR)
  · obtain ⟨hd, hop, hg⟩ := newRow htab ho (d := some (nd 10)) (op := Go.Op.pick (Go.Operand.tmp 158) (Go.Operand.tmp 165) (Go.Operand.const (Go.Value.bool Bool.false))) (g := none) rfl
    refine wpOp_bare ho hg (Oper.wp_value (v := nv q pr m an 10) ((run_pick hop (kq 2 (by decide) (hp 2 (by decide))) w).trans (congrArg (fun v => Result.ok (Next.value v) w) (kq 9 (by decide) (hp 9 (by decide))))) (fin hd (fun _ => rfl) (fun e => absurd e (by decide))))
  · obtain ⟨hd, hop, hg⟩ := newRow htab ho (d := some (nd 11)) (op := Go.Op.assign (Go.Operand.tmp 166)) (g := none) rfl
    refine wpOp_bare ho hg (Oper.wp_value (v := nv q pr m an 11) ((BigFrame.run_assign _ hop w).trans (congrArg (fun v => Result.ok (Next.value v) w) (kq 10 (by decide) (hp 10 (by decide))))) (fin hd (fun _ => rfl) (fun e => absurd e (by decide))))
set_option maxRecDepth 100000 in
theorem new_region_at {q pr mb ab : Nat} {m an : Ms} {w : World} {R : World → Prop} {ops : Array Oper} {id : Nat} {ds : List Deferred} {t1 t2 t3 t4 t5 t6 t8 t9 t10 t12 t13 t14 t16 t17 t18 t19 t20 t21 t22 t23 t24 t25 t26 t27 t28 t29 t30 t31 t32 t33 t34 t35 t36 t37 t38 t39 t40 t41 t42 t43 t44 t45 t46 t47 t48 t49 t50 t51 t52 t53 t54 t55 t56 t57 t58 t59 t60 t61 t62 t63 t64 t65 t66 t67 t68 t69 t70 t71 t72 t73 t74 t75 t76 t77 t78 t79 t80 t81 t82 t83 t84 t85 t86 t87 t88 t89 t90 t91 t92 t93 t94 t95 t96 t97 t98 t99 t100 t101 t102 t103 t104 t105 t106 t107 t108 t109 t110 t111 t112 t113 t114 t115 t116 t117 t118 t119 t120 t121 t122 t123 t124 t125 t126 t127 t128 t129 t130 t131 t132 t133 t134 t135 t136 t137 t138 t139 t140 t141 t142 t143 t144 t145 t146 t147 t148 t149 t150 t151 t152 t153 t154 t155 t156 t157 t158 t159 t160 t161 t162 t163 t164 t165 t166 : Value} {Q : Exit → Act → World → Prop} (hb : backward .any ops = true) (htab : ops.toList.map (fun o => (o.dst, o.op, o.guard)) = newTab) (hpt : newPre.all (fun p => preds ops p.1 p.2) = true)
    (hq : w.cell? ⟨q, 1, none⟩ = some (qp pr 0)) (hm : w.heap[mb]? = some (.cells m.cells 51 (0, 0))) (ha : w.heap[ab]? = some (.cells an.cells 51 (0, 0)))
    (hcall : Calls Tryz.prog 23 #[qp pr 0, m.val, an.val] w.drew (fun e w' => e = .returned (.bool true) ∧ R w'))
    (fin : ∀ (e : Nat → Value) w', R w' → e 6 = .bool true → Q .normal ⟨#[.pointer (some ⟨q, 0, none⟩), t1, t2, t3, t4, t5, e 6, .pointer (some ⟨mb, 0, none⟩), t8, t9, t10, .int .i64 3, t12, t13, t14, .pointer (some ⟨ab, 0, none⟩), t16, t17, t18, t19, t20, t21, t22, t23, t24, t25, t26, t27, t28, t29, t30, t31, t32, t33, t34, t35, t36, t37, t38, t39, t40, t41, t42, t43, t44, t45, t46, t47, t48, t49, t50, t51, t52, t53, t54, t55, t56, t57, t58, t59, t60, t61, t62, t63, t64, t65, t66, t67, t68, t69, t70, t71, t72, t73, t74, t75, t76, t77, t78, t79, t80, t81, t82, t83, t84, t85, t86, t87, t88, t89, t90, t91, t92, t93, t94, t95, t96, t97, t98, t99, t100, t101, t102, t103, t104, t105, t106, t107, t108, t109, t110, t111, t112, t113, t114, t115, t116, t117, t118, t119, t120, t121, t122, t123, t124, t125, t126, t127, t128, t129, t130, t131, t132, t133, t134, t135, t136, t137, t138, t139, t140, t141, t142, t143, t144, t145, t146, t147, t148, t149, t150, t151, t152, t153, t154, t155, e 156, e 157, e 158, e 159, e 160, e 161, e 162, e 163, e 164, e 165, e 166], ds⟩ w') :
    (Code.region id ops true).wp Tryz.prog Q ⟨#[.pointer (some ⟨q, 0, none⟩), t1, t2, t3, t4, t5, t6, .pointer (some ⟨mb, 0, none⟩), t8, t9, t10, .int .i64 3, t12, t13, t14, .pointer (some ⟨ab, 0, none⟩), t16, t17, t18, t19, t20, t21, t22, t23, t24, t25, t26, t27, t28, t29, t30, t31, t32, t33, t34, t35, t36, t37, t38, t39, t40, t41, t42, t43, t44, t45, t46, t47, t48, t49, t50, t51, t52, t53, t54, t55, t56, t57, t58, t59, t60, t61, t62, t63, t64, t65, t66, t67, t68, t69, t70, t71, t72, t73, t74, t75, t76, t77, t78, t79, t80, t81, t82, t83, t84, t85, t86, t87, t88, t89, t90, t91, t92, t93, t94, t95, t96, t97, t98, t99, t100, t101, t102, t103, t104, t105, t106, t107, t108, t109, t110, t111, t112, t113, t114, t115, t116, t117, t118, t119, t120, t121, t122, t123, t124, t125, t126, t127, t128, t129, t130, t131, t132, t133, t134, t135, t136, t137, t138, t139, t140, t141, t142, t143, t144, t145, t146, t147, t148, t149, t150, t151, t152, t153, t154, t155, t156, t157, t158, t159, t160, t161, t162, t163, t164, t165, t166], ds⟩ w := by
  have rng : ∀ d : Nat, d < 12 → d = 0 ∨ d = 1 ∨ d = 2 ∨ d = 3 ∨ d = 4 ∨ d = 5 ∨ d = 6 ∨ d = 7 ∨ d = 8 ∨ d = 9 ∨ d = 10 ∨ d = 11 := by omega
  have hput : ∀ (e : Nat → Value) (i : Nat) (v : Value), i < 12 → Act.put ⟨#[.pointer (some ⟨q, 0, none⟩), t1, t2, t3, t4, t5, e 6, .pointer (some ⟨mb, 0, none⟩), t8, t9, t10, .int .i64 3, t12, t13, t14, .pointer (some ⟨ab, 0, none⟩), t16, t17, t18, t19, t20, t21, t22, t23, t24, t25, t26, t27, t28, t29, t30, t31, t32, t33, t34, t35, t36, t37, t38, t39, t40, t41, t42, t43, t44, t45, t46, t47, t48, t49, t50, t51, t52, t53, t54, t55, t56, t57, t58, t59, t60, t61, t62, t63, t64, t65, t66, t67, t68, t69, t70, t71, t72, t73, t74, t75, t76, t77, t78, t79, t80, t81, t82, t83, t84, t85, t86, t87, t88, t89, t90, t91, t92, t93, t94, t95, t96, t97, t98, t99, t100, t101, t102, t103, t104, t105, t106, t107, t108, t109, t110, t111, t112, t113, t114, t115, t116, t117, t118, t119, t120, t121, t122, t123, t124, t125, t126, t127, t128, t129, t130, t131, t132, t133, t134, t135, t136, t137, t138, t139, t140, t141, t142, t143, t144, t145, t146, t147, t148, t149, t150, t151, t152, t153, t154, t155, e 156, e 157, e 158, e 159, e 160, e 161, e 162, e 163, e 164, e 165, e 166], ds⟩ (some (nd i)) v = (fun e : Nat → Value => (⟨#[.pointer (some ⟨q, 0, none⟩), t1, t2, t3, t4, t5, e 6, .pointer (some ⟨mb, 0, none⟩), t8, t9, t10, .int .i64 3, t12, t13, t14, .pointer (some ⟨ab, 0, none⟩), t16, t17, t18, t19, t20, t21, t22, t23, t24, t25, t26, t27, t28, t29, t30, t31, t32, t33, t34, t35, t36, t37, t38, t39, t40, t41, t42, t43, t44, t45, t46, t47, t48, t49, t50, t51, t52, t53, t54, t55, t56, t57, t58, t59, t60, t61, t62, t63, t64, t65, t66, t67, t68, t69, t70, t71, t72, t73, t74, t75, t76, t77, t78, t79, t80, t81, t82, t83, t84, t85, t86, t87, t88, t89, t90, t91, t92, t93, t94, t95, t96, t97, t98, t99, t100, t101, t102, t103, t104, t105, t106, t107, t108, t109, t110, t111, t112, t113, t114, t115, t116, t117, t118, t119, t120, t121, t122, t123, t124, t125, t126, t127, t128, t129, t130, t131, t132, t133, t134, t135, t136, t137, t138, t139, t140, t141, t142, t143, t144, t145, t146, t147, t148, t149, t150, t151, t152, t153, t154, t155, e 156, e 157, e 158, e 159, e 160, e 161, e 162, e 163, e 164, e 165, e 166], ds⟩ : Act)) (upd e (nd i) v) := by
    intro e d v h1
    obtain rfl | rfl | rfl | rfl | rfl | rfl | rfl | rfl | rfl | rfl | rfl | rfl := rng d h1
    all_goals rfl
  have hget : ∀ (e : Nat → Value) (i : Nat), i < 12 → (⟨#[.pointer (some ⟨q, 0, none⟩), t1, t2, t3, t4, t5, e 6, .pointer (some ⟨mb, 0, none⟩), t8, t9, t10, .int .i64 3, t12, t13, t14, .pointer (some ⟨ab, 0, none⟩), t16, t17, t18, t19, t20, t21, t22, t23, t24, t25, t26, t27, t28, t29, t30, t31, t32, t33, t34, t35, t36, t37, t38, t39, t40, t41, t42, t43, t44, t45, t46, t47, t48, t49, t50, t51, t52, t53, t54, t55, t56, t57, t58, t59, t60, t61, t62, t63, t64, t65, t66, t67, t68, t69, t70, t71, t72, t73, t74, t75, t76, t77, t78, t79, t80, t81, t82, t83, t84, t85, t86, t87, t88, t89, t90, t91, t92, t93, t94, t95, t96, t97, t98, t99, t100, t101, t102, t103, t104, t105, t106, t107, t108, t109, t110, t111, t112, t113, t114, t115, t116, t117, t118, t119, t120, t121, t122, t123, t124, t125, t126, t127, t128, t129, t130, t131, t132, t133, t134, t135, t136, t137, t138, t139, t140, t141, t142, t143, t144, t145, t146, t147, t148, t149, t150, t151, t152, t153, t154, t155, e 156, e 157, e 158, e 159, e 160, e 161, e 162, e 163, e 164, e 165, e 166], ds⟩ : Act).tmps[nd i]? = some (e (nd i)) := by
    intro e d h1
    obtain rfl | rfl | rfl | rfl | rfl | rfl | rfl | rfl | rfl | rfl | rfl | rfl := rng d h1
    all_goals rfl
  refine wp_region_inv (by kernel_rfl) hb (fun L A w' => NF (fun e => ⟨#[.pointer (some ⟨q, 0, none⟩), t1, t2, t3, t4, t5, e 6, .pointer (some ⟨mb, 0, none⟩), t8, t9, t10, .int .i64 3, t12, t13, t14, .pointer (some ⟨ab, 0, none⟩), t16, t17, t18, t19, t20, t21, t22, t23, t24, t25, t26, t27, t28, t29, t30, t31, t32, t33, t34, t35, t36, t37, t38, t39, t40, t41, t42, t43, t44, t45, t46, t47, t48, t49, t50, t51, t52, t53, t54, t55, t56, t57, t58, t59, t60, t61, t62, t63, t64, t65, t66, t67, t68, t69, t70, t71, t72, t73, t74, t75, t76, t77, t78, t79, t80, t81, t82, t83, t84, t85, t86, t87, t88, t89, t90, t91, t92, t93, t94, t95, t96, t97, t98, t99, t100, t101, t102, t103, t104, t105, t106, t107, t108, t109, t110, t111, t112, t113, t114, t115, t116, t117, t118, t119, t120, t121, t122, t123, t124, t125, t126, t127, t128, t129, t130, t131, t132, t133, t134, t135, t136, t137, t138, t139, t140, t141, t142, t143, t144, t145, t146, t147, t148, t149, t150, t151, t152, t153, t154, t155, e 156, e 157, e 158, e 159, e 160, e 161, e 162, e 163, e 164, e 165, e 166], ds⟩) q pr m an w.drew R L A w' ∧ (L 9 = true → L 6 = true ∧ L 7 = true ∧ L 8 = true)) ⟨⟨fun d => if d = 6 then t6 else [t156, t157, t158, t159, t160, t161, t162, t163, t164, t165, t166].getD (d - 156) undef, rfl, fun i _ hl => (by cases hl), fun _ => rfl, fun hl => (by cases hl)⟩, fun hl => (by cases hl)⟩ ?_ ?_
  · rintro L i o A w' ho hL hpre ⟨HI, h96⟩
    have := new_step (Q := Q) (w0 := w.drew) htab hpt (fun e => ⟨#[.pointer (some ⟨q, 0, none⟩), t1, t2, t3, t4, t5, e 6, .pointer (some ⟨mb, 0, none⟩), t8, t9, t10, .int .i64 3, t12, t13, t14, .pointer (some ⟨ab, 0, none⟩), t16, t17, t18, t19, t20, t21, t22, t23, t24, t25, t26, t27, t28, t29, t30, t31, t32, t33, t34, t35, t36, t37, t38, t39, t40, t41, t42, t43, t44, t45, t46, t47, t48, t49, t50, t51, t52, t53, t54, t55, t56, t57, t58, t59, t60, t61, t62, t63, t64, t65, t66, t67, t68, t69, t70, t71, t72, t73, t74, t75, t76, t77, t78, t79, t80, t81, t82, t83, t84, t85, t86, t87, t88, t89, t90, t91, t92, t93, t94, t95, t96, t97, t98, t99, t100, t101, t102, t103, t104, t105, t106, t107, t108, t109, t110, t111, t112, t113, t114, t115, t116, t117, t118, t119, t120, t121, t122, t123, t124, t125, t126, t127, t128, t129, t130, t131, t132, t133, t134, t135, t136, t137, t138, t139, t140, t141, t142, t143, t144, t145, t146, t147, t148, t149, t150, t151, t152, t153, t154, t155, e 156, e 157, e 158, e 159, e 160, e 161, e 162, e 163, e 164, e 165, e 166], ds⟩) hput hget (fun e => rfl) (fun e => rfl) (fun e => rfl) (fun e => rfl) hq hm ha hcall L i o A w' ho hL hpre HI h96
    refine wpOp_mono (fun a2 w2 h2 => ⟨h2, ?_⟩) this
    intro h9
    by_cases e9 : i = 9
    · subst e9
      have hp : ∀ j, (9, j) ∈ newPre → L j = true := fun j hj => preds_spec (List.all_eq_true.1 hpt _ hj) ho hpre
      have gm : ∀ j, L j = true → got L 9 j = true := fun j hj => by simp [got, hj]
      exact ⟨gm _ (hp 6 (by decide)), gm _ (hp 7 (by decide)), gm _ (hp 8 (by decide))⟩
    · rw [got_ne (Ne.symm e9)] at h9
      have gm : ∀ j, L j = true → got L i j = true := fun j hj => by simp [got, hj]
      exact ⟨gm _ (h96 h9).1, gm _ (h96 h9).2.1, gm _ (h96 h9).2.2⟩
  · rintro L A w' hall ⟨⟨e, rfl, H⟩, _⟩
    have hsz : ops.size = 12 := by
      have h1 : (ops.toList.map (fun o => (o.dst, o.op, o.guard))).length = 12 := by rw [htab]; rfl
      simpa using h1
    exact fin e w' (H.wR (hall 9 (by omega))) (H.tm 11 (by decide) (hall 11 (by omega)))
end Go.Proofs.YtaelbgjcoakdlaaGreat
