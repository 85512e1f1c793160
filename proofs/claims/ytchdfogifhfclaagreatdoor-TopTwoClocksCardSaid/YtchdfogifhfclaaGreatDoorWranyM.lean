/- Write: its region that stores.  Write.  A disk whose contents nobody asks for; Write of a row of bytes. -/
import Derived.Test.YtchdfogifhfclaaGreatDoorDisk
import Derived.Test.YtchdfogifhfclaaGreatDoorPosetbM
import Derived.Laws.Cover3
import Derived.Test.YtchdfogifhfclaaGreatDoorSetl
import Derived.Test.YtchdfogifhfclaaGreatDoorCopyRow
namespace Go.Proofs.YtchdfogifhfclaaGreatDoor
open Go.RowKit

def write11_tab : List (Option Tmp × Op × Option (Nat × Bool)) := [(some 45, Go.Op.move (Go.Operand.tmp 0), none),
  (some 46, Go.Op.nilCheck (Go.Operand.tmp 45), none),
  (some 47, Go.Op.fieldAddr 69 (Go.Operand.tmp 46) 0, none),
  (some 48, Go.Op.load 67 (Go.Operand.tmp 47), none),
  (some 49, Go.Op.move (Go.Operand.tmp 1), none),
  (some 50, Go.Op.move (Go.Operand.tmp 2), none),
  (some 51, Go.Op.sliceToArrayPointer 176 (Go.Operand.tmp 50), none),
  (some 52, Go.Op.load 176 (Go.Operand.tmp 51), none),
  (some 53, Go.Op.indexAddr 67 (Go.Operand.tmp 48) (Go.Operand.tmp 49), none),
  (none, Go.Op.store 176 (Go.Operand.tmp 53) (Go.Operand.tmp 52), none)]
def write11_pre : List (Nat × Nat) := [(1, 0), (2, 1), (3, 2), (6, 5), (7, 6), (8, 0), (8, 1), (8, 2), (8, 3), (8, 4), (8, 5), (8, 6), (8, 7), (9, 0), (9, 1), (9, 2), (9, 3), (9, 4), (9, 5), (9, 6), (9, 7), (9, 8)]
def write11_d (i : Nat) : Nat := match i with | 0 => 45 | 1 => 46 | 2 => 47 | 3 => 48 | 4 => 49 | 5 => 50 | 6 => 51 | 7 => 52 | 8 => 53 | _ => 9000 + i
def write11_v (p s n ix bb off c : Nat) (cs : List Value) (i : Nat) : Value := match i with | 0 => .pointer (some ⟨p, 0, none⟩) | 1 => .pointer (some ⟨p, 0, none⟩) | 2 => .pointer (some ⟨p, 0, none⟩) | 3 => .slice (some ⟨s, 0, none⟩) n n | 4 => .int .i64 (ix : Int) | 5 => .slice (some ⟨bb, off, none⟩) 64 c | 6 => .pointer (some ⟨bb, off, none⟩) | 7 => .agg cs.toArray | 8 => .pointer (some ⟨s, ix * 64, none⟩) | _ => undef
set_option maxRecDepth 100000 in
set_option maxHeartbeats 2000000 in
theorem write11_at (p s n ix bb off c : Nat) (cs : List Value) {w : World} {ops : Array Oper} {id : Nat} {ds : List Deferred} {t3 t4 t5 t6 t7 t8 t9 t10 t11 t12 t13 t14 t15 t16 t17 t18 t19 t20 t21 t22 t23 t24 t25 t26 t27 t28 t29 t30 t31 t32 t33 t34 t35 t36 t37 t38 t39 t40 t41 t42 t43 t44 t45 t46 t47 t48 t49 t50 t51 t52 t53 t54 t55 t56 t57 t58 t59 t60 : Value} {Q : Exit → Act → World → Prop} (hb : backward .any ops = true) (htab : ops.toList.map (fun o => (o.dst, o.op, o.guard)) = write11_tab) (hpt : write11_pre.all (fun p => predsB ops p.1 p.2) = true)
    (hh : w.cell? ⟨p, 0, none⟩ = some (.slice (some ⟨s, 0, none⟩) n n)) (hi : ix < n) (hr : w.rangeAt bb off cs) (hl : cs.length = 64) (h1 : cs.toArray.all (·.oneCell') = true) (hth : w.there s (ix * 64) 64) (hc : 64 ≤ c)
    (fin : ∀ (e : Nat → Value) w', (fun w' => w' = w.drew.setCells s (ix * 64) cs) w' → (∀ j, j < 10 → e (write11_d j) = write11_v p s n ix bb off c cs j) → Q .normal ⟨#[.pointer (some ⟨p, 0, none⟩), .int .i64 (ix : Int), .slice (some ⟨bb, off, none⟩) 64 c, t3, t4, t5, t6, t7, t8, t9, t10, t11, t12, t13, t14, t15, t16, t17, t18, t19, t20, t21, t22, t23, t24, t25, t26, t27, t28, t29, t30, t31, t32, t33, t34, t35, t36, t37, t38, t39, t40, t41, t42, t43, t44, e 45, e 46, e 47, e 48, e 49, e 50, e 51, e 52, e 53, t54, t55, t56, t57, t58, t59, t60], ds⟩ w') :
    (Code.region id ops true).wp Tryz.prog Q ⟨#[.pointer (some ⟨p, 0, none⟩), .int .i64 (ix : Int), .slice (some ⟨bb, off, none⟩) 64 c, t3, t4, t5, t6, t7, t8, t9, t10, t11, t12, t13, t14, t15, t16, t17, t18, t19, t20, t21, t22, t23, t24, t25, t26, t27, t28, t29, t30, t31, t32, t33, t34, t35, t36, t37, t38, t39, t40, t41, t42, t43, t44, t45, t46, t47, t48, t49, t50, t51, t52, t53, t54, t55, t56, t57, t58, t59, t60], ds⟩ w := by
  have hN : ops.size = 10 := by
    have h1 : (ops.toList.map (fun o => (o.dst, o.op, o.guard))).length = 10 := by rw [htab]; rfl
    simpa using h1
  have rng : ∀ i : Nat, i < 10 → i = 0 ∨ i = 1 ∨ i = 2 ∨ i = 3 ∨ i = 4 ∨ i = 5 ∨ i = 6 ∨ i = 7 ∨ i = 8 ∨ i = 9 := by omega
  have lim : ∀ (i : Nat) (o : Oper), ops[i]? = some o → i < 10 := fun i o ho => by have := (Array.getElem?_eq_some_iff.1 ho).1; omega
  refine wp_region_one 9 10 write11_d (write11_v p s n ix bb off c cs) (fun e => ⟨#[.pointer (some ⟨p, 0, none⟩), .int .i64 (ix : Int), .slice (some ⟨bb, off, none⟩) 64 c, t3, t4, t5, t6, t7, t8, t9, t10, t11, t12, t13, t14, t15, t16, t17, t18, t19, t20, t21, t22, t23, t24, t25, t26, t27, t28, t29, t30, t31, t32, t33, t34, t35, t36, t37, t38, t39, t40, t41, t42, t43, t44, e 45, e 46, e 47, e 48, e 49, e 50, e 51, e 52, e 53, t54, t55, t56, t57, t58, t59, t60], ds⟩) (fun w' => w' = w.drew.setCells s (ix * 64) cs) (fun d => match d with | 45 => t45 | 46 => t46 | 47 => t47 | 48 => t48 | 49 => t49 | 50 => t50 | 51 => t51 | 52 => t52 | 53 => t53 | _ => undef) (by kernel_rfl) hb hN (by decide) ?_ ?_ ?_ ?_ fin
  · intro i j hi hj h
    have : ∀ i, i < 10 → ∀ j, j < 10 → write11_d i = write11_d j → i = j := by decide
    exact this i hi j hj h
  · intro e i o v ho
    obtain rfl | rfl | rfl | rfl | rfl | rfl | rfl | rfl | rfl | rfl := rng i (lim i o ho)
    · obtain ⟨hd, -, -⟩ := rowOf htab ho (d := some 45) (op := Go.Op.move (Go.Operand.tmp 0)) (g := none) rfl
      rw [hd]; rfl
    · obtain ⟨hd, -, -⟩ := rowOf htab ho (d := some 46) (op := Go.Op.nilCheck (Go.Operand.tmp 45)) (g := none) rfl
      rw [hd]; rfl
    · obtain ⟨hd, -, -⟩ := rowOf htab ho (d := some 47) (op := Go.Op.fieldAddr 69 (Go.Operand.tmp 46) 0) (g := none) rfl
      rw [hd]; rfl
    · obtain ⟨hd, -, -⟩ := rowOf htab ho (d := some 48) (op := Go.Op.load 67 (Go.Operand.tmp 47)) (g := none) rfl
      rw [hd]; rfl
    · obtain ⟨hd, -, -⟩ := rowOf htab ho (d := some 49) (op := Go.Op.move (Go.Operand.tmp 1)) (g := none) rfl
      rw [hd]; rfl
    · obtain ⟨hd, -, -⟩ := rowOf htab ho (d := some 50) (op := Go.Op.move (Go.Operand.tmp 2)) (g := none) rfl
      rw [hd]; rfl
    · obtain ⟨hd, -, -⟩ := rowOf htab ho (d := some 51) (op := Go.Op.sliceToArrayPointer 176 (Go.Operand.tmp 50)) (g := none) rfl
      rw [hd]; rfl
    · obtain ⟨hd, -, -⟩ := rowOf htab ho (d := some 52) (op := Go.Op.load 176 (Go.Operand.tmp 51)) (g := none) rfl
      rw [hd]; rfl
    · obtain ⟨hd, -, -⟩ := rowOf htab ho (d := some 53) (op := Go.Op.indexAddr 67 (Go.Operand.tmp 48) (Go.Operand.tmp 49)) (g := none) rfl
      rw [hd]; rfl
    · obtain ⟨hd, -, -⟩ := rowOf htab ho (d := none) (op := Go.Op.store 176 (Go.Operand.tmp 53) (Go.Operand.tmp 52)) (g := none) rfl
      rw [hd]; rfl
  · intro L i o e w' ho hne hL hpre hv hcl h0 hR K hK
    have hp : ∀ j, (i, j) ∈ write11_pre → L j = true := fun j hj => predsB_spec (List.all_eq_true.1 hpt _ hj) ho hpre
    have cl : ∀ a b, (a, b) ∈ write11_pre → L a = true → L b = true := fun a b hab ha => by
      have hlt : a < ops.size := by
        have : ∀ p ∈ write11_pre, p.1 < 10 := by decide
        have := this _ hab
        omega
      exact predsB_spec (List.all_eq_true.1 hpt _ hab) (Array.getElem?_eq_getElem hlt) (hcl a _ (Array.getElem?_eq_getElem hlt) ha)
    obtain rfl | rfl | rfl | rfl | rfl | rfl | rfl | rfl | rfl | rfl := rng i (lim i o ho)
    · obtain ⟨hd, hop, hg⟩ := rowOf htab ho (d := some 45) (op := Go.Op.move (Go.Operand.tmp 0)) (g := none) rfl
      have a0 : Act.eval ⟨#[.pointer (some ⟨p, 0, none⟩), .int .i64 (ix : Int), .slice (some ⟨bb, off, none⟩) 64 c, t3, t4, t5, t6, t7, t8, t9, t10, t11, t12, t13, t14, t15, t16, t17, t18, t19, t20, t21, t22, t23, t24, t25, t26, t27, t28, t29, t30, t31, t32, t33, t34, t35, t36, t37, t38, t39, t40, t41, t42, t43, t44, e 45, e 46, e 47, e 48, e 49, e 50, e 51, e 52, e 53, t54, t55, t56, t57, t58, t59, t60], ds⟩ (.tmp 0) = .pointer (some ⟨p, 0, none⟩) := rfl
      have hLc : L 9 = false := by
        cases hc : L 9 with
        | false => rfl
        | true => exact absurd (cl 9 0 (by decide) (hc)) (by rw [hL]; decide)
      obtain rfl := h0 hLc
      have hr : (execOp (Act.eval ⟨#[.pointer (some ⟨p, 0, none⟩), .int .i64 (ix : Int), .slice (some ⟨bb, off, none⟩) 64 c, t3, t4, t5, t6, t7, t8, t9, t10, t11, t12, t13, t14, t15, t16, t17, t18, t19, t20, t21, t22, t23, t24, t25, t26, t27, t28, t29, t30, t31, t32, t33, t34, t35, t36, t37, t38, t39, t40, t41, t42, t43, t44, e 45, e 46, e 47, e 48, e 49, e 50, e 51, e 52, e 53, t54, t55, t56, t57, t58, t59, t60], ds⟩) o).run Tryz.prog w.drew = .ok (.value (.pointer (some ⟨p, 0, none⟩))) w.drew := by
        unfold execOp; rw [hop]; simp only [a0]; go_simp
      exact wpOp_bare ho hg (Oper.wp_value hr hK)
    · obtain ⟨hd, hop, hg⟩ := rowOf htab ho (d := some 46) (op := Go.Op.nilCheck (Go.Operand.tmp 45)) (g := none) rfl
      have l0 : L 0 = true := hp 0 (by decide)
      have a45 : Act.eval ⟨#[.pointer (some ⟨p, 0, none⟩), .int .i64 (ix : Int), .slice (some ⟨bb, off, none⟩) 64 c, t3, t4, t5, t6, t7, t8, t9, t10, t11, t12, t13, t14, t15, t16, t17, t18, t19, t20, t21, t22, t23, t24, t25, t26, t27, t28, t29, t30, t31, t32, t33, t34, t35, t36, t37, t38, t39, t40, t41, t42, t43, t44, e 45, e 46, e 47, e 48, e 49, e 50, e 51, e 52, e 53, t54, t55, t56, t57, t58, t59, t60], ds⟩ (.tmp 45) = .pointer (some ⟨p, 0, none⟩) := (show Act.eval ⟨#[.pointer (some ⟨p, 0, none⟩), .int .i64 (ix : Int), .slice (some ⟨bb, off, none⟩) 64 c, t3, t4, t5, t6, t7, t8, t9, t10, t11, t12, t13, t14, t15, t16, t17, t18, t19, t20, t21, t22, t23, t24, t25, t26, t27, t28, t29, t30, t31, t32, t33, t34, t35, t36, t37, t38, t39, t40, t41, t42, t43, t44, e 45, e 46, e 47, e 48, e 49, e 50, e 51, e 52, e 53, t54, t55, t56, t57, t58, t59, t60], ds⟩ (.tmp 45) = e 45 from rfl).trans (hv 0 (by decide) l0)
      have hLc : L 9 = false := by
        cases hc : L 9 with
        | false => rfl
        | true => exact absurd (cl 9 1 (by decide) (hc)) (by rw [hL]; decide)
      obtain rfl := h0 hLc
      have hr : (execOp (Act.eval ⟨#[.pointer (some ⟨p, 0, none⟩), .int .i64 (ix : Int), .slice (some ⟨bb, off, none⟩) 64 c, t3, t4, t5, t6, t7, t8, t9, t10, t11, t12, t13, t14, t15, t16, t17, t18, t19, t20, t21, t22, t23, t24, t25, t26, t27, t28, t29, t30, t31, t32, t33, t34, t35, t36, t37, t38, t39, t40, t41, t42, t43, t44, e 45, e 46, e 47, e 48, e 49, e 50, e 51, e 52, e 53, t54, t55, t56, t57, t58, t59, t60], ds⟩) o).run Tryz.prog w.drew = .ok (.value (.pointer (some ⟨p, 0, none⟩))) w.drew := by
        unfold execOp; rw [hop]; simp only [a45]; go_simp
      exact wpOp_bare ho hg (Oper.wp_value hr hK)
    · obtain ⟨hd, hop, hg⟩ := rowOf htab ho (d := some 47) (op := Go.Op.fieldAddr 69 (Go.Operand.tmp 46) 0) (g := none) rfl
      have l1 : L 1 = true := hp 1 (by decide)
      have a46 : Act.eval ⟨#[.pointer (some ⟨p, 0, none⟩), .int .i64 (ix : Int), .slice (some ⟨bb, off, none⟩) 64 c, t3, t4, t5, t6, t7, t8, t9, t10, t11, t12, t13, t14, t15, t16, t17, t18, t19, t20, t21, t22, t23, t24, t25, t26, t27, t28, t29, t30, t31, t32, t33, t34, t35, t36, t37, t38, t39, t40, t41, t42, t43, t44, e 45, e 46, e 47, e 48, e 49, e 50, e 51, e 52, e 53, t54, t55, t56, t57, t58, t59, t60], ds⟩ (.tmp 46) = .pointer (some ⟨p, 0, none⟩) := (show Act.eval ⟨#[.pointer (some ⟨p, 0, none⟩), .int .i64 (ix : Int), .slice (some ⟨bb, off, none⟩) 64 c, t3, t4, t5, t6, t7, t8, t9, t10, t11, t12, t13, t14, t15, t16, t17, t18, t19, t20, t21, t22, t23, t24, t25, t26, t27, t28, t29, t30, t31, t32, t33, t34, t35, t36, t37, t38, t39, t40, t41, t42, t43, t44, e 45, e 46, e 47, e 48, e 49, e 50, e 51, e 52, e 53, t54, t55, t56, t57, t58, t59, t60], ds⟩ (.tmp 46) = e 46 from rfl).trans (hv 1 (by decide) l1)
      have hLc : L 9 = false := by
        cases hc : L 9 with
        | false => rfl
        | true => exact absurd (cl 9 2 (by decide) (hc)) (by rw [hL]; decide)
      obtain rfl := h0 hLc
      have hr : (execOp (Act.eval ⟨#[.pointer (some ⟨p, 0, none⟩), .int .i64 (ix : Int), .slice (some ⟨bb, off, none⟩) 64 c, t3, t4, t5, t6, t7, t8, t9, t10, t11, t12, t13, t14, t15, t16, t17, t18, t19, t20, t21, t22, t23, t24, t25, t26, t27, t28, t29, t30, t31, t32, t33, t34, t35, t36, t37, t38, t39, t40, t41, t42, t43, t44, e 45, e 46, e 47, e 48, e 49, e 50, e 51, e 52, e 53, t54, t55, t56, t57, t58, t59, t60], ds⟩) o).run Tryz.prog w.drew = .ok (.value (.pointer (some ⟨p, 0, none⟩))) w.drew := by
        unfold execOp; rw [hop]; simp only [a46]; go_simp
      exact wpOp_bare ho hg (Oper.wp_value hr hK)
    · obtain ⟨hd, hop, hg⟩ := rowOf htab ho (d := some 48) (op := Go.Op.load 67 (Go.Operand.tmp 47)) (g := none) rfl
      have l2 : L 2 = true := hp 2 (by decide)
      have a47 : Act.eval ⟨#[.pointer (some ⟨p, 0, none⟩), .int .i64 (ix : Int), .slice (some ⟨bb, off, none⟩) 64 c, t3, t4, t5, t6, t7, t8, t9, t10, t11, t12, t13, t14, t15, t16, t17, t18, t19, t20, t21, t22, t23, t24, t25, t26, t27, t28, t29, t30, t31, t32, t33, t34, t35, t36, t37, t38, t39, t40, t41, t42, t43, t44, e 45, e 46, e 47, e 48, e 49, e 50, e 51, e 52, e 53, t54, t55, t56, t57, t58, t59, t60], ds⟩ (.tmp 47) = .pointer (some ⟨p, 0, none⟩) := (show Act.eval ⟨#[.pointer (some ⟨p, 0, none⟩), .int .i64 (ix : Int), .slice (some ⟨bb, off, none⟩) 64 c, t3, t4, t5, t6, t7, t8, t9, t10, t11, t12, t13, t14, t15, t16, t17, t18, t19, t20, t21, t22, t23, t24, t25, t26, t27, t28, t29, t30, t31, t32, t33, t34, t35, t36, t37, t38, t39, t40, t41, t42, t43, t44, e 45, e 46, e 47, e 48, e 49, e 50, e 51, e 52, e 53, t54, t55, t56, t57, t58, t59, t60], ds⟩ (.tmp 47) = e 47 from rfl).trans (hv 2 (by decide) l2)
      have hLc : L 9 = false := by
        cases hc : L 9 with
        | false => rfl
        | true => exact absurd (cl 9 3 (by decide) (hc)) (by rw [hL]; decide)
      obtain rfl := h0 hLc
      have hr : (execOp (Act.eval ⟨#[.pointer (some ⟨p, 0, none⟩), .int .i64 (ix : Int), .slice (some ⟨bb, off, none⟩) 64 c, t3, t4, t5, t6, t7, t8, t9, t10, t11, t12, t13, t14, t15, t16, t17, t18, t19, t20, t21, t22, t23, t24, t25, t26, t27, t28, t29, t30, t31, t32, t33, t34, t35, t36, t37, t38, t39, t40, t41, t42, t43, t44, e 45, e 46, e 47, e 48, e 49, e 50, e 51, e 52, e 53, t54, t55, t56, t57, t58, t59, t60], ds⟩) o).run Tryz.prog w.drew = .ok (.value (.slice (some ⟨s, 0, none⟩) n n)) w.drew := by
        have hh2 : w.drew.cell? ⟨p, 0, none⟩ = some (.slice (some ⟨s, 0, none⟩) n n) := hh
        unfold execOp; rw [hop]; simp only [a47]; go_simp
      exact wpOp_bare ho hg (Oper.wp_value hr hK)
    · obtain ⟨hd, hop, hg⟩ := rowOf htab ho (d := some 49) (op := Go.Op.move (Go.Operand.tmp 1)) (g := none) rfl
      have a1 : Act.eval ⟨#[.pointer (some ⟨p, 0, none⟩), .int .i64 (ix : Int), .slice (some ⟨bb, off, none⟩) 64 c, t3, t4, t5, t6, t7, t8, t9, t10, t11, t12, t13, t14, t15, t16, t17, t18, t19, t20, t21, t22, t23, t24, t25, t26, t27, t28, t29, t30, t31, t32, t33, t34, t35, t36, t37, t38, t39, t40, t41, t42, t43, t44, e 45, e 46, e 47, e 48, e 49, e 50, e 51, e 52, e 53, t54, t55, t56, t57, t58, t59, t60], ds⟩ (.tmp 1) = .int .i64 (ix : Int) := rfl
      have hLc : L 9 = false := by
        cases hc : L 9 with
        | false => rfl
        | true => exact absurd (cl 9 4 (by decide) (hc)) (by rw [hL]; decide)
      obtain rfl := h0 hLc
      have hr : (execOp (Act.eval ⟨#[.pointer (some ⟨p, 0, none⟩), .int .i64 (ix : Int), .slice (some ⟨bb, off, none⟩) 64 c, t3, t4, t5, t6, t7, t8, t9, t10, t11, t12, t13, t14, t15, t16, t17, t18, t19, t20, t21, t22, t23, t24, t25, t26, t27, t28, t29, t30, t31, t32, t33, t34, t35, t36, t37, t38, t39, t40, t41, t42, t43, t44, e 45, e 46, e 47, e 48, e 49, e 50, e 51, e 52, e 53, t54, t55, t56, t57, t58, t59, t60], ds⟩) o).run Tryz.prog w.drew = .ok (.value (.int .i64 (ix : Int))) w.drew := by
        unfold execOp; rw [hop]; simp only [a1]; go_simp
      exact wpOp_bare ho hg (Oper.wp_value hr hK)
    · obtain ⟨hd, hop, hg⟩ := rowOf htab ho (d := some 50) (op := Go.Op.move (Go.Operand.tmp 2)) (g := none) rfl
      have a2 : Act.eval ⟨#[.pointer (some ⟨p, 0, none⟩), .int .i64 (ix : Int), .slice (some ⟨bb, off, none⟩) 64 c, t3, t4, t5, t6, t7, t8, t9, t10, t11, t12, t13, t14, t15, t16, t17, t18, t19, t20, t21, t22, t23, t24, t25, t26, t27, t28, t29, t30, t31, t32, t33, t34, t35, t36, t37, t38, t39, t40, t41, t42, t43, t44, e 45, e 46, e 47, e 48, e 49, e 50, e 51, e 52, e 53, t54, t55, t56, t57, t58, t59, t60], ds⟩ (.tmp 2) = .slice (some ⟨bb, off, none⟩) 64 c := rfl
      have hLc : L 9 = false := by
        cases hc : L 9 with
        | false => rfl
        | true => exact absurd (cl 9 5 (by decide) (hc)) (by rw [hL]; decide)
      obtain rfl := h0 hLc
      have hr : (execOp (Act.eval ⟨#[.pointer (some ⟨p, 0, none⟩), .int .i64 (ix : Int), .slice (some ⟨bb, off, none⟩) 64 c, t3, t4, t5, t6, t7, t8, t9, t10, t11, t12, t13, t14, t15, t16, t17, t18, t19, t20, t21, t22, t23, t24, t25, t26, t27, t28, t29, t30, t31, t32, t33, t34, t35, t36, t37, t38, t39, t40, t41, t42, t43, t44, e 45, e 46, e 47, e 48, e 49, e 50, e 51, e 52, e 53, t54, t55, t56, t57, t58, t59, t60], ds⟩) o).run Tryz.prog w.drew = .ok (.value (.slice (some ⟨bb, off, none⟩) 64 c)) w.drew := by
        unfold execOp; rw [hop]; simp only [a2]; go_simp
      exact wpOp_bare ho hg (Oper.wp_value hr hK)
    · obtain ⟨hd, hop, hg⟩ := rowOf htab ho (d := some 51) (op := Go.Op.sliceToArrayPointer 176 (Go.Operand.tmp 50)) (g := none) rfl
      have l5 : L 5 = true := hp 5 (by decide)
      have a50 : Act.eval ⟨#[.pointer (some ⟨p, 0, none⟩), .int .i64 (ix : Int), .slice (some ⟨bb, off, none⟩) 64 c, t3, t4, t5, t6, t7, t8, t9, t10, t11, t12, t13, t14, t15, t16, t17, t18, t19, t20, t21, t22, t23, t24, t25, t26, t27, t28, t29, t30, t31, t32, t33, t34, t35, t36, t37, t38, t39, t40, t41, t42, t43, t44, e 45, e 46, e 47, e 48, e 49, e 50, e 51, e 52, e 53, t54, t55, t56, t57, t58, t59, t60], ds⟩ (.tmp 50) = .slice (some ⟨bb, off, none⟩) 64 c := (show Act.eval ⟨#[.pointer (some ⟨p, 0, none⟩), .int .i64 (ix : Int), .slice (some ⟨bb, off, none⟩) 64 c, t3, t4, t5, t6, t7, t8, t9, t10, t11, t12, t13, t14, t15, t16, t17, t18, t19, t20, t21, t22, t23, t24, t25, t26, t27, t28, t29, t30, t31, t32, t33, t34, t35, t36, t37, t38, t39, t40, t41, t42, t43, t44, e 45, e 46, e 47, e 48, e 49, e 50, e 51, e 52, e 53, t54, t55, t56, t57, t58, t59, t60], ds⟩ (.tmp 50) = e 50 from rfl).trans (hv 5 (by decide) l5)
      have hLc : L 9 = false := by
        cases hc : L 9 with
        | false => rfl
        | true => exact absurd (cl 9 6 (by decide) (hc)) (by rw [hL]; decide)
      obtain rfl := h0 hLc
      have hr : (execOp (Act.eval ⟨#[.pointer (some ⟨p, 0, none⟩), .int .i64 (ix : Int), .slice (some ⟨bb, off, none⟩) 64 c, t3, t4, t5, t6, t7, t8, t9, t10, t11, t12, t13, t14, t15, t16, t17, t18, t19, t20, t21, t22, t23, t24, t25, t26, t27, t28, t29, t30, t31, t32, t33, t34, t35, t36, t37, t38, t39, t40, t41, t42, t43, t44, e 45, e 46, e 47, e 48, e 49, e 50, e 51, e 52, e 53, t54, t55, t56, t57, t58, t59, t60], ds⟩) o).run Tryz.prog w.drew = .ok (.value (.pointer (some ⟨bb, off, none⟩))) w.drew := by
        have hat := run_arrayAt (P := Tryz.prog) w.drew 176 _ 64 (some ⟨bb, off, none⟩) 64 c Tryz.underlying176 (Nat.le_refl _)
        unfold execOp; rw [hop]; simp only [a50]; simp only [Sem.run_bind, hat, Result.andThen_ok]; rfl
      exact wpOp_bare ho hg (Oper.wp_value hr hK)
    · obtain ⟨hd, hop, hg⟩ := rowOf htab ho (d := some 52) (op := Go.Op.load 176 (Go.Operand.tmp 51)) (g := none) rfl
      have l6 : L 6 = true := hp 6 (by decide)
      have a51 : Act.eval ⟨#[.pointer (some ⟨p, 0, none⟩), .int .i64 (ix : Int), .slice (some ⟨bb, off, none⟩) 64 c, t3, t4, t5, t6, t7, t8, t9, t10, t11, t12, t13, t14, t15, t16, t17, t18, t19, t20, t21, t22, t23, t24, t25, t26, t27, t28, t29, t30, t31, t32, t33, t34, t35, t36, t37, t38, t39, t40, t41, t42, t43, t44, e 45, e 46, e 47, e 48, e 49, e 50, e 51, e 52, e 53, t54, t55, t56, t57, t58, t59, t60], ds⟩ (.tmp 51) = .pointer (some ⟨bb, off, none⟩) := (show Act.eval ⟨#[.pointer (some ⟨p, 0, none⟩), .int .i64 (ix : Int), .slice (some ⟨bb, off, none⟩) 64 c, t3, t4, t5, t6, t7, t8, t9, t10, t11, t12, t13, t14, t15, t16, t17, t18, t19, t20, t21, t22, t23, t24, t25, t26, t27, t28, t29, t30, t31, t32, t33, t34, t35, t36, t37, t38, t39, t40, t41, t42, t43, t44, e 45, e 46, e 47, e 48, e 49, e 50, e 51, e 52, e 53, t54, t55, t56, t57, t58, t59, t60], ds⟩ (.tmp 51) = e 51 from rfl).trans (hv 6 (by decide) l6)
      have hLc : L 9 = false := by
        cases hc : L 9 with
        | false => rfl
        | true => exact absurd (cl 9 7 (by decide) (hc)) (by rw [hL]; decide)
      obtain rfl := h0 hLc
      have hr : (execOp (Act.eval ⟨#[.pointer (some ⟨p, 0, none⟩), .int .i64 (ix : Int), .slice (some ⟨bb, off, none⟩) 64 c, t3, t4, t5, t6, t7, t8, t9, t10, t11, t12, t13, t14, t15, t16, t17, t18, t19, t20, t21, t22, t23, t24, t25, t26, t27, t28, t29, t30, t31, t32, t33, t34, t35, t36, t37, t38, t39, t40, t41, t42, t43, t44, e 45, e 46, e 47, e 48, e 49, e 50, e 51, e 52, e 53, t54, t55, t56, t57, t58, t59, t60], ds⟩) o).run Tryz.prog w.drew = .ok (.value (.agg cs.toArray)) w.drew := by
        have hi64 : (Tryz.prog.info? 176).map (·.size) = some cs.length := by rw [hl]; kernel_rfl
        have := run_loadAt_mid (P := Tryz.prog) w.drew bb off 176 cs _ (show w.drew.rangeAt bb off cs from hr) Tryz.underlying176 rfl hi64
        unfold execOp; rw [hop]; simp only [a51]; simp only [Sem.run_bind, this, Result.andThen_ok]; rfl
      exact wpOp_bare ho hg (Oper.wp_value hr hK)
    · obtain ⟨hd, hop, hg⟩ := rowOf htab ho (d := some 53) (op := Go.Op.indexAddr 67 (Go.Operand.tmp 48) (Go.Operand.tmp 49)) (g := none) rfl
      have l3 : L 3 = true := hp 3 (by decide)
      have a48 : Act.eval ⟨#[.pointer (some ⟨p, 0, none⟩), .int .i64 (ix : Int), .slice (some ⟨bb, off, none⟩) 64 c, t3, t4, t5, t6, t7, t8, t9, t10, t11, t12, t13, t14, t15, t16, t17, t18, t19, t20, t21, t22, t23, t24, t25, t26, t27, t28, t29, t30, t31, t32, t33, t34, t35, t36, t37, t38, t39, t40, t41, t42, t43, t44, e 45, e 46, e 47, e 48, e 49, e 50, e 51, e 52, e 53, t54, t55, t56, t57, t58, t59, t60], ds⟩ (.tmp 48) = .slice (some ⟨s, 0, none⟩) n n := (show Act.eval ⟨#[.pointer (some ⟨p, 0, none⟩), .int .i64 (ix : Int), .slice (some ⟨bb, off, none⟩) 64 c, t3, t4, t5, t6, t7, t8, t9, t10, t11, t12, t13, t14, t15, t16, t17, t18, t19, t20, t21, t22, t23, t24, t25, t26, t27, t28, t29, t30, t31, t32, t33, t34, t35, t36, t37, t38, t39, t40, t41, t42, t43, t44, e 45, e 46, e 47, e 48, e 49, e 50, e 51, e 52, e 53, t54, t55, t56, t57, t58, t59, t60], ds⟩ (.tmp 48) = e 48 from rfl).trans (hv 3 (by decide) l3)
      have l4 : L 4 = true := hp 4 (by decide)
      have a49 : Act.eval ⟨#[.pointer (some ⟨p, 0, none⟩), .int .i64 (ix : Int), .slice (some ⟨bb, off, none⟩) 64 c, t3, t4, t5, t6, t7, t8, t9, t10, t11, t12, t13, t14, t15, t16, t17, t18, t19, t20, t21, t22, t23, t24, t25, t26, t27, t28, t29, t30, t31, t32, t33, t34, t35, t36, t37, t38, t39, t40, t41, t42, t43, t44, e 45, e 46, e 47, e 48, e 49, e 50, e 51, e 52, e 53, t54, t55, t56, t57, t58, t59, t60], ds⟩ (.tmp 49) = .int .i64 (ix : Int) := (show Act.eval ⟨#[.pointer (some ⟨p, 0, none⟩), .int .i64 (ix : Int), .slice (some ⟨bb, off, none⟩) 64 c, t3, t4, t5, t6, t7, t8, t9, t10, t11, t12, t13, t14, t15, t16, t17, t18, t19, t20, t21, t22, t23, t24, t25, t26, t27, t28, t29, t30, t31, t32, t33, t34, t35, t36, t37, t38, t39, t40, t41, t42, t43, t44, e 45, e 46, e 47, e 48, e 49, e 50, e 51, e 52, e 53, t54, t55, t56, t57, t58, t59, t60], ds⟩ (.tmp 49) = e 49 from rfl).trans (hv 4 (by decide) l4)
      have hLc : L 9 = false := by
        cases hc : L 9 with
        | false => rfl
        | true => exact absurd (cl 9 8 (by decide) (hc)) (by rw [hL]; decide)
      obtain rfl := h0 hLc
      have hr : (execOp (Act.eval ⟨#[.pointer (some ⟨p, 0, none⟩), .int .i64 (ix : Int), .slice (some ⟨bb, off, none⟩) 64 c, t3, t4, t5, t6, t7, t8, t9, t10, t11, t12, t13, t14, t15, t16, t17, t18, t19, t20, t21, t22, t23, t24, t25, t26, t27, t28, t29, t30, t31, t32, t33, t34, t35, t36, t37, t38, t39, t40, t41, t42, t43, t44, e 45, e 46, e 47, e 48, e 49, e 50, e 51, e 52, e 53, t54, t55, t56, t57, t58, t59, t60], ds⟩) o).run Tryz.prog w.drew = .ok (.value (.pointer (some ⟨s, ix * 64, none⟩))) w.drew := by
        have k0 : (0 : Int) ≤ (ix : Int) := by omega
        have k1 : (ix : Int) < (n : Int) := by omega
        unfold execOp; rw [hop]; simp only [a48, a49]; go_simp
      exact wpOp_bare ho hg (Oper.wp_value hr hK)
    · exact absurd rfl hne
  · intro L o e ho hpre hv hcl K hK
    have hp : ∀ j, (9, j) ∈ write11_pre → L j = true := fun j hj => predsB_spec (List.all_eq_true.1 hpt _ hj) ho hpre
    have cl : ∀ a b, (a, b) ∈ write11_pre → L a = true → L b = true := fun a b hab ha => by
      have hlt : a < ops.size := by
        have : ∀ p ∈ write11_pre, p.1 < 10 := by decide
        have := this _ hab
        omega
      exact predsB_spec (List.all_eq_true.1 hpt _ hab) (Array.getElem?_eq_getElem hlt) (hcl a _ (Array.getElem?_eq_getElem hlt) ha)
    obtain ⟨hd, hop, hg⟩ := rowOf htab ho (d := none) (op := Go.Op.store 176 (Go.Operand.tmp 53) (Go.Operand.tmp 52)) (g := none) rfl
    have l7 : L 7 = true := hp 7 (by decide)
    have a52 : Act.eval ⟨#[.pointer (some ⟨p, 0, none⟩), .int .i64 (ix : Int), .slice (some ⟨bb, off, none⟩) 64 c, t3, t4, t5, t6, t7, t8, t9, t10, t11, t12, t13, t14, t15, t16, t17, t18, t19, t20, t21, t22, t23, t24, t25, t26, t27, t28, t29, t30, t31, t32, t33, t34, t35, t36, t37, t38, t39, t40, t41, t42, t43, t44, e 45, e 46, e 47, e 48, e 49, e 50, e 51, e 52, e 53, t54, t55, t56, t57, t58, t59, t60], ds⟩ (.tmp 52) = .agg cs.toArray := (show Act.eval ⟨#[.pointer (some ⟨p, 0, none⟩), .int .i64 (ix : Int), .slice (some ⟨bb, off, none⟩) 64 c, t3, t4, t5, t6, t7, t8, t9, t10, t11, t12, t13, t14, t15, t16, t17, t18, t19, t20, t21, t22, t23, t24, t25, t26, t27, t28, t29, t30, t31, t32, t33, t34, t35, t36, t37, t38, t39, t40, t41, t42, t43, t44, e 45, e 46, e 47, e 48, e 49, e 50, e 51, e 52, e 53, t54, t55, t56, t57, t58, t59, t60], ds⟩ (.tmp 52) = e 52 from rfl).trans (hv 7 (by decide) l7)
    have l8 : L 8 = true := hp 8 (by decide)
    have a53 : Act.eval ⟨#[.pointer (some ⟨p, 0, none⟩), .int .i64 (ix : Int), .slice (some ⟨bb, off, none⟩) 64 c, t3, t4, t5, t6, t7, t8, t9, t10, t11, t12, t13, t14, t15, t16, t17, t18, t19, t20, t21, t22, t23, t24, t25, t26, t27, t28, t29, t30, t31, t32, t33, t34, t35, t36, t37, t38, t39, t40, t41, t42, t43, t44, e 45, e 46, e 47, e 48, e 49, e 50, e 51, e 52, e 53, t54, t55, t56, t57, t58, t59, t60], ds⟩ (.tmp 53) = .pointer (some ⟨s, ix * 64, none⟩) := (show Act.eval ⟨#[.pointer (some ⟨p, 0, none⟩), .int .i64 (ix : Int), .slice (some ⟨bb, off, none⟩) 64 c, t3, t4, t5, t6, t7, t8, t9, t10, t11, t12, t13, t14, t15, t16, t17, t18, t19, t20, t21, t22, t23, t24, t25, t26, t27, t28, t29, t30, t31, t32, t33, t34, t35, t36, t37, t38, t39, t40, t41, t42, t43, t44, e 45, e 46, e 47, e 48, e 49, e 50, e 51, e 52, e 53, t54, t55, t56, t57, t58, t59, t60], ds⟩ (.tmp 53) = e 53 from rfl).trans (hv 8 (by decide) l8)
    have hi64 : (Tryz.prog.info? 176).map (·.size) = some cs.toArray.size := by rw [List.size_toArray, hl]; kernel_rfl
    refine wpOp_bare ho hg (wp_store_mid 176 (.tmp 53) (.tmp 52) hop s (ix * 64) cs.toArray a53 a52 ?_ hi64 h1 ?_)
    · rw [List.size_toArray, hl]; exact hth
    · exact hK _ rfl
end Go.Proofs.YtchdfogifhfclaaGreatDoor
namespace Go.Proofs.YtchdfogifhfclaaGreatDoor
open Go.RowKit

def WrPost (p s n : Nat) (f : Nat → Nat → UInt8) (wr ix : Nat) (g : Nat → UInt8) (w : World) (e : Ending) (w' : World) : Prop :=
  e = .returned (.int .i64 0) ∧ DiskAt w' p s n (fun i => if i = ix then g else f i) (wr + 1) ∧ Mod (Fd p s) w w'
theorem DiskAt.there {w : World} {p s n : Nat} {f : Nat → Nat → UInt8} {wr : Nat} (h : DiskAt w p s n f wr) {i : Nat} (hi : i < n) : w.there s (i * 64) 64 := by
  obtain ⟨cs, h1, h2, h3⟩ := h.sec
  intro j hj
  exact ⟨by rw [blk_cell h1, h3 i j hi hj]; rfl, blk_free h1 _⟩
theorem DiskAt.put {w : World} {p s n : Nat} {f : Nat → Nat → UInt8} {wr : Nat} (h : DiskAt w p s n f wr) {i : Nat} (hi : i < n) (g : Nat → UInt8) (hw : wr + 1 ≤ 1000) :
    DiskAt ((w.setCells s (i * 64) (secC g)).setCell ⟨p, 1, none⟩ (.int .i64 ((wr + 1 : Nat) : Int))) p s n (fun k => if k = i then g else f k) (wr + 1) := by
  obtain ⟨cs, h1, h2, h3⟩ := h.sec
  have hps : s ≠ p := by
    intro e
    subst e
    have := h1.symm.trans h.head
    injection this with this
    injection this with _ ht
    exact absurd ht (by decide)
  have hh : (w.setCells s (i * 64) (secC g)).heap[p]? = _ := (setCells_other _ _ _ _ _ (Ne.symm hps)).trans h.head
  refine ⟨blk_set hh 1 _, ⟨setL cs (i * 64) (secC g), ?_, by rw [setL_size]; exact h2, fun k j hk hj => ?_⟩, h.small, hw⟩
  · rw [Below.heap_setCell _ _ _ _ (show s ≠ p from hps)]
    exact setCells_heap _ _ _ _ _ _ _ h1
  · by_cases he : k = i
    · subst he
      simp only [if_true]
      rw [setL_in _ _ _ _ (by rw [secC_len, h2]; omega) (by rw [secC_len]; exact hj), secC_at hj]
    · simp only [if_neg he]
      rw [setL_out _ _ _ _ (by rw [secC_len]; omega)]
      exact h3 k j hk hj
theorem DiskAt.ne {w : World} {p s n : Nat} {f : Nat → Nat → UInt8} {wr : Nat} (h : DiskAt w p s n f wr) : s ≠ p := by
  obtain ⟨cs, h1, h2, h3⟩ := h.sec
  intro e
  subst e
  have := h1.symm.trans h.head
  injection this with this
  injection this with _ ht
  exact absurd ht (by decide)
set_option maxRecDepth 100000 in
set_option maxHeartbeats 1000000 in
theorem diskWrite_any (p s n : Nat) (f : Nat → Nat → UInt8) (wr ix : Nat) (g : Nat → UInt8) (bb off c : Nat) (w : World) (h : DiskAt w p s n f wr) (hi : ix < n) (hw : wr + 1 ≤ 1000) (hr : w.rangeAt bb off (secC g)) (hc : 64 ≤ c) :
    Calls Tryz.prog 77 #[.pointer (some ⟨p, 0, none⟩), .int .i64 (ix : Int), .slice (some ⟨bb, off, none⟩) 64 c] w (WrPost p s n f wr ix g w) := by
  have H := Lib.hid h
  have HT := Lib.hid (h.there hi)
  have c0 := blk_cell h.head 0
  have c1 := blk_cell h.head 1
  have c2 := blk_cell h.head 2
  have c3 := blk_cell h.head 3
  have c4 := blk_cell h.head 4
  have HN := Lib.hid h.ne
  obtain ⟨cs, hcs⟩ : ∃ cs, cs = secC g := ⟨_, rfl⟩
  have HR := Lib.hid (hcs ▸ hr)
  have HL := Lib.hid (show cs.length = 64 by rw [hcs]; exact secC_len _)
  have H1 := Lib.hid (show cs.toArray.all (·.oneCell') = true by rw [hcs]; exact secC_one _)
  have HC := Lib.hid hcs
  have HH := Lib.hid c0
  clear h hr hcs
  go_enter Tryz.func77, Tryz.ntmps77
  go_wp2_with fail
  refine (diskFault_any p s n f wr ix _ H.out hi).mono ?_
  rintro e w1 ⟨rfl, rfl⟩
  go_wp2_with fail
  refine write11_at p s n ix bb off c cs (by kernel_rfl) (by kernel_rfl) (by kernel_rfl) HH.out hi HR.out HL.out H1.out HT.out hc ?_
  rintro e w2 rfl he
  have d1 : (w.drew.setCells s (ix * 64) cs).cell? ⟨p, 1, none⟩ = some (.int .i64 (wr : Int)) := (World.cell?_of_block (setCells_other _ _ _ _ _ (Ne.symm HN.out))).trans c1
  have d2 : (w.drew.setCells s (ix * 64) cs).frozen? ⟨p, 1, none⟩ = false := blk_free ((setCells_other cs w.drew s (ix * 64) p (Ne.symm HN.out)).trans (show w.drew.heap[p]? = _ from H.out.head)) 1
  go_wp2_with fail
  go_ret
  refine ⟨rfl, ?_, ?_⟩
  · have := (H.out.keep (w' := w.drew) rfl rfl).put hi g hw
    rw [← HC.out] at this
    exact this.keep rfl rfl
  · exact (((Mod.refl _ w).drew.setCells (fun _ => .inr rfl) _ _).setCell (fun _ => .inl rfl) _)
end Go.Proofs.YtchdfogifhfclaaGreatDoor
namespace Go.Proofs.YtchdfogifhfclaaGreatDoor
open Go.RowKit

/-- A disk at p of 49 sectors, written to at most k times. -/
def DiskOk (w : World) (p s k : Nat) : Prop := ∃ f wr, DiskAt w p s 49 f wr ∧ wr ≤ k
theorem DiskOk.keep {w w' : World} {p s k : Nat} (h : DiskOk w p s k) (hp : w'.heap[p]? = w.heap[p]?) (hs : w'.heap[s]? = w.heap[s]?) : DiskOk w' p s k := by
  obtain ⟨f, wr, h1, h2⟩ := h
  exact ⟨f, wr, h1.keep hp hs, h2⟩
theorem DiskOk.lt {w : World} {p s k : Nat} (h : DiskOk w p s k) : p < w.heap.size ∧ s < w.heap.size := by
  obtain ⟨f, wr, h1, h2⟩ := h
  exact h1.lt
theorem DiskOk.below {w w' : World} {p s k : Nat} (h : DiskOk w p s k) (hb : Below w.heap.size w w') : DiskOk w' p s k := h.keep (hb.block _ h.lt.1) (hb.block _ h.lt.2)
theorem RowB.sec {w : World} {b : Nat} (h : RowB w b 64) : ∃ g, w.rangeAt b 0 (secC g) := by
  obtain ⟨cs, h1, h2, h3⟩ := h
  refine ⟨fun j => if hj : j < 64 then (h3 j hj).choose else 0, fun j v hv => ?_⟩
  have hj : j < 64 := by
    have := (List.getElem?_eq_some_iff.1 hv).1
    rwa [secC_len] at this
  rw [secC_at hj] at hv
  rw [blk_cell h1, Nat.zero_add, (h3 j hj).choose_spec]
  simpa [hj] using hv
def WrOk (p s k : Nat) (w : World) (e : Ending) (w' : World) : Prop := e = .returned (.int .i64 0) ∧ DiskOk w' p s (k + 1) ∧ Mod (Fd p s) w w'
theorem write_any (p s k ix b : Nat) (w : World) (h : DiskOk w p s k) (hk : k < 1000) (hi : ix < 49) (hr : RowB w b 64) : Calls Tryz.prog 77 #[.pointer (some ⟨p, 0, none⟩), .int .i64 (ix : Int), .slice (some ⟨b, 0, none⟩) 64 64] w (WrOk p s k w) := by
  obtain ⟨f, wr, h1, h2⟩ := h
  obtain ⟨g, hg⟩ := hr.sec
  refine (diskWrite_any p s 49 f wr ix g b 0 64 w h1 hi (by omega) hg (Nat.le_refl _)).mono ?_
  rintro e w' ⟨rfl, h3, h4⟩
  exact ⟨rfl, ⟨_, _, h3, by omega⟩, h4⟩
end Go.Proofs.YtchdfogifhfclaaGreatDoor
