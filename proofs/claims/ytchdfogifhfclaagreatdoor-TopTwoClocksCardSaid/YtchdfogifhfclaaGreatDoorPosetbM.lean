/- A region that draws its order, by an invariant over what has come up: each operation is walked once, whatever came up ahead of it.  A region that draws its order, in which every operation but one only reads: each yields a value that is known. -/
import Derived.Orders
import Derived.WalkKit
namespace Go.Proofs.YtchdfogifhfclaaGreatDoor
open Go

section
variable {P : Program} {md : Region.Mode} {ops : Array Oper} {Q : Exit → Act → World → Prop}

theorem cnt_set : ∀ (l : List Bool) (i : Nat), l[i]? = some false → (l.set i true).count false + 1 = l.count false
  | [], _, h => by simp at h
  | x :: l, 0, h => by
    simp at h
    subst h
    simp
  | x :: l, i + 1, h => by
    have := cnt_set l i (by simpa using h)
    rw [List.set_cons_succ, List.count_cons, List.count_cons]
    omega
/-- L with i. -/
def got (L : Nat → Bool) (i : Nat) : Nat → Bool := fun j => L j || j == i
theorem got_self (L : Nat → Bool) (i : Nat) : got L i i = true := by simp [got]
theorem got_ne {L : Nat → Bool} {i j : Nat} (h : j ≠ i) : got L i j = L j := by simp [got, h]
/-- Edges lead back. -/
def backward (md : Region.Mode) (ops : Array Oper) : Bool := (List.range ops.size).all fun i => match ops[i]? with | some o => o.after.all fun e => !Region.binds md e || decide (e.on < i) | none => true
theorem backward_spec (h : backward md ops = true) {i : Nat} {o : Oper} (ho : ops[i]? = some o) : ∀ e ∈ o.after, Region.binds md e = true → e.on < i := by
  intro e he hb
  have hi : i < ops.size := (Array.getElem?_eq_some_iff.1 ho).1
  unfold backward at h
  have h1 := List.all_eq_true.1 h i (List.mem_range.2 hi)
  rw [ho] at h1
  have h2 := Array.all_eq_true'.1 h1 e he
  simpa [hb] using h2
/-- The rule. -/
theorem wpAny_inv (I : (Nat → Bool) → Act → World → Prop) (hb : backward md ops = true)
    (step : ∀ L i o a w, ops[i]? = some o → L i = false → (∀ e ∈ o.after, Region.binds md e = true → L e.on = true) → I L a w → wpOp P ops Q i (I (got L i)) a w)
    (fin : ∀ L a w, (∀ i, i < ops.size → L i = true) → I L a w → Q .normal a w) :
    ∀ (n : Nat) (listed : Array Bool) (a : Act) (w : World) (L : Nat → Bool), listed.size = ops.size → listed.toList.count false ≤ n → (∀ i, i < ops.size → listed[i]? = some (L i)) → I L a w → wpAny P md ops Q n listed a w := by
  have all : ∀ (listed : Array Bool) (L : Nat → Bool), listed.size = ops.size → (∀ i, i < ops.size → listed[i]? = some (L i)) → Region.ready md ops listed = [] → ∀ i, i < ops.size → L i = true := by
    intro listed L hs hl hr i
    induction i using Nat.strongRecOn with
    | ind i ih =>
      intro hi
      apply Classical.byContradiction
      intro hne
      have hf : L i = false := by simpa using hne
      have hmem : i ∈ Region.ready md ops listed := by
        refine mem_ready.2 ⟨?_, ops[i], Array.getElem?_eq_getElem hi, fun e he hbe => ?_⟩
        · rw [Array.getD_eq_getD_getElem?, hl i hi, hf]; rfl
        · have hlt := backward_spec hb (Array.getElem?_eq_getElem hi) e he hbe
          rw [Array.getD_eq_getD_getElem?, hl e.on (by omega), ih e.on hlt (by omega)]; rfl
      rw [hr] at hmem
      cases hmem
  intro n
  induction n with
  | zero =>
    intro listed a w L hs hc hl hI
    have hr : Region.ready md ops listed = [] := by
      cases hr : Region.ready md ops listed with
      | nil => rfl
      | cons x xs =>
        have hx : x ∈ Region.ready md ops listed := by rw [hr]; exact List.mem_cons_self
        obtain ⟨h1, o, ho, _⟩ := mem_ready.1 hx
        have hxs : x < ops.size := (Array.getElem?_eq_some_iff.1 ho).1
        have h2 : listed[x]? = some false := by
          rw [hl x hxs]
          rw [Array.getD_eq_getD_getElem?, hl x hxs] at h1
          simpa using h1
        have h3 : false ∈ listed.toList := by
          rw [← Array.getElem?_toList] at h2
          exact List.mem_of_getElem? h2
        have := List.count_pos_iff.2 h3
        omega
    exact ⟨hr, fin L a w (all listed L hs hl hr) hI⟩
  | succ n ih =>
    intro listed a w L hs hc hl hI
    refine ⟨fun hr => fin L a w (all listed L hs hl hr) hI, fun i hi => ?_⟩
    obtain ⟨h1, o, ho, hpre⟩ := mem_ready.1 hi
    have his : i < ops.size := (Array.getElem?_eq_some_iff.1 ho).1
    have hLi : L i = false := by
      rw [Array.getD_eq_getD_getElem?, hl i his] at h1
      simpa using h1
    refine wpOp_mono (fun a' w' h' => ?_) (step L i o a w ho hLi (fun e he hbe => ?_) hI)
    · refine ih (listed.setIfInBounds i true) a' w' (got L i) (by simpa using hs) ?_ ?_ h'
      · have h2 : listed.toList[i]? = some false := by rw [Array.getElem?_toList, hl i his, hLi]
        have := cnt_set listed.toList i h2
        rw [Array.toList_setIfInBounds]
        omega
      · intro j hj
        rw [Array.getElem?_setIfInBounds]
        by_cases e : i = j
        · subst e
          rw [if_pos rfl, if_pos (by omega), got_self]
        · rw [if_neg e, hl j hj, got_ne (Ne.symm e)]
    · have h3 := hpre e he hbe
      have hlt := backward_spec hb ho e he hbe
      rw [Array.getD_eq_getD_getElem?, hl e.on (by omega)] at h3
      simpa using h3
/-- From the region's start. -/
theorem wp_region_inv {id : Nat} {a : Act} {w : World} (hm : P.follows .mixedOrders = true) (hb : backward .any ops = true) (I : (Nat → Bool) → Act → World → Prop) (h0 : I (fun _ => false) a w.drew)
    (step : ∀ L i o a w, ops[i]? = some o → L i = false → (∀ e ∈ o.after, Region.binds .any e = true → L e.on = true) → I L a w → wpOp P ops Q i (I (got L i)) a w)
    (fin : ∀ L a w, (∀ i, i < ops.size → L i = true) → I L a w → Q .normal a w) : (Code.region id ops true).wp P Q a w := by
  refine wp_region_any hm (wpAny_inv I hb step fin _ _ _ _ (fun _ => false) (by simp) ?_ (fun i hi => by simp [Array.getElem?_replicate, hi]) h0)
  rw [Array.toList_replicate]
  exact Nat.le_trans List.count_le_length (by simp)
/-- An operation without a guard. -/
theorem wpOp_bare {i : Nat} {o : Oper} {K : Act → World → Prop} {a : Act} {w : World} (ho : ops[i]? = some o) (hg : o.guard = none) (h : o.wp P a w K Q) : wpOp P ops Q i K a w := by
  unfold wpOp
  simp only [ho]
  rw [if_pos (by simp [Region.wanted, hg])]
  exact .inl h
theorem Oper.wp_value {o : Oper} {K : Act → World → Prop} {a : Act} {w w' : World} {v : Value} (hr : (execOp a.eval o).run P w = .ok (.value v) w') (h : K (a.put o.dst v) w') : o.wp P a w K Q := by
  unfold Oper.wp
  rw [hr]
  exact h
end
end Go.Proofs.YtchdfogifhfclaaGreatDoor

namespace Go.Proofs.YtchdfogifhfclaaGreatDoor
open Go

def updF (e : Nat → Value) (d : Nat) (v : Value) : Nat → Value := fun j => if j = d then v else e j
section
variable {P : Program} {ops : Array Oper} {Q : Exit → Act → World → Prop}
/-- What has come up has what it waits for. -/
def Closed (ops : Array Oper) (L : Nat → Bool) : Prop := ∀ (j : Nat) (o : Oper), ops[j]? = some o → L j = true → ∀ e ∈ o.after, Region.binds .any e = true → L e.on = true
structure One (c N : Nat) (nd : Nat → Nat) (nv : Nat → Value) (F : (Nat → Value) → Act) (R : World → Prop) (ops : Array Oper) (w0 : World) (L : Nat → Bool) (A : Act) (w : World) : Prop where
  ex : ∃ e, A = F e ∧ ∀ j, j < N → L j = true → e (nd j) = nv j
  w0 : L c = false → w = w0
  wR : L c = true → R w
  closed : Closed ops L
theorem wp_region_one {id : Nat} {w : World} (c N : Nat) (nd : Nat → Nat) (nv : Nat → Value) (F : (Nat → Value) → Act) (R : World → Prop) (e0 : Nat → Value)
    (hm : P.follows .mixedOrders = true) (hb : backward .any ops = true) (hN : ops.size = N) (hc : c < N)
    (hinj : ∀ i j, i < N → j < N → nd i = nd j → i = j)
    (hput : ∀ e i o v, ops[i]? = some o → (F e).put o.dst v = F (updF e (nd i) v))
    (step : ∀ L i o e w', ops[i]? = some o → i ≠ c → L i = false → (∀ d ∈ o.after, Region.binds .any d = true → L d.on = true) → (∀ j, j < N → L j = true → e (nd j) = nv j) → Closed ops L → (L c = false → w' = w.drew) → (L c = true → R w') → ∀ K : Act → World → Prop, K ((F e).put o.dst (nv i)) w' → wpOp P ops Q i K (F e) w')
    (special : ∀ L o e, ops[c]? = some o → (∀ d ∈ o.after, Region.binds .any d = true → L d.on = true) → (∀ j, j < N → L j = true → e (nd j) = nv j) → Closed ops L → ∀ K : Act → World → Prop, (∀ w', R w' → K ((F e).put o.dst (nv c)) w') → wpOp P ops Q c K (F e) w.drew)
    (fin : ∀ e w', R w' → (∀ j, j < N → e (nd j) = nv j) → Q .normal (F e) w') : (Code.region id ops true).wp P Q (F e0) w := by
  refine wp_region_inv hm hb (One c N nd nv F R ops w.drew) ⟨⟨e0, rfl, fun j _ hl => (by cases hl)⟩, fun _ => rfl, fun hl => (by cases hl), fun j o _ hl => (by cases hl)⟩ ?_ ?_
  · intro L i o A w' ho hL hpre hI
    obtain ⟨⟨e, rfl, hv⟩, h0, hR, hcl⟩ := hI
    have hi : i < N := by rw [← hN]; exact (Array.getElem?_eq_some_iff.1 ho).1
    have hcl' : Closed ops (got L i) := by
      intro j oj hj hl d hd hbd
      by_cases ej : j = i
      · subst ej
        rw [ho] at hj
        injection hj with hj
        subst hj
        have := hpre d hd hbd
        simp [got, this]
      · rw [got_ne ej] at hl
        have := hcl j oj hj hl d hd hbd
        simp [got, this]
    have hval : ∀ j, j < N → got L i j = true → updF e (nd i) (nv i) (nd j) = nv j := by
      intro j hj hl
      by_cases ej : j = i
      · subst ej; exact if_pos rfl
      · rw [got_ne ej] at hl
        exact (if_neg (fun en => ej (hinj j i hj hi en))).trans (hv j hj hl)
    by_cases ec : i = c
    · subst ec
      have e1 := h0 hL
      subst e1
      refine special L o e ho hpre hv hcl _ (fun w2 h2 => ?_)
      rw [hput e i o _ ho]
      exact ⟨⟨_, rfl, hval⟩, fun hl => (by rw [got_self] at hl; cases hl), fun _ => h2, hcl'⟩
    · refine step L i o e w' ho ec hL hpre hv hcl h0 hR _ ?_
      rw [hput e i o _ ho]
      exact ⟨⟨_, rfl, hval⟩, fun hl => (by rw [got_ne (Ne.symm ec)] at hl; exact h0 hl), fun hl => (by rw [got_ne (Ne.symm ec)] at hl; exact hR hl), hcl'⟩
  · intro L A w' hall hI
    obtain ⟨⟨e, rfl, hv⟩, h0, hR, hcl⟩ := hI
    rw [hN] at hall
    exact fin e w' (hR (hall c hc)) (fun j hj => hv j hj (hall j hj))
end
def predsB (ops : Array Oper) (i j : Nat) : Bool := match ops[i]? with | some o => o.after.any (fun e => Region.binds .any e && e.on == j) | none => false
theorem predsB_spec {ops : Array Oper} {i j : Nat} {o : Oper} {L : Nat → Bool} (h : predsB ops i j = true) (ho : ops[i]? = some o) (hp : ∀ e ∈ o.after, Region.binds .any e = true → L e.on = true) : L j = true := by
  unfold predsB at h
  rw [ho] at h
  obtain ⟨e, he, hb⟩ := Array.any_eq_true'.1 h
  simp only [Bool.and_eq_true, beq_iff_eq] at hb
  exact hb.2 ▸ hp e he hb.1
theorem rowOf {tab : List (Option Tmp × Op × Option (Nat × Bool))} {ops : Array Oper} (htab : ops.toList.map (fun o => (o.dst, o.op, o.guard)) = tab) {i : Nat} {o : Oper} (ho : ops[i]? = some o) {d : Option Tmp} {op : Op} {g : Option (Nat × Bool)} (hr : tab[i]? = some (d, op, g)) : o.dst = d ∧ o.op = op ∧ o.guard = g := by
  have h : (ops.toList.map (fun o => (o.dst, o.op, o.guard)))[i]? = some (o.dst, o.op, o.guard) := by rw [List.getElem?_map, Array.getElem?_toList, ho]; rfl
  rw [htab, hr] at h
  injection h with h
  injection h with h1 h2
  injection h2 with h2 h3
  exact ⟨h1.symm, h2.symm, h3.symm⟩
theorem Oper.wp_skip' {P : Program} {Q : Exit → Act → World → Prop} {o : Oper} {K : Act → World → Prop} {a : Act} {w w' : World} (hr : (execOp a.eval o).run P w = .ok .skip w') (h : K (a.put o.dst undef) w') : o.wp P a w K Q := by
  unfold Oper.wp
  rw [hr]
  exact h
end Go.Proofs.YtchdfogifhfclaaGreatDoor

