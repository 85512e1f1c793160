/- A region that draws its order, by an invariant over what has come up: each operation is walked once, whatever came up ahead of it.  The reckoner: a region that draws: what came up in which order.  The reckoner: a region that draws: what is known whatever has come up.  The reckoner: a region that draws: an operation meets what it was played on.  The reckoner: a region that draws: from one state to the next.  The reckoner: a region that draws: one operation more.  The reckoner: regions that draw go well.  The reckoner: regions that draw, whole.  The reckoner: code and calls that end in a panic. -/
import Derived.Orders
import Derived.WalkKit
import Derived.Test.YtphfekkllibphaaGreatDoorEvDM
namespace Go.Proofs.YtphfekkllibphaaGreatDoor
open Go

section
variable {P : Program} {md : Region.Mode} {ops : Array Oper} {Q : Exit → Act → World → Prop}

theorem cnt_set : ∀ (l : List Bool) (i : Nat), l[i]? = some false → (l.set i true).count false + 1 = l.count false
  | [], _, h => by simp at h
  | x :: l, 0, h => by
    simp at h
    subst h
    simp
  | x :: l, i + 1, h => by
    have := cnt_set l i (by simpa using h)
    rw [List.set_cons_succ, List.count_cons, List.count_cons]
    omega
/-- L with i. -/
def got (L : Nat → Bool) (i : Nat) : Nat → Bool := fun j => L j || j == i
theorem got_self (L : Nat → Bool) (i : Nat) : got L i i = true := by simp [got]
theorem got_ne {L : Nat → Bool} {i j : Nat} (h : j ≠ i) : got L i j = L j := by simp [got, h]
/-- Edges lead back. -/
def backward (md : Region.Mode) (ops : Array Oper) : Bool := (List.range ops.size).all fun i => match ops[i]? with | some o => o.after.all fun e => !Region.binds md e || decide (e.on < i) | none => true
theorem backward_spec (h : backward md ops = true) {i : Nat} {o : Oper} (ho : ops[i]? = some o) : ∀ e ∈ o.after, Region.binds md e = true → e.on < i := by
  intro e he hb
  have hi : i < ops.size := (Array.getElem?_eq_some_iff.1 ho).1
  unfold backward at h
  have h1 := List.all_eq_true.1 h i (List.mem_range.2 hi)
  rw [ho] at h1
  have h2 := Array.all_eq_true'.1 h1 e he
  simpa [hb] using h2
/-- The rule. -/
theorem wpAny_inv (I : (Nat → Bool) → Act → World → Prop) (hb : backward md ops = true)
    (step : ∀ L i o a w, ops[i]? = some o → L i = false → (∀ e ∈ o.after, Region.binds md e = true → L e.on = true) → I L a w → wpOp P ops Q i (I (got L i)) a w)
    (fin : ∀ L a w, (∀ i, i < ops.size → L i = true) → I L a w → Q .normal a w) :
    ∀ (n : Nat) (listed : Array Bool) (a : Act) (w : World) (L : Nat → Bool), listed.size = ops.size → listed.toList.count false ≤ n → (∀ i, i < ops.size → listed[i]? = some (L i)) → I L a w → wpAny P md ops Q n listed a w := by
  have all : ∀ (listed : Array Bool) (L : Nat → Bool), listed.size = ops.size → (∀ i, i < ops.size → listed[i]? = some (L i)) → Region.ready md ops listed = [] → ∀ i, i < ops.size → L i = true := by
    intro listed L hs hl hr i
    induction i using Nat.strongRecOn with
    | ind i ih =>
      intro hi
      apply Classical.byContradiction
      intro hne
      have hf : L i = false := by simpa using hne
      have hmem : i ∈ Region.ready md ops listed := by
        refine mem_ready.2 ⟨?_, ops[i], Array.getElem?_eq_getElem hi, fun e he hbe => ?_⟩
        · rw [Array.getD_eq_getD_getElem?, hl i hi, hf]; rfl
        · have hlt := backward_spec hb (Array.getElem?_eq_getElem hi) e he hbe
          rw [Array.getD_eq_getD_getElem?, hl e.on (by omega), ih e.on hlt (by omega)]; rfl
      rw [hr] at hmem
      cases hmem
  intro n
  induction n with
  | zero =>
    intro listed a w L hs hc hl hI
    have hr : Region.ready md ops listed = [] := by
      cases hr : Region.ready md ops listed with
      | nil => rfl
      | cons x xs =>
        have hx : x ∈ Region.ready md ops listed := by rw [hr]; exact List.mem_cons_self
        obtain ⟨h1, o, ho, _⟩ := mem_ready.1 hx
        have hxs : x < ops.size := (Array.getElem?_eq_some_iff.1 ho).1
        have h2 : listed[x]? = some false := by
          rw [hl x hxs]
          rw [Array.getD_eq_getD_getElem?, hl x hxs] at h1
          simpa using h1
        have h3 : false ∈ listed.toList := by
          rw [← Array.getElem?_toList] at h2
          exact List.mem_of_getElem? h2
        have := List.count_pos_iff.2 h3
        omega
    exact ⟨hr, fin L a w (all listed L hs hl hr) hI⟩
  | succ n ih =>
    intro listed a w L hs hc hl hI
    refine ⟨fun hr => fin L a w (all listed L hs hl hr) hI, fun i hi => ?_⟩
    obtain ⟨h1, o, ho, hpre⟩ := mem_ready.1 hi
    have his : i < ops.size := (Array.getElem?_eq_some_iff.1 ho).1
    have hLi : L i = false := by
      rw [Array.getD_eq_getD_getElem?, hl i his] at h1
      simpa using h1
    refine wpOp_mono (fun a' w' h' => ?_) (step L i o a w ho hLi (fun e he hbe => ?_) hI)
    · refine ih (listed.setIfInBounds i true) a' w' (got L i) (by simpa using hs) ?_ ?_ h'
      · have h2 : listed.toList[i]? = some false := by rw [Array.getElem?_toList, hl i his, hLi]
        have := cnt_set listed.toList i h2
        rw [Array.toList_setIfInBounds]
        omega
      · intro j hj
        rw [Array.getElem?_setIfInBounds]
        by_cases e : i = j
        · subst e
          rw [if_pos rfl, if_pos (by omega), got_self]
        · rw [if_neg e, hl j hj, got_ne (Ne.symm e)]
    · have h3 := hpre e he hbe
      have hlt := backward_spec hb ho e he hbe
      rw [Array.getD_eq_getD_getElem?, hl e.on (by omega)] at h3
      simpa using h3
/-- From the region's start. -/
theorem wp_region_inv {id : Nat} {a : Act} {w : World} (hm : P.follows .mixedOrders = true) (hb : backward .any ops = true) (I : (Nat → Bool) → Act → World → Prop) (h0 : I (fun _ => false) a w.drew)
    (step : ∀ L i o a w, ops[i]? = some o → L i = false → (∀ e ∈ o.after, Region.binds .any e = true → L e.on = true) → I L a w → wpOp P ops Q i (I (got L i)) a w)
    (fin : ∀ L a w, (∀ i, i < ops.size → L i = true) → I L a w → Q .normal a w) : (Code.region id ops true).wp P Q a w := by
  refine wp_region_any hm (wpAny_inv I hb step fin _ _ _ _ (fun _ => false) (by simp) ?_ (fun i hi => by simp [Array.getElem?_replicate, hi]) h0)
  rw [Array.toList_replicate]
  exact Nat.le_trans List.count_le_length (by simp)
/-- An operation without a guard. -/
theorem wpOp_bare {i : Nat} {o : Oper} {K : Act → World → Prop} {a : Act} {w : World} (ho : ops[i]? = some o) (hg : o.guard = none) (h : o.wp P a w K Q) : wpOp P ops Q i K a w := by
  unfold wpOp
  simp only [ho]
  rw [if_pos (by simp [Region.wanted, hg])]
  exact .inl h
theorem Oper.wp_value {o : Oper} {K : Act → World → Prop} {a : Act} {w w' : World} {v : Value} (hr : (execOp a.eval o).run P w = .ok (.value v) w') (h : K (a.put o.dst v) w') : o.wp P a w K Q := by
  unfold Oper.wp
  rw [hr]
  exact h
end
end Go.Proofs.YtphfekkllibphaaGreatDoor

namespace Go.Proofs.YtphfekkllibphaaGreatDoor.Ev
open Go Go.RowKit

/-- What the bits tell. -/
def BitsOK (ops : Array Oper) (bm : List Nat) : Prop := ∀ j i, (bm.getD j 0).testBit i = true → ∃ o e, ops[j]? = some o ∧ e ∈ o.after ∧ Region.binds .any e = true ∧ (e.on = i ∨ (e.on < j ∧ (bm.getD e.on 0).testBit i = true))
theorem aheadOf_ok (acc : List Nat) (i : Nat) : ∀ es : List Edge, (aheadOf acc es).testBit i = true → ∃ e ∈ es, Region.binds .any e = true ∧ (e.on = i ∨ (acc.getD e.on 0).testBit i = true) := by
  intro es
  induction es with
  | nil =>
    intro h
    have h : Nat.testBit 0 i = true := h
    rw [Nat.zero_testBit] at h
    cases h
  | cons e es ih =>
    intro h
    have e1 : aheadOf acc (e :: es) = (Region.binds .any e).rec (aheadOf acc es) (Nat.lor (aheadOf acc es) (Nat.lor (Nat.shiftLeft 1 e.on) (acc.getD e.on 0))) := rfl
    rw [e1] at h
    cases hb : Region.binds .any e with
    | false =>
      rw [hb] at h
      obtain ⟨e', h1, h2⟩ := ih h
      exact ⟨e', List.mem_cons_of_mem _ h1, h2⟩
    | true =>
      rw [hb] at h
      have h : (aheadOf acc es ||| ((1 <<< e.on) ||| acc.getD e.on 0)).testBit i = true := h
      rw [Nat.testBit_or, Nat.testBit_or, Bool.or_eq_true, Bool.or_eq_true] at h
      rcases h with h | h | h
      · obtain ⟨e', h1, h2⟩ := ih h
        exact ⟨e', List.mem_cons_of_mem _ h1, h2⟩
      · refine ⟨e, List.mem_cons_self, hb, .inl ?_⟩
        rw [Nat.one_shiftLeft, Nat.testBit_two_pow] at h
        simpa using h
      · exact ⟨e, List.mem_cons_self, hb, .inr h⟩
theorem getD_lt {acc : List Nat} {j i : Nat} (h : (acc.getD j 0).testBit i = true) : j < acc.length := by
  apply Classical.byContradiction
  intro hj
  rw [List.getD_eq_getElem?_getD, List.getElem?_eq_none (by omega)] at h
  rw [Option.getD_none, Nat.zero_testBit] at h
  cases h
theorem befK_ok {ops : Array Oper} {K : List Nat → Bool} : ∀ (l : List Oper) (acc : List Nat), ops.toList.drop acc.length = l → BitsOK ops acc → befK l acc K = true → ∃ bm, BitsOK ops bm ∧ K bm = true := by
  intro l
  induction l with
  | nil => exact fun acc _ h hk => ⟨acc, h, hk⟩
  | cons o l ih =>
    intro acc hl hB hk
    replace hk : forceN (aheadOf acc o.after.toList) (fun m => befK l (acc ++ [m]) K) = true := hk
    rw [forceN_eq] at hk
    have ho : ops[acc.length]? = some o := by
      have : (ops.toList.drop acc.length)[0]? = some o := by rw [hl]; rfl
      rw [List.getElem?_drop, Array.getElem?_toList] at this
      exact this
    refine ih _ ?_ ?_ hk
    · rw [List.length_append, List.length_singleton, ← List.tail_drop, hl]
      rfl
    · intro j i hj
      have hlt := getD_lt hj
      rw [List.length_append, List.length_singleton] at hlt
      have hin : ∀ m, (acc.getD m 0).testBit i = true → ((acc ++ [aheadOf acc o.after.toList]).getD m 0).testBit i = true := fun m hm => by
        have := getD_lt hm
        rw [List.getD_eq_getElem?_getD, List.getElem?_append_left this, ← List.getD_eq_getElem?_getD]
        exact hm
      by_cases hjl : j < acc.length
      · have hj' : (acc.getD j 0).testBit i = true := by
          rw [List.getD_eq_getElem?_getD, List.getElem?_append_left hjl, ← List.getD_eq_getElem?_getD] at hj
          exact hj
        obtain ⟨o', e, h1, h2, h3, h4⟩ := hB j i hj'
        exact ⟨o', e, h1, h2, h3, h4.imp id (fun h => ⟨h.1, hin _ h.2⟩)⟩
      · have hje : j = acc.length := by omega
        subst hje
        have hj' : (aheadOf acc o.after.toList).testBit i = true := by
          rw [List.getD_eq_getElem?_getD, List.getElem?_append_right (Nat.le_refl _), Nat.sub_self] at hj
          exact hj
        obtain ⟨e, h1, h2, h3⟩ := aheadOf_ok acc i _ hj'
        exact ⟨o, e, ho, by simpa using h1, h2, h3.imp id (fun h => ⟨getD_lt h, hin _ h⟩)⟩
/-- What has come up has what is bound ahead of it. -/
theorem bits_closed {ops : Array Oper} {bm : List Nat} (hB : BitsOK ops bm) {L : Nat → Bool} (hL : ∀ (j : Nat) (o : Oper), ops[j]? = some o → L j = true → ∀ e ∈ o.after, Region.binds .any e = true → L e.on = true) : ∀ j, L j = true → ∀ i, (bm.getD j 0).testBit i = true → L i = true := by
  intro j
  induction j using Nat.strongRecOn with
  | ind j ih =>
    intro hj i hi
    obtain ⟨o, e, h1, h2, h3, h4⟩ := hB j i hi
    have h5 := hL j o h1 hj e h2 h3
    rcases h4 with h4 | ⟨h4, h6⟩
    · rw [← h4]; exact h5
    · exact ih e.on h4 h5 i h6
theorem mem_zipIdx {α : Type} {l : List α} {i : Nat} {x : α} (h : l[i]? = some x) : (x, i) ∈ l.zipIdx := by
  refine List.mem_of_getElem? (i := i) ?_
  rw [List.getElem?_zipIdx, h]
  simp
theorem drawsOK_back {ops : Array Oper} {bm : List Nat} (h : drawsOK bm ops = true) : backward .any ops = true := by
  unfold backward
  refine List.all_eq_true.2 (fun i hi => ?_)
  have hi := List.mem_range.1 hi
  have ho : ops[i]? = some ops[i] := Array.getElem?_eq_getElem hi
  rw [ho]
  have h1 := (and2 (List.all_eq_true.1 h (ops[i], i) (mem_zipIdx (by simp)))).1
  refine Array.all_eq_true'.2 (fun e he => ?_)
  have h2 := List.all_eq_true.1 h1 e (by simpa using he)
  rcases Bool.or_eq_true_iff.1 h2 with h2 | h2
  · rw [h2]; rfl
  · rw [show decide (e.on < i) = true from decide_eq_true (ble_le h2)]
    simp
theorem drawsOK_apart {ops : Array Oper} {bm : List Nat} (h : drawsOK bm ops = true) {i j : Nat} {x y : Oper} (hx : ops[i]? = some x) (hy : ops[j]? = some y) (hij : i < j) (hb : (bm.getD j 0).testBit i ≠ true) : x.apart ops y = true := by
  have h1 := (and2 (List.all_eq_true.1 h (y, j) (mem_zipIdx (by simpa using hy)))).2
  have h2 := List.all_eq_true.1 h1 (x, i) (mem_zipIdx (by simpa using hx))
  have h3 : (Nat.ble (Nat.succ i) j && !Nat.testBit (bm.getD j 0) i) = true := by
    rw [Nat.ble_eq_true_of_le hij, Bool.true_and]
    simpa using hb
  simp only [] at h2
  rw [h3] at h2
  exact h2
end Go.Proofs.YtphfekkllibphaaGreatDoor.Ev
namespace Go.Proofs.YtphfekkllibphaaGreatDoor.Ev
open Go Go.RowKit

structure Run (P : Program) (N : Nat) (bm : List Nat) (ops : Array Oper) (tr : Nat → Tr) (rc : Nat → Rc) : Prop where
  good : ∀ i o, ops[i]? = some o → Good P N bm ops i o (tr i) (tr (i + 1)) (rc i)
  acc0 : (tr 0).acc = []
  bits : BitsOK ops bm
  draws : drawsOK bm ops = true
/-- What is hidden from an operation. -/
def Hid (bm : List Nat) (tr : Nat → Tr) (i b : Nat) : Prop := ∃ q ∈ looseOf bm i (tr i).acc, q.has b
/-- What an operation makes or writes. -/
def Tch (bm : List Nat) (tr : Nat → Tr) (rc : Nat → Rc) (i b : Nat) : Prop := (b ∈ (rc i).wr ∧ ¬ Hid bm tr i b) ∨ ((rc i).lo ≤ b ∧ b < (rc i).hi)
open Classical in
/-- The memory when L has come up, from the first k. -/
noncomputable def OL (bm : List Nat) (tr : Nat → Tr) (rc : Nat → Rc) (L : Nat → Bool) : Nat → Nat → O
  | 0, b => (tr 0).h.get b
  | k + 1, b => if L k = true ∧ Tch bm tr rc k b then (tr k).g'.get b else OL bm tr rc L k b
open Classical in
noncomputable def FL (ops : Array Oper) (tr : Nat → Tr) (L : Nat → Bool) : Nat → Nat → V
  | 0, t => (tr 0).fr.get .u (t + 1)
  | k + 1, t => if L k = true ∧ (ops[k]?).bind (·.dst) = some t then (tr k).v else FL ops tr L k t
structure Facts (r : Tr) : Prop where
  le : r.h.nx ≤ r.g'.nx
  keep : ∀ b, b < r.h.nx → b ∉ r.g'.lg → r.g'.get b = r.g.get b
  fresh : ∀ b, r.g'.nx ≤ b → r.g'.get b = .z
section
variable {P : Program} {N : Nat} {bm : List Nat} {ops : Array Oper} {tr : Nat → Tr} {rc : Nat → Rc}
theorem ops_some {i : Nat} (h : i < ops.size) : ∃ o, ops[i]? = some o := ⟨_, Array.getElem?_eq_getElem h⟩
theorem Run.mem (R : Run P N bm ops tr rc) : ∀ k, k ≤ ops.size → ∀ j, j < k → rc j ∈ (tr k).acc := by
  intro k
  induction k with
  | zero => exact fun _ j hj => absurd hj (Nat.not_lt_zero _)
  | succ k ih =>
    intro hk j hj
    obtain ⟨o, ho⟩ := ops_some (ops := ops) (i := k) (by omega)
    rw [(R.good k o ho).acc]
    by_cases e : j = k
    · rw [e]; exact List.mem_cons_self
    · exact List.mem_cons_of_mem _ (ih (by omega) j (by omega))
theorem Run.loose (R : Run P N bm ops tr rc) {i j : Nat} (hi : i < ops.size) (hj : j < i) (hb : (bm.getD i 0).testBit j ≠ true) : rc j ∈ looseOf bm i (tr i).acc := by
  obtain ⟨o, ho⟩ := ops_some (ops := ops) (i := j) (by omega)
  refine List.mem_filter.2 ⟨R.mem i (by omega) j hj, ?_⟩
  rw [(R.good j o ho).idx]
  simpa using hb
theorem Run.nx (R : Run P N bm ops tr rc) {m : Nat} (hm : m ≤ ops.size) (F : ∀ j, j < m → Facts (tr j)) : ∀ j, j ≤ m → ∀ i, i ≤ j → (tr i).h.nx ≤ (tr j).h.nx := by
  intro j
  induction j with
  | zero => intro _ i hi; rw [Nat.le_zero.1 hi]; exact Nat.le_refl _
  | succ j ih =>
    intro hj i hi
    by_cases e : i = j + 1
    · rw [e]; exact Nat.le_refl _
    · obtain ⟨o, ho⟩ := ops_some (ops := ops) (i := j) (by omega)
      have := ih (by omega) i (by omega)
      have h1 := (F j (by omega)).le
      rw [(R.good j o ho).nx]
      omega
theorem Run.lo (R : Run P N bm ops tr rc) {i : Nat} (hi : i < ops.size) : (rc i).lo = (tr i).h.nx ∧ (rc i).hi = (tr (i + 1)).h.nx := by
  obtain ⟨o, ho⟩ := ops_some (ops := ops) hi
  exact ⟨(R.good i o ho).lo, by rw [(R.good i o ho).hi, (R.good i o ho).nx]⟩
theorem trim_sub {nx : Nat} : ∀ (l acc : List Nat) (b : Nat), b ∈ trim nx l acc → b ∈ acc ∨ (b < nx ∧ b ∈ l) := by
  intro l
  induction l with
  | nil => exact fun acc b h => .inl h
  | cons c l ih =>
    intro acc b hb
    have e : trim nx (c :: l) acc = (Nat.ble (Nat.succ c) nx && !acc.contains c).rec (trim nx l acc) (trim nx l (c :: acc)) := rfl
    rw [e] at hb
    cases hc : (Nat.ble (Nat.succ c) nx && !acc.contains c) with
    | true =>
      rw [hc] at hb
      rcases ih _ b hb with h | h
      · rcases List.mem_cons.1 h with rfl | h
        · exact .inr ⟨ble_le (and2 hc).1, List.mem_cons_self⟩
        · exact .inl h
      · exact .inr ⟨h.1, List.mem_cons_of_mem _ h.2⟩
    | false =>
      rw [hc] at hb
      rcases ih _ b hb with h | h
      · exact .inl h
      · exact .inr ⟨h.1, List.mem_cons_of_mem _ h.2⟩
/-- What it writes is older than what it makes. -/
theorem Run.wr_lt (R : Run P N bm ops tr rc) {i b : Nat} (hi : i < ops.size) (hb : b ∈ (rc i).wr) : b < (tr i).h.nx ∧ (rc i).free = false ∧ b ∈ (tr i).g'.lg := by
  obtain ⟨o, ho⟩ := ops_some (ops := ops) hi
  have g := R.good i o ho
  cases hf : (rc i).free with
  | true => rw [g.wrf hf] at hb; cases hb
  | false =>
    rw [g.wrn] at hb
    rcases trim_sub _ _ _ hb with h | h
    · cases h
    · exact ⟨by rw [← g.nxg]; exact h.1, rfl, h.2⟩
theorem Run.wr_in (R : Run P N bm ops tr rc) {i b : Nat} (hi : i < ops.size) (hb : b < (tr i).h.nx) (hl : b ∈ (tr i).g'.lg) : b ∈ (rc i).wr := by
  obtain ⟨o, ho⟩ := ops_some (ops := ops) hi
  have g := R.good i o ho
  rw [g.wrn]
  exact (trim_mem _ _ b).2 (by rw [g.nxg]; exact hb) hl
/-- Nothing is known of what isn't made. -/
theorem Run.ol_fresh (R : Run P N bm ops tr rc) {m : Nat} (hm : m ≤ ops.size) (F0 : ∀ b, (tr 0).h.nx ≤ b → (tr 0).h.get b = .z) (F : ∀ j, j < m → Facts (tr j)) (L : Nat → Bool) : ∀ k, k ≤ m → ∀ b, (tr k).h.nx ≤ b → OL bm tr rc L k b = .z := by
  intro k
  induction k with
  | zero => exact fun _ b hb => F0 b hb
  | succ k ih =>
    intro hk b hb
    obtain ⟨o, ho⟩ := ops_some (ops := ops) (i := k) (by omega)
    have h1 := (F k (by omega)).le
    have h2 : (tr (k + 1)).h.nx = (tr k).g'.nx := (R.good k o ho).nx
    unfold OL
    split
    · exact (F k (by omega)).fresh b (by omega)
    · exact ih (by omega) b (by omega)
/-- The memory that was played is the one where all ahead has come up. -/
theorem Run.f1 (R : Run P N bm ops tr rc) {m : Nat} (hm : m ≤ ops.size) (F0 : ∀ b, (tr 0).h.nx ≤ b → (tr 0).h.get b = .z) (F : ∀ j, j < m → Facts (tr j)) : ∀ k, k ≤ m → ∀ b, (tr k).h.get b = OL bm tr rc (fun _ => true) k b ∨ (tr k).h.get b = .z := by
  intro k
  induction k with
  | zero => exact fun _ b => .inl rfl
  | succ k ih =>
    intro hk b
    obtain ⟨o, ho⟩ := ops_some (ops := ops) (i := k) (by omega)
    have g := R.good k o ho
    have hF := F k (by omega)
    have hlo := (R.lo (i := k) (by omega))
    have ihb := ih (by omega) b
    have hold : (tr k).h.nx ≤ b → (tr k).h.get b = .z := fun hb => by
      rcases ihb with e | e
      · rw [e]; exact R.ol_fresh hm F0 F _ k (by omega) b hb
      · exact e
    unfold OL
    cases hf : (rc k).free with
    | true =>
      by_cases hin : (rc k).lo ≤ b ∧ b < (rc k).hi
      · rw [if_pos ⟨rfl, .inr hin⟩]
        exact g.hf1 hf b hin.1 hin.2
      · rw [if_neg (fun h => h.2.elim (fun h => by rw [g.wrf hf] at h; cases h.1) hin), g.hf2 hf b hin]
        exact ihb
    | false =>
      by_cases hh : Hid bm tr k b
      · rcases g.hn1 hf b hh with e | e
        · split
          · rename_i ht
            rcases ht.2 with ht | ht
            · exact absurd hh ht.2
            · right
              rw [e]
              exact hold (by rw [← hlo.1]; exact ht.1)
          · rw [e]; exact ihb
        · exact .inr e
      · have e := g.hn2 hf b (fun q hq hb => hh ⟨q, hq, hb⟩)
        split
        · exact .inl e
        · rename_i ht
          have hw : b ∉ (rc k).wr := fun h => ht ⟨rfl, .inl ⟨h, hh⟩⟩
          have hi : ¬ ((rc k).lo ≤ b ∧ b < (rc k).hi) := fun h => ht ⟨rfl, .inr h⟩
          by_cases hb : b < (tr k).h.nx
          · rw [e, hF.keep b hb (fun hl => hw (R.wr_in (by omega) hb hl))]
            rcases g.gsub b with h | ⟨_, _, h⟩
            · exact .inr h
            · rw [h]; exact ihb
          · right
            rw [e]
            refine hF.fresh b ?_
            rw [← g.hi]
            omega
theorem Run.f1s (R : Run P N bm ops tr rc) : ∀ k, k ≤ ops.size → ∀ t, (tr k).fr.get .u (t + 1) = FL ops tr (fun _ => true) k t ∨ (tr k).fr.get .u (t + 1) = .u := by
  intro k
  induction k with
  | zero => exact fun _ t => .inl rfl
  | succ k ih =>
    intro hk t
    obtain ⟨o, ho⟩ := ops_some (ops := ops) (i := k) (by omega)
    have g := R.good k o ho
    rw [g.fr]
    unfold FL
    rw [ho, Option.bind_some]
    cases hd : o.dst with
    | none =>
      rw [if_neg (fun h => by cases h.2)]
      exact ih (by omega) t
    | some d =>
      show (T.set (tr k).fr (d + 1) (tr k).v).get .u (t + 1) = _ ∨ (T.set (tr k).fr (d + 1) (tr k).v).get .u (t + 1) = _
      rcases T.get_set (d := V.u) (t := (tr k).fr) (j := t + 1) (k := d + 1) (tr k).v (by omega) (by omega) with ⟨h1, h2⟩ | ⟨h1, h2⟩
      · have : d = t := (Nat.succ.inj h1).symm
        rw [if_pos ⟨rfl, by rw [this]⟩]
        exact h2
      · rw [if_neg (fun h => h1 (by injection h.2 with h; rw [h])), h2]
        exact ih (by omega) t
end
end Go.Proofs.YtphfekkllibphaaGreatDoor.Ev
namespace Go.Proofs.YtphfekkllibphaaGreatDoor.Ev
open Go Go.RowKit

/-- What may have come up. -/
structure LOK (bm : List Nat) (m : Nat) (L : Nat → Bool) : Prop where
  cl : ∀ j, L j = true → ∀ i, (bm.getD j 0).testBit i = true → L i = true
  lt : ∀ j, L j = true → j < m
section
variable {P : Program} {N : Nat} {bm : List Nat} {ops : Array Oper} {tr : Nat → Tr} {rc : Nat → Rc} {m : Nat} {L : Nat → Bool}
open Classical in
/-- Behind what it waits for, the memory that an operation looks at is the played one. -/
theorem Run.f2 (R : Run P N bm ops tr rc) (hm : m ≤ ops.size) (F0 : ∀ b, (tr 0).h.nx ≤ b → (tr 0).h.get b = .z) (F : ∀ j, j < m → Facts (tr j)) (hL : LOK bm m L) {i : Nat} (hi : i < ops.size) (him : i ≤ m) (hLi : L i = false)
    (hpre : ∀ j, (bm.getD i 0).testBit j = true → L j = true) {b : Nat} (hb : (tr i).g.get b ≠ .z) : OL bm tr rc L ops.size b = (tr i).g.get b ∧ b < (tr i).h.nx ∧ ¬ Hid bm tr i b ∧ (rc i).sees b = true := by
  obtain ⟨o, ho⟩ := ops_some (ops := ops) hi
  have g := R.good i o ho
  rcases g.gsub b with e | ⟨hf, hnh, e⟩
  · exact absurd e hb
  have hh : ¬ Hid bm tr i b := fun ⟨q, hq, h⟩ => hnh q hq h
  have h1 : (tr i).h.get b = OL bm tr rc (fun _ => true) i b := by
    rcases R.f1 hm F0 F i him b with h | h
    · exact h
    · rw [e] at hb; exact absurd h hb
  have hlt : b < (tr i).h.nx := by
    apply Classical.byContradiction
    intro hge
    rw [e, h1, R.ol_fresh hm F0 F _ i him b (by omega)] at hb
    exact hb rfl
  have hA : ∀ j, j ≤ i → OL bm tr rc L j b = OL bm tr rc (fun _ => true) j b := by
    intro j
    induction j with
    | zero => exact fun _ => rfl
    | succ j ih =>
      intro hj
      unfold OL
      rw [ih (by omega)]
      by_cases ht : Tch bm tr rc j b
      · have hLj : L j = true := by
          apply Classical.byContradiction
          intro hn
          refine hh ⟨rc j, R.loose hi (by omega) (fun h => hn (hpre j h)), ?_⟩
          exact ht.elim (fun h => .inl h.1) .inr
        rw [if_pos ⟨hLj, ht⟩, if_pos ⟨rfl, ht⟩]
      · rw [if_neg (fun h => ht h.2), if_neg (fun h => ht h.2)]
  have hB : ∀ j, i ≤ j → j ≤ ops.size → OL bm tr rc L j b = OL bm tr rc L i b := by
    intro j
    induction j with
    | zero => intro h _; rw [Nat.le_zero.1 h]
    | succ j ih =>
      intro hij hj
      by_cases e : i = j + 1
      · rw [e]
      · rw [← ih (by omega) (by omega)]
        show (if _ then _ else _) = _
        refine if_neg (fun h => ?_)
        obtain ⟨hLj, ht⟩ := h
        have hne : i ≠ j := fun e => by rw [← e, hLi] at hLj; cases hLj
        have hij' : i < j := by omega
        rcases ht with ht | ht
        · have hl := R.loose (i := j) (j := i) (by omega) hij' (fun h => by rw [hL.cl j hLj i h] at hLi; cases hLi)
          obtain ⟨oj, hoj⟩ := ops_some (ops := ops) (i := j) (by omega)
          have := (R.good j oj hoj).wfree b ht.1 _ hl
          rw [hf] at this
          cases this
        · have h2 := R.nx hm F j (Nat.le_of_lt (hL.lt j hLj)) i (by omega)
          have h3 := (R.lo (i := j) (by omega)).1
          omega
  refine ⟨?_, hlt, hh, hf⟩
  rw [hB ops.size (by omega) (Nat.le_refl _), hA i (Nat.le_refl _), ← h1, e]
open Classical in
/-- The memory behind an operation. -/
theorem Run.f3 (R : Run P N bm ops tr rc) (hm : m ≤ ops.size) (F : ∀ j, j < m → Facts (tr j)) (hL : LOK bm m L) {i : Nat} (hi : i < ops.size) (hLi : L i = false)
    (b : Nat) : OL bm tr rc (got L i) ops.size b = if Tch bm tr rc i b then (tr i).g'.get b else OL bm tr rc L ops.size b := by
  have hA : ∀ j, j ≤ i → OL bm tr rc (got L i) j b = OL bm tr rc L j b := by
    intro j
    induction j with
    | zero => exact fun _ => rfl
    | succ j ih =>
      intro hj
      unfold OL
      rw [ih (by omega), got_ne (by omega)]
  have hB : ∀ j, i < j → j ≤ ops.size → OL bm tr rc (got L i) j b = if Tch bm tr rc i b then (tr i).g'.get b else OL bm tr rc L j b := by
    intro j
    induction j with
    | zero => exact fun h => absurd h (Nat.not_lt_zero _)
    | succ j ih =>
      intro hij hj
      by_cases e : j = i
      · subst e
        show (if _ then _ else _) = _
        rw [got_self, hA j (Nat.le_refl _)]
        by_cases ht : Tch bm tr rc j b
        · rw [if_pos ⟨rfl, ht⟩, if_pos ht]
        · rw [if_neg (fun h => ht h.2), if_neg ht]
          show _ = (if _ then _ else _)
          rw [if_neg (fun h => ht h.2)]
      · have hlt : i < j := by omega
        show (if _ then _ else _) = _
        rw [ih hlt (by omega), got_ne e]
        by_cases hj2 : L j = true ∧ Tch bm tr rc j b
        · rw [if_pos hj2]
          obtain ⟨hLj, htj⟩ := hj2
          have hno : ¬ Tch bm tr rc i b := by
            intro hti
            have hl := R.loose (i := j) (j := i) (by omega) hlt (fun h => by rw [hL.cl j hLj i h] at hLi; cases hLi)
            have hlo := R.lo (i := i) hi
            have hloj := R.lo (i := j) (by omega)
            have hnx := R.nx hm F j (Nat.le_of_lt (hL.lt j hLj)) (i + 1) (by omega)
            rcases htj with htj | htj
            · obtain ⟨oj, hoj⟩ := ops_some (ops := ops) (i := j) (by omega)
              have hfree := (R.good j oj hoj).wfree b htj.1 _ hl
              rcases hti with hti | hti
              · unfold Rc.sees at hfree
                rw [(R.wr_lt hi hti.1).2.1] at hfree
                cases hfree
              · exact htj.2 ⟨rc i, hl, .inr hti⟩
            · have h0 := R.nx hm F j (Nat.le_of_lt (hL.lt j hLj)) i (by omega)
              rcases hti with hti | hti
              · have := (R.wr_lt hi hti.1).1
                omega
              · omega
          rw [if_neg hno]
          show _ = (if _ then _ else _)
          rw [if_pos ⟨hLj, htj⟩]
        · rw [if_neg hj2]
          show _ = (if _ then _ else (if _ then _ else _))
          rw [if_neg hj2]
  exact hB ops.size hi (Nat.le_refl _)
/-- The slots that an operation looks at. -/
theorem Run.f2s (R : Run P N bm ops tr rc) (hL : LOK bm m L) {i : Nat} {o : Oper} (ho : ops[i]? = some o) (hLi : L i = false)
    (hpre : ∀ j, (bm.getD i 0).testBit j = true → L j = true) {t : Tmp} (ht : t ∈ o.looksAt ops) : (tr i).fr.get .u (t + 1) = FL ops tr L ops.size t ∨ (tr i).fr.get .u (t + 1) = .u := by
  have hi := (Array.getElem?_eq_some_iff.1 ho).1
  have hA : ∀ j, j ≤ i → FL ops tr L j t = FL ops tr (fun _ => true) j t := by
    intro j
    induction j with
    | zero => exact fun _ => rfl
    | succ j ih =>
      intro hj
      unfold FL
      rw [ih (by omega)]
      by_cases hd : (ops[j]?).bind (·.dst) = some t
      · have hLj : L j = true := by
          apply Classical.byContradiction
          intro hn
          obtain ⟨oj, hoj⟩ := ops_some (ops := ops) (i := j) (by omega)
          rw [hoj, Option.bind_some] at hd
          exact (Oper.apart_spec (drawsOK_apart R.draws hoj ho (by omega) (fun h => hn (hpre j h)))).1 t hd ht
        rw [if_pos ⟨hLj, hd⟩, if_pos ⟨rfl, hd⟩]
      · rw [if_neg (fun h => hd h.2), if_neg (fun h => hd h.2)]
  have hB : ∀ j, i ≤ j → j ≤ ops.size → FL ops tr L j t = FL ops tr L i t := by
    intro j
    induction j with
    | zero => intro h _; rw [Nat.le_zero.1 h]
    | succ j ih =>
      intro hij hj
      by_cases e : i = j + 1
      · rw [e]
      · rw [← ih (by omega) (by omega)]
        show (if _ then _ else _) = _
        refine if_neg (fun h => ?_)
        obtain ⟨hLj, hd⟩ := h
        have hne : i ≠ j := fun e => by rw [← e, hLi] at hLj; cases hLj
        obtain ⟨oj, hoj⟩ := ops_some (ops := ops) (i := j) (by omega)
        rw [hoj, Option.bind_some] at hd
        exact (Oper.apart_spec (drawsOK_apart R.draws ho hoj (by omega) (fun h => by rw [hL.cl j hLj i h] at hLi; cases hLi))).2.2 t hd ht
  rw [hB ops.size (by omega) (Nat.le_refl _), hA i (Nat.le_refl _)]
  exact R.f1s i (by omega) t
open Classical in
theorem Run.f3s (R : Run P N bm ops tr rc) (hL : LOK bm m L) {i : Nat} {o : Oper} (ho : ops[i]? = some o) (hLi : L i = false) (t : Nat) :
    FL ops tr (got L i) ops.size t = if o.dst = some t then (tr i).v else FL ops tr L ops.size t := by
  have hi := (Array.getElem?_eq_some_iff.1 ho).1
  have hA : ∀ j, j ≤ i → FL ops tr (got L i) j t = FL ops tr L j t := by
    intro j
    induction j with
    | zero => exact fun _ => rfl
    | succ j ih =>
      intro hj
      unfold FL
      rw [ih (by omega), got_ne (by omega)]
  have hB : ∀ j, i < j → j ≤ ops.size → FL ops tr (got L i) j t = if o.dst = some t then (tr i).v else FL ops tr L j t := by
    intro j
    induction j with
    | zero => exact fun h => absurd h (Nat.not_lt_zero _)
    | succ j ih =>
      intro hij hj
      by_cases e : j = i
      · subst e
        show (if _ then _ else _) = _
        rw [got_self, hA j (Nat.le_refl _), ho, Option.bind_some]
        by_cases hd : o.dst = some t
        · rw [if_pos ⟨rfl, hd⟩, if_pos hd]
        · rw [if_neg (fun h => hd h.2), if_neg hd]
          show _ = (if _ then _ else _)
          rw [ho, Option.bind_some, if_neg (fun h => hd h.2)]
      · have hlt : i < j := by omega
        show (if _ then _ else _) = _
        rw [ih hlt (by omega), got_ne e]
        by_cases hj2 : L j = true ∧ (ops[j]?).bind (·.dst) = some t
        · rw [if_pos hj2]
          obtain ⟨hLj, hd⟩ := hj2
          obtain ⟨oj, hoj⟩ := ops_some (ops := ops) (i := j) (by omega)
          have hd' := hd
          rw [hoj, Option.bind_some] at hd'
          have hno : o.dst ≠ some t := fun h => (Oper.apart_spec (drawsOK_apart R.draws ho hoj hlt (fun h => by rw [hL.cl j hLj i h] at hLi; cases hLi))).2.1 t h hd'
          rw [if_neg hno]
          show _ = (if _ then _ else _)
          rw [if_pos ⟨hLj, hd⟩]
        · rw [if_neg hj2]
          show _ = (if _ then _ else (if _ then _ else _))
          rw [if_neg hj2]
  exact hB ops.size hi (Nat.le_refl _)
end
end Go.Proofs.YtphfekkllibphaaGreatDoor.Ev
namespace Go.Proofs.YtphfekkllibphaaGreatDoor.Ev
open Go Go.RowKit

/-- ρ, of what is known below k alone. -/
def Ren.cut (ρ : Ren) (k : Nat) : Ren := { ρ with n := k, d := fun b => ρ.d b ∧ b < k, fr := fun b hb h => by omega }
/-- What two runs know of a value. -/
theorem VR.cut {ρ ρc : Ren} {k : Nat} (hk : ∀ b, ρc.d b → b < k) {v : V} {x : Value} (h : VR ρ v x) : ∀ {y : Value}, VR ρc v y → VR (ρ.cut k) v x := by
  induction h with
  | u x => exact fun _ => .u x
  | b x => exact fun _ => .b x
  | i k n => exact fun _ => .i k n
  | ui k n => exact fun _ => .ui k n
  | x h => exact fun _ => .x (ρ := ρ.cut k) h
  | s hn _ ih =>
    rename_i l s _
    intro y hy
    cases hy with
    | s hn' hc =>
      rename_i s'
      refine .s hn (fun i v c hv hcc => ?_)
      have hi := (List.getElem?_eq_some_iff.1 hv).1
      have hlt : i < s'.data.size := by
        have : s'.size = s'.data.size := rfl
        omega
      exact ih i v c hv hcc (hc i v _ hv (Array.getElem?_eq_getElem hlt))
  | sv h => exact fun _ => .sv (ρ := ρ.cut k) h
  | pn => exact fun _ => .pn
  | p h =>
    intro y hy
    cases hy with
    | p h' => exact .p (ρ := ρ.cut k) ⟨h, hk _ h'⟩
  | sn => exact fun _ => .sn
  | se a c => exact fun _ => .se a c
  | slc h =>
    intro y hy
    cases hy with
    | slc h' => exact .slc (ρ := ρ.cut k) ⟨h, hk _ h'⟩
  | slu h hl h0 =>
    intro y hy
    cases hy with
    | slu h' _ _ => exact .slu (ρ := ρ.cut k) ⟨h, hk _ h'⟩ hl h0
  | mn => exact fun _ => .mn
  | m h =>
    intro y hy
    cases hy with
    | m h' => exact .m (ρ := ρ.cut k) ⟨h, hk _ h'⟩
  | f hl _ hk' _ ih ig =>
    intro y hy
    cases hy with
    | f hl2 h2 hk2 g2 =>
      refine .f hl (fun i v x hv hx => ?_) hk' (fun i v x hv hx => ?_)
      · have hi := (List.getElem?_eq_some_iff.1 hv).1
        exact ih i v x hv hx (h2 i v _ hv (Array.getElem?_eq_getElem (by omega)))
      · have hi := (List.getElem?_eq_some_iff.1 hv).1
        exact ig i v x hv hx (g2 i v _ hv (Array.getElem?_eq_getElem (by omega)))
  | nf => exact fun _ => .nf
  | ic _ ih =>
    intro y hy
    cases hy with
    | ic h' => exact .ic (ih h')
  | nic => exact fun _ => .nic
  | agg hn _ ih =>
    intro y hy
    cases hy with
    | agg hn2 h2 =>
      refine .agg hn (fun i v x hv hx => ?_)
      have hi := (List.getElem?_eq_some_iff.1 hv).1
      exact ih i v x hv hx (h2 i v _ hv (Array.getElem?_eq_getElem (by omega)))
  | tup hn _ ih =>
    intro y hy
    cases hy with
    | tup hn2 h2 =>
      refine .tup hn (fun i v x hv hx => ?_)
      have hi := (List.getElem?_eq_some_iff.1 hv).1
      exact ih i v x hv hx (h2 i v _ hv (Array.getElem?_eq_getElem (by omega)))
theorem OR.cut {ρ ρc : Ren} {k b : Nat} {w wc : World} {o : O} (hk : ∀ b, ρc.d b → b < k) (h : OR ρ w b o) (hc : OR ρc wc b o) : OR (ρ.cut k) w b o := by
  cases o with
  | z => trivial
  | c n t e g =>
    obtain ⟨h1, cs, fz, h2, h3, h4, h5, h6, h7⟩ := h
    obtain ⟨k1, cs', fz', k2, k3, k4, k5, k6, k7⟩ := hc
    refine ⟨⟨h1, hk _ k1⟩, cs, fz, h2, h3, h4, h5, fun i hi => ?_, h7⟩
    obtain ⟨x, hx, hv⟩ := h6 i hi
    obtain ⟨y, _, hy⟩ := k6 i hi
    exact ⟨x, hx, hv.cut hk hy⟩
  | mp es cl =>
    obtain ⟨h1, es1, h2, h3, h4⟩ := h
    obtain ⟨k1, es2, k2, k3, k4⟩ := hc
    refine ⟨⟨h1, hk _ k1⟩, es1, h2, h3, fun i e e' he he' => ?_⟩
    have hi := (List.getElem?_eq_some_iff.1 he).1
    obtain ⟨a1, a2, a3⟩ := h4 i e e' he he'
    obtain ⟨b1, b2, b3⟩ := k4 i e _ he (Array.getElem?_eq_getElem (by omega))
    exact ⟨a1.cut hk b1, a2.cut hk b2, a3⟩
  | it m s l j =>
    obtain ⟨h1, h2, h3⟩ := h
    obtain ⟨k1, k2, k3⟩ := hc
    exact ⟨⟨h1, hk _ k1⟩, fun c hc => ⟨h2 c hc, hk _ (k2 c hc)⟩, h3⟩
/-- Both. -/
def Ren.join (ρ s : Ren) (lo hi : Nat) : Ren :=
  { n := max ρ.n s.n, d := fun b => ρ.d b ∨ s.d b, fr := fun b hb h => h.elim (ρ.fr b (by omega)) (s.fr b (by omega)),
    π := fun b => if lo ≤ b ∧ b < hi then s.π b else ρ.π b, γ := fun b => if lo ≤ b ∧ b < hi then s.γ b else ρ.γ b, m := ρ.m, σ := ρ.σ, τ := ρ.τ, ok := ρ.ok }
/-- The state when L has come up. -/
structure Inv (bm : List Nat) (ops : Array Oper) (tr : Nat → Tr) (rc : Nat → Rc) (N : Nat) (ρ0 : Ren) (a0 : Act) (w0 : World) (L : Nat → Bool) (ρ : Ren) (a : Act) (w : World) : Prop where
  sl : ∀ t, VR ρ (FL ops tr L ops.size t) (a.tmps.getD t undef)
  size : a.tmps.size = N
  df : a.defers = a0.defers
  o : ∀ b, OR ρ w b (OL bm tr rc L ops.size b)
  inj : ∀ b c, OL bm tr rc L ops.size b ≠ .z → OL bm tr rc L ops.size c ≠ .z → ρ.π b = ρ.π c → b = c
  dom : ∀ b, ρ.d b → (ρ0.d b ∧ b < (tr 0).h.nx) ∨ ∃ k, L k = true ∧ (rc k).lo ≤ b ∧ b < (rc k).hi
  le : ρ0.le ρ
  os : w.os = w0.os
  tape : w.tape = w0.tape
  output : w.output = w0.output
  hsize : w0.heap.size ≤ w.heap.size
  frame : ∀ r, r < w0.heap.size → (∀ b, (tr 0).h.get b ≠ .z → ρ0.π b ≠ r) → w.heap[r]? = w0.heap[r]?
  img : ∀ b, OL bm tr rc L ops.size b ≠ .z → (∃ c, (tr 0).h.get c ≠ .z ∧ ρ0.π c = ρ.π b) ∨ w0.heap.size ≤ ρ.π b
/-- What is told of an operation's start is scoped. -/
def Wit (tr : Nat → Tr) (i : Nat) : Prop := ∃ (ρc : Ren) (ac : Act) (wc : World), (∀ b, ρc.d b → b < (tr i).h.nx) ∧ FR ρc (tr i).fr ac ∧ ∀ b, OR ρc wc b ((tr i).h.get b)
section
variable {P : Program} {N : Nat} {bm : List Nat} {ops : Array Oper} {tr : Nat → Tr} {rc : Nat → Rc} {m : Nat} {L : Nat → Bool} {ρ0 ρ : Ren} {a0 a : Act} {w0 w : World}
theorem Run.sat (R : Run P N bm ops tr rc) (hm : m ≤ ops.size) (F0 : ∀ b, (tr 0).h.nx ≤ b → (tr 0).h.get b = .z) (F : ∀ j, j < m → Facts (tr j)) (hL : LOK bm m L) {i : Nat} (hi : i < ops.size) (him : i ≤ m) (hLi : L i = false)
    (hpre : ∀ j, (bm.getD i 0).testBit j = true → L j = true) (W : Wit tr i) (I : Inv bm ops tr rc N ρ0 a0 w0 L ρ a w) : Sat (ρ.cut (tr i).h.nx) (tr i).g w := by
  obtain ⟨o, ho⟩ := ops_some (ops := ops) hi
  have g := R.good i o ho
  obtain ⟨ρc, ac, wc, hc, _, hoc⟩ := W
  refine ⟨g.nxg.symm, fun b => ?_, fun b c hb hcb e => ?_⟩
  · by_cases hb : (tr i).g.get b = .z
    · rw [hb]; trivial
    · obtain ⟨e1, _, _, _⟩ := R.f2 hm F0 F hL hi him hLi hpre hb
      have h1 := I.o b
      rw [e1] at h1
      refine h1.cut hc (wc := wc) ?_
      rcases g.gsub b with e | ⟨_, _, e⟩
      · exact absurd e hb
      · rw [e]; exact hoc b
  · obtain ⟨e1, _, _, _⟩ := R.f2 hm F0 F hL hi him hLi hpre hb
    obtain ⟨e2, _, _, _⟩ := R.f2 hm F0 F hL hi him hLi hpre hcb
    exact I.inj b c (by rw [e1]; exact hb) (by rw [e2]; exact hcb) e
theorem fl_far (hN : ∀ o ∈ ops.toList, ∀ d, o.dst = some d → d < N) {t : Nat} (ht : N ≤ t) (L : Nat → Bool) : ∀ k, k ≤ ops.size → FL ops tr L k t = (tr 0).fr.get .u (t + 1) := by
  intro k
  induction k with
  | zero => exact fun _ => rfl
  | succ k ih =>
    intro hk
    obtain ⟨o, ho⟩ := ops_some (ops := ops) (i := k) (by omega)
    show (if _ then _ else _) = _
    rw [ho, Option.bind_some, if_neg (fun h => ?_)]
    · exact ih (by omega)
    · have := hN o (List.mem_of_getElem? (by rw [Array.getElem?_toList]; exact ho)) t h.2
      exact absurd this (Nat.not_lt.2 ht)
theorem Run.frc (R : Run P N bm ops tr rc) (hN : ∀ o ∈ ops.toList, ∀ d, o.dst = some d → d < N) (hL : LOK bm m L) {i : Nat} {o : Oper} (ho : ops[i]? = some o) (hLi : L i = false)
    (hpre : ∀ j, (bm.getD i 0).testBit j = true → L j = true) (W : Wit tr i) (I : Inv bm ops tr rc N ρ0 a0 w0 L ρ a w) : FR (ρ.cut (tr i).h.nx) (cutF N (o.looksAt ops) (tr i).fr) a := by
  have hi := (Array.getElem?_eq_some_iff.1 ho).1
  obtain ⟨ρc, ac, wc, hc, hfc, _⟩ := W
  intro t
  rcases cutF_get N (o.looksAt ops) (tr i).fr t with ⟨_, e⟩ | ⟨ht, e⟩
  · rw [e]; exact .u _
  · rw [e]
    have key : (tr i).fr.get .u (t + 1) = FL ops tr L ops.size t ∨ (tr i).fr.get .u (t + 1) = .u := by
      by_cases hl : t ∈ o.looksAt ops
      · exact R.f2s hL ho hLi hpre hl
      · have htN : N ≤ t := by
          apply Classical.byContradiction
          intro h
          exact ht ⟨by omega, hl⟩
        rw [fl_far hN htN L ops.size (Nat.le_refl _), ← fl_far hN htN (fun _ => true) i (by omega)]
        exact R.f1s i (by omega) t
    rcases key with h | h
    · have h1 := I.sl t
      rw [← h] at h1
      exact h1.cut hc (hfc t)
    · rw [h]; exact .u _
end
end Go.Proofs.YtphfekkllibphaaGreatDoor.Ev
namespace Go.Proofs.YtphfekkllibphaaGreatDoor.Ev
open Go Go.RowKit

section
variable {P : Program} {N : Nat} {bm : List Nat} {ops : Array Oper} {tr : Nat → Tr} {rc : Nat → Rc} {m : Nat} {L : Nat → Bool} {ρ0 ρ ρ' : Ren} {a0 a : Act} {w0 w w' : World}
theorem Run.next (R : Run P N bm ops tr rc) (hN : ∀ o ∈ ops.toList, ∀ d, o.dst = some d → d < N) (hm : m ≤ ops.size) (F0 : ∀ b, (tr 0).h.nx ≤ b → (tr 0).h.get b = .z) (F : ∀ j, j < m → Facts (tr j)) (hL : LOK bm m L) {i : Nat} {o : Oper} (ho : ops[i]? = some o) (him : i ≤ m) (hLi : L i = false)
    (hpre : ∀ j, (bm.getD i 0).testBit j = true → L j = true) (I : Inv bm ops tr rc N ρ0 a0 w0 L ρ a w) (Fi : Facts (tr i)) {x : Value}
    (hv : VR ρ' (tr i).v x) (hs : Sat ρ' (tr i).g' w') (st : Step (ρ.cut (tr i).h.nx) (tr i).g w ρ' (tr i).g' w') : ∃ ρ2, Inv bm ops tr rc N ρ0 a0 w0 (got L i) ρ2 (a.put o.dst x) w' := by
  have hi := (Array.getElem?_eq_some_iff.1 ho).1
  have g := R.good i o ho
  have hlo := R.lo (i := i) hi
  have hhi : (rc i).hi = (tr i).g'.nx := g.hi
  have hnx0 : (tr 0).h.nx ≤ (tr i).h.nx := R.nx hm F i him 0 (Nat.zero_le _)
  -- what was there is not among what is made
  have hout : ∀ b, ρ.d b → ¬ ((rc i).lo ≤ b ∧ b < (rc i).hi) := by
    intro b hb hin
    rcases I.dom b hb with h | ⟨k, hk, h1, h2⟩
    · omega
    · have hkm := hL.lt k hk
      have hne : k ≠ i := fun e => by rw [e, hLi] at hk; cases hk
      have hlk := R.lo (i := k) (by omega)
      rcases Nat.lt_or_ge k i with hlt | hge
      · have := R.nx hm F i him (k + 1) (by omega)
        omega
      · have := R.nx hm F k (by omega) (i + 1) (by omega)
        omega
  have hpi : ∀ b, ρ'.d b → (ρ.join ρ' (rc i).lo (rc i).hi).π b = ρ'.π b ∧ (ρ.join ρ' (rc i).lo (rc i).hi).γ b = ρ'.γ b := by
    intro b hb
    by_cases hin : (rc i).lo ≤ b ∧ b < (rc i).hi
    · exact ⟨if_pos hin, if_pos hin⟩
    · rcases st.new b hb with h | h
      · exact ⟨(if_neg hin).trans (st.le.π b h).symm, (if_neg hin).trans (st.le.γ b h).symm⟩
      · rw [g.nxg] at h
        exact absurd ⟨by rw [hlo.1]; exact h.1, by rw [hhi]; exact h.2⟩ hin
  have le1 : ρ.le (ρ.join ρ' (rc i).lo (rc i).hi) := ⟨fun b h => .inl h, fun b h => if_neg (hout b h), fun b h => if_neg (hout b h), rfl, rfl, rfl⟩
  have le2 : ρ'.le (ρ.join ρ' (rc i).lo (rc i).hi) := ⟨fun b h => .inr h, fun b h => (hpi b h).1, fun b h => (hpi b h).2, st.le.m.symm, st.le.σ.symm, st.le.τ.symm⟩
  have f3 := fun b => R.f3 hm F hL hi hLi b
  have f3s := fun t => R.f3s hL ho hLi t
  have hg := fun {b : Nat} (hb : (tr i).g.get b ≠ .z) => R.f2 hm F0 F hL hi him hLi hpre hb
  -- where a block that isn't touched comes from
  have hkeep : ∀ b, ¬ Tch bm tr rc i b → (tr i).g.get b ≠ .z → (tr i).g'.get b = OL bm tr rc L ops.size b := by
    intro b ht hb
    obtain ⟨e1, e2, e3, _⟩ := hg hb
    rw [e1]
    exact Fi.keep b e2 (fun hl => ht (.inl ⟨R.wr_in hi e2 hl, e3⟩))
  have hcase : ∀ b, OL bm tr rc (got L i) ops.size b ≠ .z → ((tr i).g'.get b ≠ .z ∧ (tr i).g'.get b = OL bm tr rc (got L i) ops.size b) ∨ ((tr i).g.get b = .z ∧ OL bm tr rc L ops.size b = OL bm tr rc (got L i) ops.size b ∧ ¬ Tch bm tr rc i b) := by
    intro b hb
    by_cases ht : Tch bm tr rc i b
    · have e := f3 b
      rw [if_pos ht] at e
      exact .inl ⟨by rw [← e]; exact hb, e.symm⟩
    · have e := f3 b
      rw [if_neg ht] at e
      by_cases hz : (tr i).g.get b = .z
      · exact .inr ⟨hz, e.symm, ht⟩
      · have := hkeep b ht hz
        exact .inl ⟨by rw [this, ← e]; exact hb, by rw [this, e]⟩
  have hpA : ∀ b, (tr i).g'.get b ≠ .z → (ρ.join ρ' (rc i).lo (rc i).hi).π b = ρ'.π b := fun b hb => (hpi b ((hs.o b).lt hb).1).1
  have hpB : ∀ b, OL bm tr rc L ops.size b ≠ .z → (ρ.join ρ' (rc i).lo (rc i).hi).π b = ρ.π b := fun b hb => le1.π b ((I.o b).lt hb).1
  have himg : ∀ b, (tr i).g'.get b ≠ .z → (∃ c, (tr i).g.get c ≠ .z ∧ ρ.π c = ρ'.π b) ∨ w.heap.size ≤ ρ'.π b := st.img
  have hcross : ∀ b c, (tr i).g'.get b ≠ .z → (tr i).g.get c = .z → OL bm tr rc L ops.size c ≠ .z → ρ'.π b ≠ ρ.π c := by
    intro b c hb hc hoc e
    rcases himg b hb with ⟨d, hd, hd2⟩ | h
    · have := I.inj d c (by rw [(hg hd).1]; exact hd) hoc (hd2.trans e)
      rw [this] at hd
      exact hd hc
    · have := ((I.o c).lt hoc).2
      omega
  refine ⟨ρ.join ρ' (rc i).lo (rc i).hi, ⟨fun t => ?_, by rw [put_size, I.size], by rw [put_defers, I.df], fun b => ?_, fun b c hb hc e => ?_, fun b hb => ?_, I.le.trans le1, st.os.trans I.os, st.tape.trans I.tape, st.output.trans I.output, Nat.le_trans I.hsize st.size, fun r hr hf => ?_, fun b hb => ?_⟩⟩
  · rw [f3s t]
    by_cases hd : o.dst = some t
    · rw [if_pos hd, hd]
      have htN : t < a.tmps.size := by rw [I.size]; exact hN o (List.mem_of_getElem? (by rw [Array.getElem?_toList]; exact ho)) t hd
      show VR _ _ ((a.tmps.setIfInBounds t x).getD t undef)
      rw [Array.getD_eq_getD_getElem?, Array.getElem?_setIfInBounds, if_pos rfl, if_pos htN]
      exact hv.mono le2
    · rw [if_neg hd]
      have : (a.put o.dst x).tmps.getD t undef = a.tmps.getD t undef := by
        cases hdd : o.dst with
        | none => rfl
        | some d =>
          show (a.tmps.setIfInBounds d x).getD t undef = _
          rw [Array.getD_eq_getD_getElem?, Array.getD_eq_getD_getElem?, Array.getElem?_setIfInBounds, if_neg (fun e => hd (by rw [hdd, e]))]
      rw [this]
      exact (I.sl t).mono le1
  · by_cases hz : OL bm tr rc (got L i) ops.size b = .z
    · rw [hz]; trivial
    · rcases hcase b hz with ⟨h1, h2⟩ | ⟨h1, h2, h3⟩
      · rw [← h2]
        exact (hs.o b).keep le2 (fun _ => rfl)
      · rw [← h2]
        have hoz : OL bm tr rc L ops.size b ≠ .z := by rw [h2]; exact hz
        refine (I.o b).keep le1 (fun _ => ?_)
        refine st.frame _ ((I.o b).lt hoz).2 (fun c hc e => ?_)
        have := I.inj c b (by rw [(hg hc).1]; exact hc) hoz e
        rw [this] at hc
        exact hc h1
  · rcases hcase b hb with ⟨h1, h2⟩ | ⟨h1, h2, h3⟩
    · rw [hpA b h1] at e
      rcases hcase c hc with ⟨k1, k2⟩ | ⟨k1, k2, k3⟩
      · rw [hpA c k1] at e
        exact hs.inj b c h1 k1 e
      · have hoz : OL bm tr rc L ops.size c ≠ .z := by rw [k2]; exact hc
        rw [hpB c hoz] at e
        exact absurd e (hcross b c h1 k1 hoz)
    · have hoz : OL bm tr rc L ops.size b ≠ .z := by rw [h2]; exact hb
      rw [hpB b hoz] at e
      rcases hcase c hc with ⟨k1, k2⟩ | ⟨k1, k2, k3⟩
      · rw [hpA c k1] at e
        exact absurd e.symm (hcross c b k1 h1 hoz)
      · have hozc : OL bm tr rc L ops.size c ≠ .z := by rw [k2]; exact hc
        rw [hpB c hozc] at e
        exact I.inj b c hoz hozc e
  · rcases hb with hb | hb
    · rcases I.dom b hb with h | ⟨k, hk, h⟩
      · exact .inl h
      · refine .inr ⟨k, ?_, h⟩
        unfold got
        rw [hk]; rfl
    · rcases st.new b hb with h | h
      · rcases I.dom b h.1 with h | ⟨k, hk, h⟩
        · exact .inl h
        · refine .inr ⟨k, ?_, h⟩
          unfold got
          rw [hk]; rfl
      · rw [g.nxg] at h
        exact .inr ⟨i, got_self L i, by rw [hlo.1]; exact h.1, by rw [hhi]; exact h.2⟩
  · refine (st.frame r (Nat.lt_of_lt_of_le hr I.hsize) (fun c hc e => ?_)).trans (I.frame r hr hf)
    rcases I.img c (by rw [(hg hc).1]; exact hc) with ⟨d, hd, hd2⟩ | h
    · exact hf d hd (hd2.trans e)
    · have e : ρ.π c = r := e
      omega
  · rcases hcase b hb with ⟨h1, h2⟩ | ⟨h1, h2, h3⟩
    · rw [hpA b h1]
      rcases himg b h1 with ⟨c, hc, e⟩ | h
      · rw [← e]
        exact I.img c (by rw [(hg hc).1]; exact hc)
      · exact .inr (Nat.le_trans I.hsize h)
    · have hoz : OL bm tr rc L ops.size b ≠ .z := by rw [h2]; exact hb
      rw [hpB b hoz]
      exact I.img b hoz
end
end Go.Proofs.YtphfekkllibphaaGreatDoor.Ev
namespace Go.Proofs.YtphfekkllibphaaGreatDoor.Ev
open Go Go.RowKit

section
variable {P : Program} {D : FuncId → Bool} {C : CT} {N : Nat} {bm : List Nat} {ops : Array Oper} {tr : Nat → Tr} {rc : Nat → Rc} {m : Nat} {L : Nat → Bool} {ρ0 ρ ρ' : Ren} {a0 a : Act} {w0 w w' : World}
theorem wantedK_cut {o : Oper} {fr : Fr} {yes no : Bool} : wantedK ops o (cutF N (o.looksAt ops) fr) yes no = wantedK ops o fr yes no := by
  unfold wantedK
  cases hg : o.guard with
  | none => rfl
  | some q =>
    obtain ⟨j, want⟩ := q
    cases hd : (ops[j]?).bind (·.dst) with
    | none => simp only [hd]
    | some d =>
      simp only [hd]
      have hm : d ∈ o.looksAt ops := by
        refine List.mem_append_right _ ?_
        rw [hg]
        simp only [hd]
        exact List.mem_singleton.2 rfl
      have e : (cutF N (o.looksAt ops) fr).get .u (d + 1) = fr.get .u (d + 1) := by
        rcases cutF_get N (o.looksAt ops) fr d with ⟨h, _⟩ | ⟨_, h⟩
        · exact absurd hm h.2
        · exact h
      rw [show Nat.succ d = d + 1 from rfl, e]
theorem Run.step (R : Run P N bm ops tr rc) (hN : ∀ o ∈ ops.toList, ∀ d, o.dst = some d → d < N) (hm : m ≤ ops.size) (F0 : ∀ b, (tr 0).h.nx ≤ b → (tr 0).h.get b = .z) (F : ∀ j, j < m → Facts (tr j)) (hL : LOK bm m L) {i : Nat} {o : Oper} (ho : ops[i]? = some o) (him : i ≤ m) (hLi : L i = false)
    (hpre : ∀ j, (bm.getD i 0).testBit j = true → L j = true) (W : Wit tr i) (I : Inv bm ops tr rc N ρ0 a0 w0 L ρ a w) {K : Act → World → Prop} {Q : Exit → Act → World → Prop}
    (hK : ∀ ρ' a' w', Inv bm ops tr rc N ρ0 a0 w0 (got L i) ρ' a' w' → Facts (tr i) → K a' w') : wpOp P ops Q i K a w := by
  have hi := (Array.getElem?_eq_some_iff.1 ho).1
  have g := R.good i o ho
  have hs := R.sat hm F0 F hL hi him hLi hpre W I
  have hf := R.frc hN hL ho hLi hpre W I
  unfold wpOp
  rw [ho]
  simp only []
  cases hw : (tr i).want with
  | true =>
    obtain ⟨hw1, hop⟩ := g.yes hw
    have hwant : Region.wanted o (yielded ops a.tmps) = true := by
      rw [← wantedK_cut (N := N)] at hw1
      rcases wantedK_ok hw1 with ⟨_, h⟩ | ⟨h, _⟩
      · exact h _ a hf
      · cases h
    rw [if_pos hwant]
    refine .inl (hop _ a w K Q hf hs (fun ρ' w' x hv hs' st => ?_))
    have Fi : Facts (tr i) := ⟨by rw [← g.nxg]; exact st.nx, fun b hb hl => st.keep b (by rw [g.nxg]; exact hb) hl, fun b hb => hs'.fresh hb⟩
    obtain ⟨ρ2, I2⟩ := R.next hN hm F0 F hL ho him hLi hpre I Fi hv hs' st
    exact hK ρ2 _ _ I2 Fi
  | false =>
    obtain ⟨hw1, hv, hg⟩ := g.no hw
    have hwant : Region.wanted o (yielded ops a.tmps) = false := by
      rw [← wantedK_cut (N := N)] at hw1
      rcases wantedK_ok hw1 with ⟨h, _⟩ | ⟨_, h⟩
      · cases h
      · exact h _ a hf
    rw [if_neg (by rw [hwant]; simp)]
    have Fi : Facts (tr i) := ⟨by rw [hg, g.nxg]; exact Nat.le_refl _, fun b _ _ => by rw [hg], fun b hb => by rw [hg] at hb ⊢; exact hs.fresh hb⟩
    obtain ⟨ρ2, I2⟩ := R.next (ρ' := ρ.cut (tr i).h.nx) (w' := w) (x := undef) hN hm F0 F hL ho him hLi hpre I Fi (by rw [hv]; exact VR.tup' .nil) (by rw [hg]; exact hs) (by rw [hg]; exact .refl _ _ _)
    exact hK ρ2 _ _ I2 Fi
/-- Something comes of an operation that can't fail. -/
theorem wp_ex {o : Oper} {next : Act → World → Prop} (h : o.wp P a w next (fun _ _ _ => False)) : ∃ a' w', next a' w' := by
  unfold Oper.wp at h
  generalize (execOp a.eval o).run P w = r at h
  cases r with
  | ok n w1 =>
    cases n with
    | value v => exact ⟨_, _, h⟩
    | skip => exact ⟨_, _, h⟩
    | defer d => exact ⟨_, _, h⟩
    | enter f args =>
      obtain ⟨e, w2, fr, hR, _⟩ := h []
      cases e with
      | returned v => exact ⟨_, _, hR⟩
      | panicked c => exact hR.elim
      | outgrown =>
        obtain ⟨_, _, hF⟩ := hR
        exact hF.elim
    | row r args =>
      obtain ⟨v, w2, hR, _⟩ := h default []
      exact ⟨_, _, hR⟩
    | _ => exact h.elim
  | halt x w1 => cases x <;> exact h.elim
theorem wpOp_ex {i : Nat} {K : Act → World → Prop} (h : wpOp P ops (fun _ _ _ => False) i K a w) : ∃ a' w', K a' w' := by
  unfold wpOp at h
  split at h
  · exact ⟨_, _, h⟩
  · split at h
    · rcases h with h | ⟨_, _, _, h⟩
      · exact wp_ex h
      · exact h.elim
    · exact ⟨_, _, h⟩
theorem Run.lt (R : Run P N bm ops tr rc) : ∀ j i, (bm.getD j 0).testBit i = true → i < j := by
  intro j
  induction j using Nat.strongRecOn with
  | ind j ih =>
    intro i hi
    obtain ⟨o, e, h1, h2, h3, h4⟩ := R.bits j i hi
    have hlt : e.on < j := backward_spec (drawsOK_back R.draws) h1 e h2 h3
    rcases h4 with h4 | ⟨_, h6⟩
    · omega
    · have := ih e.on hlt i h6
      omega
open Classical in
theorem ol_first (k : Nat) (hk : k ≤ ops.size) (h1 : ∀ j, j < k → L j = true) (h2 : ∀ j, k ≤ j → j < ops.size → L j = false) (b : Nat) : OL bm tr rc L ops.size b = OL bm tr rc (fun _ => true) k b := by
  have hA : ∀ j, j ≤ k → OL bm tr rc L j b = OL bm tr rc (fun _ => true) j b := by
    intro j
    induction j with
    | zero => exact fun _ => rfl
    | succ j ih =>
      intro hj
      unfold OL
      rw [ih (by omega), h1 j (by omega)]
  have hB : ∀ j, k ≤ j → j ≤ ops.size → OL bm tr rc L j b = OL bm tr rc L k b := by
    intro j
    induction j with
    | zero => intro h _; rw [Nat.le_zero.1 h]
    | succ j ih =>
      intro hij hj
      by_cases e : k = j + 1
      · rw [e]
      · rw [← ih (by omega) (by omega)]
        show (if _ then _ else _) = _
        exact if_neg (fun h => by rw [h2 j (by omega) (by omega)] at h; cases h.1)
  rw [hB ops.size hk (Nat.le_refl _), hA k (Nat.le_refl _)]
theorem fl_first (k : Nat) (hk : k ≤ ops.size) (h1 : ∀ j, j < k → L j = true) (h2 : ∀ j, k ≤ j → j < ops.size → L j = false) (t : Nat) : FL ops tr L ops.size t = FL ops tr (fun _ => true) k t := by
  have hA : ∀ j, j ≤ k → FL ops tr L j t = FL ops tr (fun _ => true) j t := by
    intro j
    induction j with
    | zero => exact fun _ => rfl
    | succ j ih =>
      intro hj
      unfold FL
      rw [ih (by omega), h1 j (by omega)]
  have hB : ∀ j, k ≤ j → j ≤ ops.size → FL ops tr L j t = FL ops tr L k t := by
    intro j
    induction j with
    | zero => intro h _; rw [Nat.le_zero.1 h]
    | succ j ih =>
      intro hij hj
      by_cases e : k = j + 1
      · rw [e]
      · rw [← ih (by omega) (by omega)]
        show (if _ then _ else _) = _
        exact if_neg (fun h => by rw [h2 j (by omega) (by omega)] at h; cases h.1)
  rw [hB ops.size hk (Nat.le_refl _), hA k (Nat.le_refl _)]
/-- What is known when the first k have come up. -/
theorem Run.first (R : Run P N bm ops tr rc) (F0 : ∀ b, (tr 0).h.nx ≤ b → (tr 0).h.get b = .z) {k : Nat} (hk : k ≤ ops.size) (F : ∀ j, j < k → Facts (tr j)) (h1 : ∀ j, j < k → L j = true) (h2 : ∀ j, k ≤ j → L j = false) (I : Inv bm ops tr rc N ρ0 a0 w0 L ρ a w) :
    (∀ b, ρ.d b → b < (tr k).h.nx) ∧ FR ρ (tr k).fr a ∧ ∀ b, OR ρ w b ((tr k).h.get b) := by
  have hnx := R.nx hk F
  refine ⟨fun b hb => ?_, fun t => ?_, fun b => ?_⟩
  · rcases I.dom b hb with h | ⟨j, hj, h⟩
    · have := hnx k (Nat.le_refl _) 0 (Nat.zero_le _)
      omega
    · have hjk : j < k := by
        apply Classical.byContradiction
        intro hge
        rw [h2 j (by omega)] at hj
        cases hj
      have := hnx k (Nat.le_refl _) (j + 1) (by omega)
      have hl := R.lo (i := j) (by omega)
      omega
  · rcases R.f1s k hk t with e | e
    · rw [e, ← fl_first k hk h1 (fun j hj _ => h2 j hj) t]
      exact I.sl t
    · rw [e]; exact .u _
  · rcases R.f1 hk F0 F k (Nat.le_refl _) b with e | e
    · rw [e, ← ol_first k hk h1 (fun j hj _ => h2 j hj) b]
      exact I.o b
    · rw [e]; trivial
/-- The play in order. -/
theorem Run.canon (R : Run P N bm ops tr rc) (hN : ∀ o ∈ ops.toList, ∀ d, o.dst = some d → d < N) (F0 : ∀ b, (tr 0).h.nx ≤ b → (tr 0).h.get b = .z) (I0 : Inv bm ops tr rc N ρ0 a0 w0 (fun _ => false) ρ0 a0 w0) :
    ∀ k, k ≤ ops.size → (∀ j, j < k → Facts (tr j)) ∧ ∃ ρ a w, Inv bm ops tr rc N ρ0 a0 w0 (fun j => decide (j < k)) ρ a w := by
  intro k
  induction k with
  | zero =>
    refine fun _ => ⟨fun j hj => absurd hj (Nat.not_lt_zero _), ρ0, a0, w0, ?_⟩
    have : (fun j => decide (j < 0)) = fun _ : Nat => false := funext fun j => by simp
    rw [this]
    exact I0
  | succ k ih =>
    intro hk
    obtain ⟨F, ρ, a, w, I⟩ := ih (by omega)
    obtain ⟨o, ho⟩ := ops_some (ops := ops) (i := k) (by omega)
    have h1 : ∀ j, j < k → (fun j => decide (j < k)) j = true := fun j hj => by simpa using hj
    have h2 : ∀ j, k ≤ j → (fun j => decide (j < k)) j = false := fun j hj => by simpa using hj
    have hL : LOK bm k (fun j => decide (j < k)) := ⟨fun j hj i hi => by
      have := R.lt j i hi
      have hj : j < k := by simpa using hj
      simp
      omega, fun j hj => by simpa using hj⟩
    have W : Wit tr k := ⟨ρ, a, w, R.first F0 (by omega) F h1 h2 I⟩
    obtain ⟨a', w', ρ', I', Fk⟩ := wpOp_ex (R.step hN (by omega) F0 F hL ho (Nat.le_refl _) (h2 k (Nat.le_refl _)) (fun j hj => by have := R.lt k j hj; simpa using this) W I (K := fun a' w' => ∃ ρ', Inv bm ops tr rc N ρ0 a0 w0 (got (fun j => decide (j < k)) k) ρ' a' w' ∧ Facts (tr k)) (Q := fun _ _ _ => False) (fun ρ' a' w' I' Fk => ⟨ρ', I', Fk⟩))
    refine ⟨fun j hj => ?_, ρ', a', w', ?_⟩
    · by_cases e : j = k
      · rw [e]; exact Fk
      · exact F j (by omega)
    · have : (fun j => decide (j < k + 1)) = got (fun j => decide (j < k)) k := funext fun j => by
        unfold got
        by_cases e : j = k
        · simp [e]
        · have : (j < k + 1) = (j < k) := by simp; omega
          simp [e, this]
      rw [this]
      exact I'
end
end Go.Proofs.YtphfekkllibphaaGreatDoor.Ev
namespace Go.Proofs.YtphfekkllibphaaGreatDoor.Ev
open Go Go.RowKit

section
variable {P : Program} {D : FuncId → Bool} {C : CT} {N : Nat} {bm : List Nat} {ops : Array Oper} {tr : Nat → Tr} {rc : Nat → Rc} {L : Nat → Bool} {ρ0 ρ : Ren} {a0 a : Act} {w0 w : World}
theorem Run.acc_inv (R : Run P N bm ops tr rc) : ∀ k, k ≤ ops.size → ∀ q ∈ (tr k).acc, ∃ j, j < k ∧ q = rc j := by
  intro k
  induction k with
  | zero => intro _ q hq; rw [R.acc0] at hq; cases hq
  | succ k ih =>
    intro hk q hq
    obtain ⟨o, ho⟩ := ops_some (ops := ops) (i := k) (by omega)
    rw [(R.good k o ho).acc] at hq
    rcases List.mem_cons.1 hq with h | h
    · exact ⟨k, by omega, h⟩
    · obtain ⟨j, hj, e⟩ := ih (by omega) q h
      exact ⟨j, by omega, e⟩
theorem Run.lg (R : Run P N bm ops tr rc) : ∀ k, k ≤ ops.size → ∀ j, j ≤ k → ∀ b, b ∈ (tr j).h.lg → b ∈ (tr k).h.lg := by
  intro k
  induction k with
  | zero => intro _ j hj b hb; rw [Nat.le_zero.1 hj] at hb; exact hb
  | succ k ih =>
    intro hk j hj b hb
    by_cases e : j = k + 1
    · rw [← e]; exact hb
    · obtain ⟨o, ho⟩ := ops_some (ops := ops) (i := k) (by omega)
      exact (R.good k o ho).lg b (.inl (ih (by omega) j (by omega) b hb))
theorem Run.wlg (R : Run P N bm ops tr rc) {j k b : Nat} (hk : k ≤ ops.size) (hj : j < k) (hb : b ∈ (rc j).wr) : b ∈ (tr k).h.lg := by
  obtain ⟨o, ho⟩ := ops_some (ops := ops) (i := j) (by omega)
  exact R.lg k hk (j + 1) (by omega) b ((R.good j o ho).lg b (.inr hb))
theorem Run.df (R : Run P N bm ops tr rc) : ∀ k, k ≤ ops.size → (tr k).h.df = (tr 0).h.df := by
  intro k
  induction k with
  | zero => exact fun _ => rfl
  | succ k ih =>
    intro hk
    obtain ⟨o, ho⟩ := ops_some (ops := ops) (i := k) (by omega)
    rw [(R.good k o ho).df, ih (by omega)]
/-- What isn't told as written stays known as it was. -/
theorem Run.keep (R : Run P N bm ops tr rc) {m : Nat} (hm : m ≤ ops.size) (F : ∀ j, j < m → Facts (tr j)) : ∀ k, k ≤ m → ∀ b, b < (tr 0).h.nx → b ∉ (tr k).h.lg → (tr k).h.get b = (tr 0).h.get b := by
  intro k
  induction k with
  | zero => exact fun _ _ _ _ => rfl
  | succ k ih =>
    intro hk b hb hl
    obtain ⟨o, ho⟩ := ops_some (ops := ops) (i := k) (by omega)
    have g := R.good k o ho
    have hlk : b ∉ (tr k).h.lg := fun h => hl (g.lg b (.inl h))
    rw [← ih (by omega) b hb hlk]
    have hnx := R.nx hm F k (by omega) 0 (Nat.zero_le _)
    cases hf : (rc k).free with
    | true =>
      refine g.hf2 hf b (fun h => ?_)
      have := (R.lo (i := k) (by omega)).1
      omega
    | false =>
      have hh : ∀ q ∈ looseOf bm k (tr k).acc, ¬ q.has b := by
        intro q hq hqb
        obtain ⟨j, hj, rfl⟩ := R.acc_inv k (by omega) q (List.mem_filter.1 hq).1
        rcases hqb with h | h
        · exact hlk (R.wlg (by omega) hj h)
        · have h1 := (R.lo (i := j) (by omega)).1
          have h2 := R.nx hm F j (by omega) 0 (Nat.zero_le _)
          omega
      rw [g.hn2 hf b hh, (F k (by omega)).keep b (by omega) (fun h => hl (g.lg b (.inr (R.wr_in (by omega) (by omega) h)))), g.gn hf b hh]
theorem LOK.of (R : Run P N bm ops tr rc) (h1 : ∀ (j : Nat) (o : Oper), ops[j]? = some o → L j = true → ∀ e ∈ o.after, Region.binds .any e = true → L e.on = true) (h2 : ∀ j, L j = true → j < ops.size) : LOK bm ops.size L :=
  ⟨fun j hj i hi => bits_closed R.bits h1 j hj i hi, h2⟩
theorem draw_ok (hm : P.follows .mixedOrders = true) (hC : CallOK P D C) : DrawOK P C := by
  intro N ops K fr h hN hk
  obtain ⟨bm, hB, hk⟩ := befK_ok ops.toList [] rfl (fun j i hj => by have := getD_lt hj; simp at this) hk
  obtain ⟨hdraws, hk⟩ := recB_false hk
  obtain ⟨tr, rc, t1, t2, t3, t4, t5⟩ := regDK_ok (N := N) hC ops.toList.zipIdx 0 [] fr h rfl hk
  have R : Run P N bm ops tr rc := ⟨fun i o ho => t5 i o (Nat.zero_le _) ho, t3, hB, hdraws⟩
  have hlen : 0 + ops.toList.zipIdx.length = ops.size := by simp
  rw [hlen] at t4
  refine ⟨_, _, t4, fun ρ a w Q id s kn => ?_⟩
  subst t1
  subst t2
  have F0 : ∀ b, (tr 0).h.nx ≤ b → (tr 0).h.get b = .z := fun b hb => s.sat.fresh hb
  have hOL0 : ∀ b, OL bm tr rc (fun _ => false) ops.size b = (tr 0).h.get b := fun b => ol_first 0 (Nat.zero_le _) (fun j hj => absurd hj (Nat.not_lt_zero _)) (fun _ _ _ => rfl) b
  have hFL0 : ∀ t, FL ops tr (fun _ => false) ops.size t = (tr 0).fr.get .u (t + 1) := fun t => fl_first 0 (Nat.zero_le _) (fun j hj => absurd hj (Nat.not_lt_zero _)) (fun _ _ _ => rfl) t
  have I0 : Inv bm ops tr rc N ρ a w.drew (fun _ => false) ρ a w.drew := by
    refine ⟨fun t => by rw [hFL0]; exact s.fr t, s.size, rfl, fun b => by rw [hOL0]; exact s.sat.drew.o b, fun b c hb hc e => ?_, fun b hb => .inl ⟨hb, by rw [← s.sat.n]; exact Ren.lt hb⟩, .refl _, rfl, rfl, rfl, Nat.le_refl _, fun _ _ _ => rfl, fun b hb => .inl ⟨b, by rw [← hOL0]; exact hb, rfl⟩⟩
    rw [hOL0] at hb hc
    exact s.sat.inj b c hb hc e
  have can := R.canon hN F0 I0
  obtain ⟨F, _⟩ := can ops.size (Nat.le_refl _)
  have hW : ∀ i, i < ops.size → Wit tr i := by
    intro i hi
    obtain ⟨Fi, ρc, ac, wc, I⟩ := can i (by omega)
    exact ⟨ρc, ac, wc, R.first F0 (by omega) Fi (fun j hj => by simpa using hj) (fun j hj => by simpa using hj) I⟩
  refine wp_region_inv hm (drawsOK_back hdraws) (fun L a' w' => ((∀ (j : Nat) (o : Oper), ops[j]? = some o → L j = true → ∀ e ∈ o.after, Region.binds .any e = true → L e.on = true) ∧ ∀ j, L j = true → j < ops.size) ∧ ∃ ρ', Inv bm ops tr rc N ρ a w.drew L ρ' a' w') ⟨⟨fun _ _ _ h => (by cases h), fun _ h => (by cases h)⟩, ρ, I0⟩ ?_ ?_
  · intro L i o a' w' ho hLi hpre ⟨⟨hc1, hc2⟩, ρ', I⟩
    have hi := (Array.getElem?_eq_some_iff.1 ho).1
    have hL := LOK.of R hc1 hc2
    refine R.step hN (Nat.le_refl _) F0 F hL ho (by omega) hLi (fun j hj => ?_) (hW i hi) I (fun ρ2 a2 w2 I2 _ => ⟨⟨fun j oj hj hgj e he hbe => ?_, fun j hj => ?_⟩, ρ2, I2⟩)
    · obtain ⟨o', e, h1, h2, h3, h4⟩ := hB i j hj
      rw [ho] at h1
      injection h1 with h1
      subst h1
      rcases h4 with h4 | ⟨_, h4⟩
      · rw [← h4]; exact hpre e h2 h3
      · exact hL.cl e.on (hpre e h2 h3) j h4
    · by_cases ej : j = i
      · subst ej
        rw [ho] at hj
        injection hj with hj
        subst hj
        unfold got
        rw [hpre e he hbe]; rfl
      · rw [got_ne ej] at hgj
        unfold got
        rw [hc1 j oj hj hgj e he hbe]; rfl
    · by_cases ej : j = i
      · rw [ej]; exact hi
      · rw [got_ne ej] at hj
        exact hc2 j hj
  · intro L a' w' hall ⟨⟨hc1, hc2⟩, ρ', I⟩
    have h1 : ∀ j, j < ops.size → L j = true := hall
    have h2 : ∀ j, ops.size ≤ j → L j = false := fun j hj => by
      cases h : L j with
      | false => rfl
      | true => have := hc2 j h; omega
    obtain ⟨g1, g2, g3⟩ := R.first F0 (Nat.le_refl _) F h1 h2 I
    have hle : ρ'.le (ρ'.cut (tr ops.size).h.nx) := ⟨fun b hb => ⟨hb, g1 b hb⟩, fun _ _ => rfl, fun _ _ => rfl, rfl, rfl, rfl⟩
    have hol : ∀ b, (tr ops.size).h.get b ≠ .z → OL bm tr rc L ops.size b = (tr ops.size).h.get b := by
      intro b hb
      rcases R.f1 (Nat.le_refl _) F0 F ops.size (Nat.le_refl _) b with e | e
      · rw [e]
        exact ol_first ops.size (Nat.le_refl _) h1 (fun j hj hj2 => absurd hj2 (by omega)) b
      · exact absurd e hb
    have hnx := R.nx (Nat.le_refl _) F ops.size (Nat.le_refl _) 0 (Nat.zero_le _)
    refine kn (ρ'.cut (tr ops.size).h.nx) a' w' ⟨g2.mono hle, ⟨rfl, fun b => (g3 b).keep hle (fun _ => rfl), fun b c hb hc e => I.inj b c (by rw [hol b hb]; exact hb) (by rw [hol c hc]; exact hc) e⟩, I.size, ?_⟩ ?_
    · rw [R.df ops.size (Nat.le_refl _), I.df]
      exact s.df.mono (I.le.trans hle)
    · refine ⟨I.le.trans hle, I.os, I.tape, I.output, I.hsize, I.frame, fun b hb => I.img b (by rw [hol b hb]; exact hb), hnx, fun b hb => R.lg ops.size (Nat.le_refl _) 0 (Nat.zero_le _) b hb, fun b hb hl => R.keep (Nat.le_refl _) F ops.size (Nat.le_refl _) b hb hl, R.df ops.size (Nat.le_refl _), fun b hb => ?_⟩
      rcases I.dom b hb.1 with h | ⟨k, hk, h⟩
      · exact .inl h.1
      · refine .inr ⟨?_, hb.2⟩
        have h3 := (R.lo (i := k) (hc2 k hk)).1
        have h4 := R.nx (Nat.le_refl _) F k (Nat.le_of_lt (hc2 k hk)) 0 (Nat.zero_le _)
        omega
/-- The reckoner is right. -/
theorem reckon {S : FuncId → Option (List V → H → KT → Bool)} (hS : StandOK P S) (hm : P.follows .mixedOrders = true) (hO : Own P) (n m : Nat) : CallOK P (mayDefer P S) (callK P S n m) :=
  callK_ok hS (fun _ hC => draw_ok hm hC) hO n m
end
end Go.Proofs.YtphfekkllibphaaGreatDoor.Ev
namespace Go.Proofs.YtphfekkllibphaaGreatDoor.Ev
open Go Go.RowKit

/-- A call that panics, with what; the last: where it doesn't panic. -/
abbrev PT := FuncId → List V → H → (V → H → Bool) → (Unit → Bool) → Bool
noncomputable def callP (c : Call) (CP : PT) (fr : Fr) (h : H) (K : V → H → Bool) (F : Unit → Bool) : Bool :=
  match c.callee with
  | .value f => (match opd f fr with | .f (.func g) first cap => CP g (first ++ opds c.args.toList fr ++ cap) h K F | _ => F ())
  | _ => F ()
noncomputable def regP (P : Program) (C : CT) (CP : PT) (ops : Array Oper) (K : V → Fr → H → Bool) (F : Unit → Bool) : List Oper → Fr → H → Bool :=
  List.rec (fun _ _ => F ()) (fun o _ ih fr h => wantedK ops o fr
    (match o.op with
    | .panic x => (match opd x fr with | .ic t v => K (.ic t v) fr h | _ => false)
    | .defer _ => F ()
    | .call c => callP c CP fr h (fun v h => K v fr h) fun _ => opK P (.call c) C fr h fun v h => putK o.dst v fr fun fr => ih fr h
    | op => opK P op C fr h fun v h => putK o.dst v fr fun fr => ih fr h)
    (putK o.dst (.tup []) fr fun fr => ih fr h))
noncomputable def codeP (P : Program) (C : CT) (CP : PT) (d : Bool) (M : Nat) : Nat → Code → Fr → H → (V → Fr → H → Bool) → (Unit → Bool) → Bool :=
  Nat.rec (fun _ _ _ _ F => F ()) (fun _ ih c fr h K F => match c with
    | .region _ ops false => regP P C CP ops K F ops.toList fr h
    | .seq a b => ih a fr h K fun _ => execK P C d M a fr h (fun fr h => ih b fr h K F) (fun _ _ _ => F ())
    | .cond c a b => onB (opd c fr) fun x => x.rec (ih b fr h K F) (ih a fr h K F)
    | .block _ b => ih b fr h K F
    | .scope b => ih b fr h K F
    | .loop b => ih b fr h K fun _ => execK P C d M b fr h (fun fr h => ih (.loop b) fr h K F) (fun _ _ _ => F ())
    | _ => F ())
/-- Calls that panic, by their code. -/
noncomputable def panK (P : Program) (C : CT) (M n : Nat) : Nat → PT :=
  Nat.rec (fun _ _ _ _ F => F ()) (fun _ ih f args h K F => Option.rec (F ()) (fun fn => Option.rec (F ()) (fun c => (codeOK fn.ntmps c && Nat.ble args.length fn.ntmps).rec (F ()) <|
      T.layK args (full .u 11) 1 fun fr => (defersOf c).rec (codeP P C ih false M n c fr ⟨h.t, h.nx, [], []⟩ (fun v _ h' => K v ⟨h'.t, h'.nx, trim h.nx h'.lg h.lg, h.df⟩) F) (F ())) fn.body) ((ftab P).get none (Nat.succ f)))
def PanOK (P : Program) (CP : PT) : Prop :=
  ∀ (f : FuncId) (args : List V) (h : H) (K : V → H → Bool) (F : Unit → Bool), CP f args h K F = true → (∃ v h', K v h' = true ∧
    ∀ (ρ : Ren) (w : World) (as : List Value), Sat ρ h w → LR ρ args as → ∀ (o : Oper) (a : Act) (next : Act → World → Prop) (Q : Exit → Act → World → Prop),
      (∀ x w', (∃ ρ', VR ρ' v x ∧ Sat ρ' h' w' ∧ Step ρ h w ρ' h' w') → Q (.panic [{ v := x, recovered := false }]) a w') → o.upon P a next Q ((callFunc f as.toArray).run P w)) ∨ F () = true
/-- The code panics so. -/
def PEnds (P : Program) (N : Nat) (d : Bool) (c : Code) (fr : Fr) (h : H) (v : V) (fr' : Fr) (h' : H) : Prop :=
  ∀ (ρ : Ren) (a : Act) (w : World) (Q : Exit → Act → World → Prop), St N ρ fr h a w → (∀ ρ' a' w' x, St N ρ' fr' h' a' w' → VR ρ' v x → Gone d ρ h w ρ' h' w' → Q (.panic [{ v := x, recovered := false }]) a' w') → wpX P c Q a w
section
variable {P : Program} {D : FuncId → Bool} {C : CT} {CP : PT} {N M : Nat} {d : Bool}
theorem or_true {a b : Bool} (h : (a || b) = true) : a = true ∨ b = true := by simpa using h
theorem regP_ok {ops : Array Oper} {K : V → Fr → H → Bool} {F : Unit → Bool} (hC : CallOK P D C) (hP : PanOK P CP) (hN : ∀ o ∈ ops.toList, ∀ d, o.dst = some d → d < N) : ∀ (l : List Oper) (k : Nat) (fr : Fr) (h : H), ops.toList.drop k = l → regP P C CP ops K F l fr h = true →
    (∃ v fr' h', K v fr' h' = true ∧ ∀ (ρ : Ren) (a : Act) (w : World) (Q : Exit → Act → World → Prop), St N ρ fr h a w → (∀ ρ' a' w' x, St N ρ' fr' h' a' w' → VR ρ' v x → Step ρ h w ρ' h' w' → Q (.panic [{ v := x, recovered := false }]) a' w') →
      wpOps P ops Q (List.range' k l.length) a w) ∨ F () = true := by
  intro l
  induction l with
  | nil => exact fun k fr h _ hk => .inr hk
  | cons o l ih =>
    intro k fr h hl hk
    have ho : ops[k]? = some o := by
      have : (ops.toList.drop k)[0]? = some o := by rw [hl]; rfl
      rw [List.getElem?_drop, Array.getElem?_toList] at this
      exact this
    have hl' : ops.toList.drop (k + 1) = l := by
      rw [← List.tail_drop, hl]
      rfl
    have hdst : ∀ t, o.dst = some t → t < N := fun t e => hN o (List.mem_of_getElem? (by rw [Array.getElem?_toList]; exact ho)) t e
    have plain : ∀ (hw : ∀ (ρ : Ren) (a : Act), FR ρ fr a → Region.wanted o (yielded ops a.tmps) = true), (opK P o.op C fr h fun v h => putK o.dst v fr fun fr => regP P C CP ops K F l fr h) = true →
        (∃ v fr' h', K v fr' h' = true ∧ ∀ (ρ : Ren) (a : Act) (w : World) (Q : Exit → Act → World → Prop), St N ρ fr h a w → (∀ ρ' a' w' x, St N ρ' fr' h' a' w' → VR ρ' v x → Step ρ h w ρ' h' w' → Q (.panic [{ v := x, recovered := false }]) a' w') →
          wpOps P ops Q (List.range' k (o :: l).length) a w) ∨ F () = true := by
      intro hw hk
      obtain ⟨v, h1, hk, hr1⟩ := opK_ok hC hk
      replace hk := (putK_eq _ _ _ _).symm.trans hk
      rcases ih (k + 1) _ _ hl' hk with ⟨z, fr', h', hk, hr⟩ | hF
      rotate_left
      · exact .inr hF
      refine .inl ⟨z, fr', h', hk, fun ρ a w Q s kn => ?_⟩
      rw [List.length_cons, List.range'_succ, wpOps_cons]
      unfold wpOp
      rw [ho]
      simp only []
      rw [if_pos (hw ρ a s.fr)]
      refine .inl (hr1 ρ a w o _ Q rfl s.fr s.sat (fun ρ' w' x hv hs st => ?_))
      exact hr ρ' _ w' Q (s.put hv hs st hdst) (fun ρ2 a2 w2 x2 s2 hv2 st2 => kn ρ2 a2 w2 x2 s2 hv2 (st.trans st2))
    rcases wantedK_ok hk with ⟨hk, hw⟩ | ⟨hk, hw⟩
    · split at hk
      · rename_i x hop
        split at hk <;> first | (cases hk; done) | skip
        rename_i t v hx
        refine .inl ⟨_, fr, h, hk, fun ρ a w Q s kn => ?_⟩
        rw [List.length_cons, List.range'_succ, wpOps_cons]
        unfold wpOp
        rw [ho]
        simp only []
        rw [if_pos (hw ρ a s.fr)]
        have hv := s.fr.opd x
        rw [hx] at hv
        obtain ⟨y, he, hvy⟩ := hv.ic_inv
        refine .inl ?_
        unfold Oper.wp
        have hrun : (execOp a.eval o).run P w = .halt (.panic (.iface t y)) w := by
          simp [execOp, hop, he, Instr.panic, goPanic]
        rw [hrun, Oper.upon_panic]
        exact kn ρ a w _ s (.ic hvy) (.refl _ _ _)
      · exact .inr hk
      · rename_i c hop
        have go : (opK P (.call c) C fr h fun v h => putK o.dst v fr fun fr => regP P C CP ops K F l fr h) = true → _ := fun hk => plain hw (by rw [hop]; exact hk)
        unfold callP at hk
        split at hk
        · rename_i f hc
          split at hk
          · rename_i g first cap hf
            rcases hP _ _ _ _ _ hk with ⟨v, h', hk, hr⟩ | hF
            rotate_left
            · exact go hF
            refine .inl ⟨v, fr, h', hk, fun ρ a w Q s kn => ?_⟩
            rw [List.length_cons, List.range'_succ, wpOps_cons]
            unfold wpOp
            rw [ho]
            simp only []
            rw [if_pos (hw ρ a s.fr)]
            refine .inl ?_
            have hv := s.fr.opd f
            rw [hf] at hv
            obtain ⟨l', k', he, h1, h2⟩ := hv.f_inv
            have hl : LR ρ (first ++ opds c.args.toList fr ++ cap) (l'.toList ++ c.args.toList.map a.eval ++ k'.toList) := (h1.append (s.fr.opds _)).append h2
            have hd := hr ρ w _ s.sat hl o a (fun a w => wpOps P ops Q (List.range' (k + 1) l.length) a w) Q (fun x w' ⟨ρ', b1, b2, b3⟩ => kn ρ' a w' x ⟨s.fr.mono b3.le, b2, s.size, by rw [b3.df]; exact s.df.mono b3.le⟩ b1 b3)
            unfold Oper.wp
            have he2 : (execOp a.eval o).run P w = (callFunc g (l'.toList ++ c.args.toList.map a.eval ++ k'.toList).toArray).run P w := by
              simp only [execOp, hop, resolve, hc, he, Deferred.ofValue, Sem.run_bind, Sem.run_pure, Result.andThen_ok, invoke]
              rw [three, Array.toList_map]
            rw [he2]
            exact hd
          · exact go hk
        · exact go hk
      · exact plain hw hk
    · replace hk := (putK_eq _ _ _ _).symm.trans hk
      rcases ih (k + 1) _ _ hl' hk with ⟨v, fr', h', hk, hr⟩ | hF
      rotate_left
      · exact .inr hF
      refine .inl ⟨v, fr', h', hk, fun ρ a w Q s kn => ?_⟩
      rw [List.length_cons, List.range'_succ, wpOps_cons]
      unfold wpOp
      rw [ho]
      simp only []
      rw [if_neg (by rw [hw ρ a s.fr]; simp)]
      exact hr ρ _ w Q (s.put (VR.tup' .nil) s.sat (.refl _ _ _) hdst) kn
theorem codeP_ok (hC : CallOK P D C) (hD : DrawOK P C) (hP : PanOK P CP) : ∀ (n : Nat) (c : Code) (fr : Fr) (h : H) (K : V → Fr → H → Bool) (F : Unit → Bool), codeOK N c = true → codeP P C CP d M n c fr h K F = true →
    (∃ v fr' h', K v fr' h' = true ∧ PEnds P N d c fr h v fr' h') ∨ F () = true := by
  intro n
  induction n with
  | zero => exact fun c fr h K F _ hk => .inr hk
  | succ n ih =>
    intro c fr h K F hN hk
    cases c with
    | region id ops draw =>
      cases draw with
      | true => exact .inr hk
      | false =>
        rcases regP_ok hC hP (codeOK_region hN) ops.toList 0 fr h rfl hk with ⟨v, fr', h', hk, hr⟩ | hF
        · have hlen : List.range ops.size = List.range' 0 ops.toList.length := by rw [List.range_eq_range', Array.length_toList]
          refine .inl ⟨v, fr', h', hk, fun ρ a w Q s kn => wp_region ?_⟩
          rw [hlen]
          exact hr ρ a w Q s (fun ρ' a' w' x s' hv st => kn ρ' a' w' x s' hv ⟨st.bare, fun _ => st.df⟩)
        · exact .inr hF
    | seq x y =>
      obtain ⟨g1, g2⟩ := and2 (show (codeOK N x && codeOK N y) = true from hN)
      rcases ih x fr h K _ g1 (show codeP P C CP d M n x fr h K (fun _ => execK P C d M x fr h (fun fr h => codeP P C CP d M n y fr h K F) (fun _ _ _ => F ())) = true from hk) with ⟨v, fr', h', hk, hr⟩ | hk
      · exact .inl ⟨v, fr', h', hk, fun ρ a w Q s kn => wp_seq (wpX_wp (hr ρ a w _ s kn))⟩
      · rcases exec_ok hC hD M x fr h _ _ g1 hk with ⟨fr1, h1, hk, e1⟩ | ⟨q, fr1, h1, hk, e1⟩
        · rcases ih y fr1 h1 K F g2 hk with ⟨v, fr', h', hk, hr⟩ | hF
          · exact .inl ⟨v, fr', h', hk, fun ρ a w Q s kn => wp_seq (wpX_wp (e1 ρ a w _ s (fun ρ' a' w' s' st => wpX_wp (hr ρ' a' w' Q s' (fun ρ2 a2 w2 x2 s2 hv2 st2 => kn ρ2 a2 w2 x2 s2 hv2 (st.trans st2))))))⟩
          · exact .inr hF
        · exact .inr hk
    | cond c x y =>
      obtain ⟨g1, g2⟩ := and2 (show (codeOK N x && codeOK N y) = true from hN)
      have hk : onB (opd c fr) (fun z => Bool.rec (codeP P C CP d M n y fr h K F) (codeP P C CP d M n x fr h K F) z) = true := hk
      obtain ⟨z, hz, hk⟩ := onB_inv hk
      cases z with
      | true =>
        rcases ih x fr h K F g1 hk with ⟨v, fr', h', hk, hr⟩ | hF
        · exact .inl ⟨v, fr', h', hk, fun ρ a w Q s kn => wp_cond_true (s.fr.bo hz) (wpX_wp (hr ρ a w Q s kn))⟩
        · exact .inr hF
      | false =>
        rcases ih y fr h K F g2 hk with ⟨v, fr', h', hk, hr⟩ | hF
        · exact .inl ⟨v, fr', h', hk, fun ρ a w Q s kn => wp_cond_false (s.fr.bo hz) (wpX_wp (hr ρ a w Q s kn))⟩
        · exact .inr hF
    | block id b =>
      rcases ih b fr h K F hN hk with ⟨v, fr', h', hk, hr⟩ | hF
      · exact .inl ⟨v, fr', h', hk, fun ρ a w Q s kn => wp_block (wpX_wp (hr ρ a w _ s kn))⟩
      · exact .inr hF
    | scope b =>
      rcases ih b fr h K F hN hk with ⟨v, fr', h', hk, hr⟩ | hF
      · exact .inl ⟨v, fr', h', hk, fun ρ a w Q s kn => wp_scope_straight (wpX_wp (hr ρ a w _ s kn))⟩
      · exact .inr hF
    | loop b =>
      rcases ih b fr h K _ hN (show codeP P C CP d M n b fr h K (fun _ => execK P C d M b fr h (fun fr h => codeP P C CP d M n (.loop b) fr h K F) (fun _ _ _ => F ())) = true from hk) with ⟨v, fr', h', hk, hr⟩ | hk
      · exact .inl ⟨v, fr', h', hk, fun ρ a w Q s kn => lwp (wpX_wp (hr ρ a w _ s kn))⟩
      · rcases exec_ok hC hD M b fr h _ _ hN hk with ⟨fr1, h1, hk, e1⟩ | ⟨q, fr1, h1, hk, e1⟩
        · rcases ih (.loop b) fr1 h1 K F hN hk with ⟨v, fr', h', hk, hr⟩ | hF
          · exact .inl ⟨v, fr', h', hk, fun ρ a w Q s kn => lwp (wpX_wp (e1 ρ a w _ s (fun ρ' a' w' s' st => hr ρ' a' w' Q s' (fun ρ2 a2 w2 x2 s2 hv2 st2 => kn ρ2 a2 w2 x2 s2 hv2 (st.trans st2)))))⟩
          · exact .inr hF
        · exact .inr hk
    | _ => exact .inr hk
theorem panK_ok (hC : CallOK P D C) (hD : DrawOK P C) (hO : Own P) (M n : Nat) : ∀ m, PanOK P (panK P C M n m) := by
  intro m
  induction m with
  | zero => exact fun f args h K F hk => .inr hk
  | succ m ih =>
    intro f args h K F hk
    replace hk : (Option.rec (F ()) (fun fn => Option.rec (F ()) (fun c => (codeOK fn.ntmps c && Nat.ble args.length fn.ntmps).rec (F ()) <|
      T.layK args (full .u 11) 1 fun fr => (defersOf c).rec (codeP P C (panK P C M n m) false M n c fr ⟨h.t, h.nx, [], []⟩ (fun v _ h' => K v ⟨h'.t, h'.nx, trim h.nx h'.lg h.lg, h.df⟩) F) (F ())) fn.body) ((ftab P).get none (Nat.succ f)) : Bool) = true := hk
    cases hf : (ftab P).get none (Nat.succ f) with
    | none => rw [hf] at hk; exact .inr hk
    | some fn =>
      rw [hf] at hk
      have hf' := ftab_ok hf
      cases hb : fn.body with
      | none => simp only [hb] at hk; exact .inr hk
      | some c =>
        simp only [hb] at hk
        cases hg : (codeOK fn.ntmps c && Nat.ble args.length fn.ntmps) with
        | false => rw [hg] at hk; exact .inr hk
        | true => _
        rw [hg] at hk
        replace hk : (T.layK args (full .u 11) 1 fun fr => (defersOf c).rec (codeP P C (panK P C M n m) false M n c fr ⟨h.t, h.nx, [], []⟩ (fun v _ h' => K v ⟨h'.t, h'.nx, trim h.nx h'.lg h.lg, h.df⟩) F) (F ()) : Bool) = true := hk
        obtain ⟨g1, g2⟩ := and2 hg
        rw [T.layK_eq] at hk
        cases hdf : defersOf c with
        | true => rw [hdf] at hk; exact .inr hk
        | false => _
        rw [hdf] at hk
        rcases codeP_ok hC hD ih n c _ _ _ _ g1 hk with ⟨v, fr', h', hk, hr⟩ | hF
        rotate_left
        · exact .inr hF
        refine .inl ⟨v, _, hk, fun ρ w as s hl o a next Q hnx => ?_⟩
        rw [run_enter hO hf' hb, Oper.upon_enter]
        refine calls_of_wp hf' hb (wpX_wp (hr ρ _ w _ ⟨start_fr hl (ble_le g2), s.less rfl (fun _ => .inl rfl), ?_, .nil⟩ (fun ρ' a' w' x s' hv gn => ?_)))
        · have := hl.1
          have := ble_le g2
          simp
          omega
        · have hdf : h'.df = [] := gn.df rfl
          refine ⟨?_, ?_⟩
          · have := s'.df
            rw [hdf] at this
            exact this.nil_inv
          · exact hnx x w' ⟨ρ', hv, s'.sat.less rfl (fun _ => .inl rfl), Step.out (h := h) (h' := h'.bare) gn.st⟩
end
end Go.Proofs.YtphfekkllibphaaGreatDoor.Ev
