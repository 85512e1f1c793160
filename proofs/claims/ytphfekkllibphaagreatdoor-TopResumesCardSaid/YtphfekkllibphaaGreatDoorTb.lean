/- The letters' facts are so: those of t are reckoned for each of its values. -/
import Derived.Test.YtphfekkllibphaaGreatDoorEvLM
namespace Go.Proofs.YtphfekkllibphaaGreatDoor.Ev
open Go Go.RowKit

/-- A value with its letters' numbers. -/
noncomputable def evV (σ : Nat → Int) (v : V) : V := match v with | .x k a c => .i k (σ a + c) | v => v
/-- A number or a truth whose letters are of one kind (q: even or odd), from 10 on. -/
noncomputable def V.par (q : Nat) (v : V) : Bool := match v with | .x _ a _ => Nat.ble 10 a && Nat.ble (Nat.succ a) nLet && Nat.beq (Nat.mod a 2) q | .i _ _ => true | .b _ => true | _ => false
noncomputable def same1 (a b : V) : Bool := match a, b with | .i k m, .i j n => decide (k = j) && decide (m = n) | .b x, .b y => x == y | _, _ => false
theorem same1_eq {a b : V} (h : same1 a b = true) : a = b := by
  unfold same1 at h
  split at h <;> first | (cases h; done) | skip
  · obtain ⟨h1, h2⟩ := and2 h
    rw [of_decide_eq_true h1, of_decide_eq_true h2]
  · rw [eq_of_beq h]
theorem evV_of {m : Nat} {σ : Nat → Int} {v : V} {x : Value} (h : RV m σ v x) : RV 0 σ (evV σ v) x := by
  cases h with
  | i k n => exact .i k n
  | b y => exact .b y
  | x hm => exact .i _ _
/-- A number's letter is below m. -/
theorem of_evV {q : Nat} {σ : Nat → Int} {v : V} {x : Value} (hq : v.par q = true) (h : RV 0 σ (evV σ v) x) : RV nLet σ v x := by
  cases v with
  | x k a c =>
    obtain ⟨h1, _⟩ := and2 (show (Nat.ble 10 a && Nat.ble (Nat.succ a) nLet && Nat.beq (Nat.mod a 2) q) = true from hq)
    have h2 := ble_le (and2 h1).2
    have h3 : RV 0 σ (.i k (σ a + c)) x := h
    cases h3
    exact .x h2
  | i k n => cases (show RV 0 σ (.i k n) x from h); exact .i _ _
  | b y => cases (show RV 0 σ (.b y) x from h); exact .b _
  | _ => cases hq
/-- What is asked of a fact. -/
noncomputable def fxOK (q : Nat) (σ : Nat → Int) (f : Fx) : Bool := (f.a.par q && f.b.par q && f.r.par q).rec false <| vI (evV σ f.a) (fun k a => vI (evV σ f.b) (fun j b => (isShift f.o || decide (k = j)).rec false (binI f.o k a b ⟨.e, 0, [], []⟩ fun v _ => same1 v (evV σ f.r))) false) false
noncomputable def cxOK (q : Nat) (σ : Nat → Int) (f : Cx) : Bool := (f.a.par q && f.r.par q).rec false <| vI (evV σ f.a) (fun _ a => same1 (.i f.k (wrapK f.k a)) (evV σ f.r)) false
noncomputable def mxOK (q : Nat) (σ : Nat → Int) (f : Mx) : Bool := (f.a.par q && f.b.par q && f.r.par q).rec false <| vI (evV σ f.a) (fun k a => vI (evV σ f.b) (fun _ b => same1 (.i k (f.mx.rec (ltI b a |>.rec a b) (ltI a b |>.rec a b))) (evV σ f.r)) false) false
noncomputable def natV (σ : Nat → Int) (v : V) : Nat := vI (evV σ v) (fun _ n => n.toNat) 0
noncomputable def u8V (v : V) : Bool := match v with | .i .u8 _ => true | .x .u8 _ _ => true | _ => false
noncomputable def suOK (q : Nat) (σ : Nat → Int) (f : List V × V) : Bool := ((f.1.all fun v => v.par q && u8V v) && f.2.par q).rec false <| same1 (.i .u32 (.ofNat (nsum (f.1.map (natV σ))))) (evV σ f.2)
noncomputable def byOK (q : Nat) (σ : Nat → Int) (a : Nat) : Bool := (Nat.beq (Nat.mod a 2) q && Nat.ble 10 a).rec false (Int.rec (fun n => Nat.ble (Nat.succ n) 256) (fun _ => false) (σ a))
theorem vI_inv {v : V} {K : IntKind → Int → Bool} (h : vI v K false = true) : ∃ k n, v = .i k n ∧ K k n = true := by
  cases v with
  | i k n => exact ⟨k, n, rfl, h⟩
  | _ => cases h
theorem RV.i_inv {m : Nat} {σ : Nat → Int} {k : IntKind} {n : Int} {x : Value} (h : RV m σ (.i k n) x) : x = .int k n := by cases h; rfl
theorem fxOK_ok {q : Nat} {σ : Nat → Int} {f : Fx} (h : fxOK q σ f = true) {m : Nat} (x y : Value) (hx : RV m σ f.a x) (hy : RV m σ f.b y) : ∃ z, RV nLet σ f.r z ∧ ∀ P t w, (binOp f.o t x y).run P w = .ok z w := by
  unfold fxOK at h
  obtain ⟨h0, h⟩ := recB_false h
  obtain ⟨k, a, ea, h⟩ := vI_inv h
  obtain ⟨j, b, eb, h⟩ := vI_inv h
  obtain ⟨hs, h⟩ := recB_false h
  have hx := evV_of hx
  have hy := evV_of hy
  rw [ea] at hx
  rw [eb] at hy
  have hx := hx.i_inv
  have hy := hy.i_inv
  subst hx
  subst hy
  have hs' : isShift f.o = false → k = j := by
    intro e
    rw [e] at hs
    exact of_decide_eq_true hs
  obtain ⟨v, hk, hr⟩ := binI_ok hs' h
  have e := same1_eq hk
  subst e
  have hz : ∀ P t w, ∃ z, (binOp f.o t (.int k a) (.int j b)).run P w = .ok z w ∧ RV 0 σ (evV σ f.r) z := fun P t w => hr P t w (0, σ)
  have hu : ∀ z z', RV 0 σ (evV σ f.r) z → RV 0 σ (evV σ f.r) z' → z = z' := by
    intro z z' h1 h2
    cases hv : evV σ f.r <;> rw [hv] at h1 h2 <;> cases h1 <;> cases h2 <;> first | rfl | skip
    all_goals omega
  obtain ⟨z, _, hz1⟩ := hz default 0 default
  refine ⟨z, of_evV (and2 h0).2 hz1, fun P t w => ?_⟩
  obtain ⟨z', h1, h2⟩ := hz P t w
  rw [hu z z' hz1 h2]
  exact h1
theorem cxOK_ok {q : Nat} {σ : Nat → Int} {f : Cx} (h : cxOK q σ f = true) {m : Nat} (k : IntKind) (n : Int) (hx : RV m σ f.a (.int k n)) : RV nLet σ f.r (.int f.k (f.k.wrap n)) := by
  unfold cxOK at h
  obtain ⟨h0, h⟩ := recB_false h
  obtain ⟨j, a, ea, h⟩ := vI_inv h
  have hx := evV_of hx
  rw [ea] at hx
  have hx := hx.i_inv
  injection hx with e1 e2
  subst e2
  have e := same1_eq h
  rw [wrapK_eq] at e
  refine of_evV (and2 h0).2 ?_
  rw [← e]
  exact .i _ _
theorem mxOK_ok {q : Nat} {σ : Nat → Int} {f : Mx} (h : mxOK q σ f = true) {m : Nat} (k j : IntKind) (a b : Int) (hx : RV m σ f.a (.int k a)) (hy : RV m σ f.b (.int j b)) : RV nLet σ f.r (.int k (if f.mx then (if b > a then b else a) else (if b < a then b else a))) := by
  unfold mxOK at h
  obtain ⟨h0, h⟩ := recB_false h
  obtain ⟨k', a', ea, h⟩ := vI_inv h
  obtain ⟨j', b', eb, h⟩ := vI_inv h
  have hx := evV_of hx
  have hy := evV_of hy
  rw [ea] at hx
  rw [eb] at hy
  have hx := hx.i_inv
  have hy := hy.i_inv
  injection hx with e1 e2
  injection hy with e3 e4
  subst e1
  subst e2
  subst e4
  have e := same1_eq h
  refine of_evV (and2 h0).2 ?_
  rw [← e, ltI_eq, ltI_eq]
  have hf : ∀ x : Bool, x = f.mx → RV 0 σ (.i k (x.rec (decide (b < a) |>.rec a b) (decide (a < b) |>.rec a b))) (.int k (if x then (if b > a then b else a) else (if b < a then b else a))) := by
    intro x _
    cases x with
    | true =>
      by_cases hc : a < b
      · simp [hc]; exact .i _ _
      · simp [hc]; exact .i _ _
    | false =>
      by_cases hc : b < a
      · simp [hc]; exact .i _ _
      · simp [hc]; exact .i _ _
  exact hf f.mx rfl
theorem suOK_ok {q : Nat} {σ : Nat → Int} {f : List V × V} (h : suOK q σ f = true) {m : Nat} (l : List Nat) (hl : l.length = f.1.length) (hb : ∀ (i : Nat) (v : V) (c : Nat), f.1[i]? = some v → l[i]? = some c → RV m σ v (.int .u8 c)) : RV nLet σ f.2 (.int .u32 (nsum l)) := by
  unfold suOK at h
  obtain ⟨h0, h⟩ := recB_false h
  have e : f.1.map (natV σ) = l := by
    apply List.ext_getElem?
    intro i
    rw [List.getElem?_map]
    cases hv : f.1[i]? with
    | none =>
      have := List.getElem?_eq_none_iff.1 hv
      rw [List.getElem?_eq_none (by omega)]
      rfl
    | some v =>
      have hi := (List.getElem?_eq_some_iff.1 hv).1
      have hc : l[i]? = some l[i] := List.getElem?_eq_getElem (by omega)
      rw [hc]
      have hr := evV_of (hb i v _ hv hc)
      have hp := (and2 (List.all_eq_true.1 (and2 h0).1 v (List.mem_of_getElem? hv))).1
      show some (natV σ v) = _
      unfold natV
      cases hw : evV σ v with
      | i k n =>
        rw [hw] at hr
        have := hr.i_inv
        injection this with _ e2
        show some n.toNat = _
        rw [← e2]
        simp
      | x k a c => cases v <;> simp [evV] at hw
      | _ =>
        rw [hw] at hr
        cases hr
  rw [e] at h
  have e2 := same1_eq h
  refine of_evV (and2 h0).2 ?_
  rw [← e2]
  exact .i _ _
theorem byOK_ok {q : Nat} {σ : Nat → Int} {a : Nat} (h : byOK q σ a = true) : 0 ≤ σ a ∧ σ a < 256 := by
  unfold byOK at h
  obtain ⟨h0, h⟩ := recB_false h
  cases hs : σ a with
  | ofNat n =>
    rw [hs] at h
    have := ble_le (show Nat.ble (Nat.succ n) 256 = true from h)
    simp
    omega
  | negSucc n => rw [hs] at h; cases h
/-- Letters of one kind are looked at alone. -/
theorem evV_congr {q : Nat} {σ σ' : Nat → Int} (he : ∀ a, 10 ≤ a → a % 2 = q → σ a = σ' a) {v : V} (h : v.par q = true) : evV σ v = evV σ' v := by
  cases v with
  | x k a c =>
    obtain ⟨h1, h2⟩ := and2 (show (Nat.ble 10 a && Nat.ble (Nat.succ a) nLet && Nat.beq (Nat.mod a 2) q) = true from h)
    show V.i k (σ a + c) = V.i k (σ' a + c)
    rw [he a (ble_le (and2 h1).1) (beq_eq h2)]
  | _ => rfl
theorem fxOK_congr {q : Nat} {σ σ' : Nat → Int} (he : ∀ a, 10 ≤ a → a % 2 = q → σ a = σ' a) {f : Fx} (h : fxOK q σ f = true) : fxOK q σ' f = true := by
  have h0 := (recB_false (show (Bool.rec false _ (f.a.par q && f.b.par q && f.r.par q) : Bool) = true from h)).1
  rw [← h]
  unfold fxOK
  rw [evV_congr he (and2 (and2 h0).1).1, evV_congr he (and2 (and2 h0).1).2, evV_congr he (and2 h0).2]
theorem cxOK_congr {q : Nat} {σ σ' : Nat → Int} (he : ∀ a, 10 ≤ a → a % 2 = q → σ a = σ' a) {f : Cx} (h : cxOK q σ f = true) : cxOK q σ' f = true := by
  have h0 := (recB_false (show (Bool.rec false _ (f.a.par q && f.r.par q) : Bool) = true from h)).1
  rw [← h]
  unfold cxOK
  rw [evV_congr he (and2 h0).1, evV_congr he (and2 h0).2]
theorem mxOK_congr {q : Nat} {σ σ' : Nat → Int} (he : ∀ a, 10 ≤ a → a % 2 = q → σ a = σ' a) {f : Mx} (h : mxOK q σ f = true) : mxOK q σ' f = true := by
  have h0 := (recB_false (show (Bool.rec false _ (f.a.par q && f.b.par q && f.r.par q) : Bool) = true from h)).1
  rw [← h]
  unfold mxOK
  rw [evV_congr he (and2 (and2 h0).1).1, evV_congr he (and2 (and2 h0).1).2, evV_congr he (and2 h0).2]
theorem suOK_congr {q : Nat} {σ σ' : Nat → Int} (he : ∀ a, 10 ≤ a → a % 2 = q → σ a = σ' a) {f : List V × V} (h : suOK q σ f = true) : suOK q σ' f = true := by
  have h0 := (recB_false (show (Bool.rec false _ ((f.1.all fun v => v.par q && u8V v) && f.2.par q) : Bool) = true from h)).1
  rw [← h]
  unfold suOK
  rw [evV_congr he (and2 h0).2]
  have e : f.1.map (natV σ') = f.1.map (natV σ) := List.map_congr_left fun v hv => by
    unfold natV
    rw [evV_congr he (and2 (List.all_eq_true.1 (and2 h0).1 v hv)).1]
  rw [e]
theorem byOK_congr {q : Nat} {σ σ' : Nat → Int} (he : ∀ a, 10 ≤ a → a % 2 = q → σ a = σ' a) {a : Nat} (h : byOK q σ a = true) : byOK q σ' a = true := by
  have h0 := (recB_false (show (Bool.rec false _ (Nat.beq (Nat.mod a 2) q && Nat.ble 10 a) : Bool) = true from h)).1
  rw [← h]
  unfold byOK
  rw [he a (ble_le (and2 h0).2) (beq_eq (and2 h0).1)]
/-- The letters of case A. -/
noncomputable def letA {β : Type} (L : Nat) (K : List (Nat × Nat) → β) : β := forceN (L) fun v10 => forceN (Nat.mul v10 900) fun v18 => forceN (Nat.div v18 1100) fun v20 => forceN (nsum [1, 2, 1, 1, 2, 2, 2, 1, v10, 1]) fun v30 => forceN (Nat.mod v30 256) fun v32 => forceN (Nat.div v30 256) fun v40 => forceN (Nat.mod v40 256) fun v34 => forceN (Nat.div v30 65536) fun v42 => forceN (Nat.mod v42 256) fun v36 => forceN (Nat.div v30 16777216) fun v44 => forceN (Nat.mod v44 256) fun v38 => forceN (nsum [2, 1, 2, 1, 2, 0, 1, v10, 2, 2, 2]) fun v46 => forceN (Nat.mod v46 256) fun v48 => forceN (Nat.div v46 256) fun v56 => forceN (Nat.mod v56 256) fun v50 => forceN (Nat.div v46 65536) fun v58 => forceN (Nat.mod v58 256) fun v52 => forceN (Nat.div v46 16777216) fun v60 => forceN (Nat.mod v60 256) fun v54 => K [(10, v10), (18, v18), (20, v20), (30, v30), (32, v32), (40, v40), (34, v34), (42, v42), (36, v36), (44, v44), (38, v38), (46, v46), (48, v48), (56, v56), (50, v50), (58, v58), (52, v52), (60, v60), (54, v54)]
/-- The letters of case B. -/
noncomputable def letB {β : Type} (L : Nat) (K : List (Nat × Nat) → β) : β := forceN (L) fun v11 => forceN (Nat.mul v11 900) fun v19 => forceN (Nat.div v19 1100) fun v21 => forceN (Nat.mod v11 256) fun v23 => forceN (Nat.mod v11 128) fun v25 => forceN (Nat.add v25 128) fun v13 => forceN (Nat.div v11 128) fun v15 => forceN (Nat.mul v15 128) fun v27 => forceN (nsum [1, 2, 1, 1, 2, 2, 2, 1, v13, v15, 1]) fun v63 => forceN (Nat.mod v63 256) fun v65 => forceN (Nat.div v63 256) fun v73 => forceN (Nat.mod v73 256) fun v67 => forceN (Nat.div v63 65536) fun v75 => forceN (Nat.mod v75 256) fun v69 => forceN (Nat.div v63 16777216) fun v77 => forceN (Nat.mod v77 256) fun v71 => forceN (nsum [2, 1, 2, 1, 2, 0, 1, v13, v15, 2, 2, 2]) fun v79 => forceN (Nat.mod v79 256) fun v81 => forceN (Nat.div v79 256) fun v89 => forceN (Nat.mod v89 256) fun v83 => forceN (Nat.div v79 65536) fun v91 => forceN (Nat.mod v91 256) fun v85 => forceN (Nat.div v79 16777216) fun v93 => forceN (Nat.mod v93 256) fun v87 => K [(11, v11), (19, v19), (21, v21), (23, v23), (25, v25), (13, v13), (15, v15), (27, v27), (63, v63), (65, v65), (73, v73), (67, v67), (75, v75), (69, v69), (77, v77), (71, v71), (79, v79), (81, v81), (89, v89), (83, v83), (91, v91), (85, v85), (93, v93), (87, v87)]

noncomputable def assoc (l : List (Nat × Nat)) (a : Nat) : Nat := List.rec 0 (fun q _ ih => (Nat.beq q.1 a).rec ih q.2) l
noncomputable def valA (L a : Nat) : Nat := letA L fun l => assoc l a
noncomputable def valB (L a : Nat) : Nat := letB L fun l => assoc l a
noncomputable def byA : List Nat := tab.by_.filter fun a => Nat.beq (Nat.mod a 2) 0
noncomputable def byB : List Nat := tab.by_.filter fun a => Nat.beq (Nat.mod a 2) 1
noncomputable def chk (q : Nat) (σ : Nat → Int) (fx : List Fx) (cx : List Cx) (mx : List Mx) (su : List (List V × V)) (bs : List Nat) : Bool := fx.all (fxOK q σ) && cx.all (cxOK q σ) && mx.all (mxOK q σ) && su.all (suOK q σ) && bs.all (byOK q σ)
noncomputable def chkA (L : Nat) : Bool := letA L fun l => chk 0 (fun a => .ofNat (assoc l a)) fxA cxA mxA sumA byA
noncomputable def chkB (L : Nat) : Bool := letB L fun l => chk 1 (fun a => .ofNat (assoc l a)) fxB cxB mxB sumB byB
noncomputable def upto (K : Nat → Bool) (a : Nat) : Nat → Bool := Nat.rec true fun n ih => (K (Nat.add a n)).rec false ih
theorem upto_get {K : Nat → Bool} {a : Nat} : ∀ {n : Nat}, upto K a n = true → ∀ L, a ≤ L → L < a + n → K L = true := by
  intro n
  induction n with
  | zero => intro _ L h1 h2; omega
  | succ n ih =>
    intro h L h1 h2
    obtain ⟨h3, h4⟩ := recB_false (show (Bool.rec false (upto K a n) (K (Nat.add a n)) : Bool) = true from h)
    by_cases hc : L = a + n
    · rw [hc]; exact h3
    · exact ih h4 L h1 (by omega)
theorem letA_eq {β : Type} (L : Nat) (K : List (Nat × Nat) → β) : letA L K = K (letA L id) := by simp only [letA, forceN_eq, id]
theorem letB_eq {β : Type} (L : Nat) (K : List (Nat × Nat) → β) : letB L K = K (letB L id) := by simp only [letB, forceN_eq, id]
theorem chkA_all : upto chkA 4 124 = true := by kernel_rfl
theorem chkB_all : upto chkB 128 373 = true := by kernel_rfl
/-- The letters. -/
noncomputable def sg (c : Nat → Int) (tA tB : Int) (LA LB a : Nat) : Int :=
  if a < 3 then c a else if a < 6 then Int.tmod (c (a - 3)) 3 else if a = 6 then tA else if a = 7 then tB else if a = 8 then max tA 4 else if a = 9 then max tB 4 else if a % 2 = 0 then .ofNat (valA LA a) else .ofNat (valB LB a)
theorem sg_even {c : Nat → Int} {tA tB : Int} {LA LB : Nat} (a : Nat) (h : 10 ≤ a) (hq : a % 2 = 0) : (Int.ofNat (assoc (letA LA id) a) : Int) = sg c tA tB LA LB a := by
  unfold sg valA
  rw [letA_eq LA fun l => assoc l a, if_neg (by omega), if_neg (by omega), if_neg (by omega), if_neg (by omega), if_neg (by omega), if_neg (by omega), if_pos hq]
theorem sg_odd {c : Nat → Int} {tA tB : Int} {LA LB : Nat} (a : Nat) (h : 10 ≤ a) (hq : a % 2 = 1) : (Int.ofNat (assoc (letB LB id) a) : Int) = sg c tA tB LA LB a := by
  unfold sg valB
  rw [letB_eq LB fun l => assoc l a, if_neg (by omega), if_neg (by omega), if_neg (by omega), if_neg (by omega), if_neg (by omega), if_neg (by omega), if_neg (by omega)]
theorem tab_fx : tab.fx = fxC ++ fxA ++ fxB := rfl
theorem tab_cx : tab.cx = cxA ++ cxB := rfl
theorem tab_mx : tab.mx = mxC ++ mxA ++ mxB := rfl
theorem tab_su : tab.sums = sumA ++ sumB := rfl
theorem nLet_le : 30 ≤ nLet := by decide
/-- What is asked of what stands for what is handed in. -/
structure LetOK (c : Nat → Int) (tA tB : Int) (LA LB : Nat) (τ : Nat → ByteArray) : Prop where
  c : ∀ r, r < 3 → (Int.tmod (Int.tmod (c r) 3 + 3) 3) = (r : Int)
  a : min (max tA 4) 500 = (LA : Int) ∧ 4 ≤ LA ∧ LA < 128
  b : min (max tB 4) 500 = (LB : Int) ∧ 128 ≤ LB ∧ LB < 501
  p : pathE (τ 0) = true ∧ (τ 0).size ≤ 140737488355328
  q : pathE (τ 1) = false ∧ (τ 1).size ≤ 140737488355328
theorem wrap3 (n : Int) (h : -9 ≤ n) (h2 : n ≤ 9) : IntKind.i64.wrap n = n := by rw [IntKind.wrap_i64]; omega
theorem tmod3 (n : Int) : -3 < Int.tmod n 3 ∧ Int.tmod n 3 < 3 := ⟨Int.lt_tmod_of_pos n (by omega), Int.tmod_lt_of_pos n (by omega)⟩
section
variable {c : Nat → Int} {tA tB : Int} {LA LB : Nat} {τ : Nat → ByteArray}
theorem rv_x {m : Nat} {σ : Nat → Int} {k : IntKind} {a : Nat} {d : Int} {x : Value} (h : RV m σ (.x k a d) x) : x = .int k (σ a + d) := by cases h; rfl
theorem cut1 (r : Nat) (hr : r < 3) (x y : Value) (hx : RV nLet (sg c tA tB LA LB) (.x .i64 r (.ofNat 0)) x) (hy : RV nLet (sg c tA tB LA LB) (.i .i64 (.ofNat 3)) y) : ∃ z, RV nLet (sg c tA tB LA LB) (.x .i64 (3 + r) (.ofNat 0)) z ∧ ∀ P t w, (binOp .rem t x y).run P w = .ok z w := by
  have hx := rv_x hx
  have hy := hy.i_inv
  subst hx
  subst hy
  refine ⟨_, .x (by have := nLet_le; omega), fun P t w => ?_⟩
  have e1 : sg c tA tB LA LB r = c r := by unfold sg; rw [if_pos hr]
  have e2 : sg c tA tB LA LB (3 + r) = Int.tmod (c r) 3 := by unfold sg; rw [if_neg (by omega), if_pos (by omega), show 3 + r - 3 = r from by omega]
  rw [e1, e2]
  simp [binOp, Op.intDiv]
theorem cut2 (r : Nat) (hr : r < 3) (x y : Value) (hx : RV nLet (sg c tA tB LA LB) (.x .i64 (3 + r) (.ofNat 0)) x) (hy : RV nLet (sg c tA tB LA LB) (.i .i64 (.ofNat 3)) y) : ∃ z, RV nLet (sg c tA tB LA LB) (.x .i64 (3 + r) (.ofNat 3)) z ∧ ∀ P t w, (binOp .add t x y).run P w = .ok z w := by
  have hx := rv_x hx
  have hy := hy.i_inv
  subst hx
  subst hy
  refine ⟨_, .x (by have := nLet_le; omega), fun P t w => ?_⟩
  have e2 : sg c tA tB LA LB (3 + r) = Int.tmod (c r) 3 := by unfold sg; rw [if_neg (by omega), if_pos (by omega), show 3 + r - 3 = r from by omega]
  have h3 := tmod3 (c r)
  rw [e2]
  simp [binOp, Op.intArith, wrap3 (Int.tmod (c r) 3 + 3) (by omega) (by omega)]
theorem cut3 (hc : ∀ r, r < 3 → (Int.tmod (Int.tmod (c r) 3 + 3) 3) = (r : Int)) (r : Nat) (hr : r < 3) (x y : Value) (hx : RV nLet (sg c tA tB LA LB) (.x .i64 (3 + r) (.ofNat 3)) x) (hy : RV nLet (sg c tA tB LA LB) (.i .i64 (.ofNat 3)) y) : ∃ z, RV nLet (sg c tA tB LA LB) (.i .i64 (.ofNat r)) z ∧ ∀ P t w, (binOp .rem t x y).run P w = .ok z w := by
  have hx := rv_x hx
  have hy := hy.i_inv
  subst hx
  subst hy
  refine ⟨_, .i _ _, fun P t w => ?_⟩
  have e2 : sg c tA tB LA LB (3 + r) = Int.tmod (c r) 3 := by unfold sg; rw [if_neg (by omega), if_pos (by omega), show 3 + r - 3 = r from by omega]
  rw [e2]
  have := hc r hr
  simp [binOp, Op.intDiv] at this ⊢
  exact this
theorem mx1 (q : Nat) (hq : q < 2) (k j : IntKind) (a b : Int) (hx : RV nLet (sg c tA tB LA LB) (.x .i64 (6 + q) (.ofNat 0)) (.int k a)) (hy : RV nLet (sg c tA tB LA LB) (.i .i64 (.ofNat 4)) (.int j b)) : RV nLet (sg c tA tB LA LB) (.x .i64 (8 + q) (.ofNat 0)) (.int k (if b > a then b else a)) := by
  have hx := rv_x hx
  have hy := hy.i_inv
  injection hx with h1 h2
  injection hy with h3 h4
  subst h1
  subst h4
  have e : (if (Int.ofNat 4) > a then (Int.ofNat 4) else a) = sg c tA tB LA LB (8 + q) + Int.ofNat 0 := by
    have h5 : q = 0 ∨ q = 1 := by omega
    rcases h5 with rfl | rfl
    · simp [sg] at h2 ⊢
      rw [h2, Int.max_def]
      split <;> split <;> omega
    · simp [sg] at h2 ⊢
      rw [h2, Int.max_def]
      split <;> split <;> omega
  rw [e]
  exact .x (by have := nLet_le; omega)
theorem mx2 (hl : LetOK c tA tB LA LB τ) (q : Nat) (hq : q < 2) (k j : IntKind) (a b : Int) (hx : RV nLet (sg c tA tB LA LB) (.x .i64 (8 + q) (.ofNat 0)) (.int k a)) (hy : RV nLet (sg c tA tB LA LB) (.i .i64 (.ofNat 500)) (.int j b)) : RV nLet (sg c tA tB LA LB) (.x .i64 (10 + q) (.ofNat 0)) (.int k (if b < a then b else a)) := by
  have hx := rv_x hx
  have hy := hy.i_inv
  injection hx with h1 h2
  injection hy with h3 h4
  subst h1
  subst h4
  have e : (if (Int.ofNat 500) < a then (Int.ofNat 500) else a) = sg c tA tB LA LB (10 + q) + Int.ofNat 0 := by
    have h5 : q = 0 ∨ q = 1 := by omega
    rcases h5 with rfl | rfl
    · have h6 : sg c tA tB LA LB 10 = (LA : Int) := by
        rw [← sg_even 10 (by omega) (by omega)]
        simp [letA, forceN_eq, assoc]
      have h7 := hl.a.1
      simp [sg] at h2
      show _ = sg c tA tB LA LB 10 + _
      rw [h6, h2]
      rw [Int.min_def] at h7
      simp
      split <;> split at h7 <;> omega
    · have h6 : sg c tA tB LA LB 11 = (LB : Int) := by
        rw [← sg_odd 11 (by omega) (by omega)]
        simp [letB, forceN_eq, assoc]
      have h7 := hl.b.1
      simp [sg] at h2
      show _ = sg c tA tB LA LB 11 + _
      rw [h6, h2]
      rw [Int.min_def] at h7
      simp
      split <;> split at h7 <;> omega
  rw [e]
  exact .x (by have := nLet_le; omega)
theorem chk_inv {q : Nat} {σ : Nat → Int} {fx : List Fx} {cx : List Cx} {mx : List Mx} {su : List (List V × V)} {bs : List Nat} (h : chk q σ fx cx mx su bs = true) : (∀ f ∈ fx, fxOK q σ f = true) ∧ (∀ f ∈ cx, cxOK q σ f = true) ∧ (∀ f ∈ mx, mxOK q σ f = true) ∧ (∀ f ∈ su, suOK q σ f = true) ∧ (∀ a ∈ bs, byOK q σ a = true) := by
  unfold chk at h
  obtain ⟨h, h5⟩ := and2 h
  obtain ⟨h, h4⟩ := and2 h
  obtain ⟨h, h3⟩ := and2 h
  obtain ⟨h1, h2⟩ := and2 h
  exact ⟨List.all_eq_true.1 h1, List.all_eq_true.1 h2, List.all_eq_true.1 h3, List.all_eq_true.1 h4, List.all_eq_true.1 h5⟩
theorem tab_ok (hl : LetOK c tA tB LA LB τ) : TabOK nLet (sg c tA tB LA LB) τ := by
  have hA := upto_get chkA_all LA hl.a.2.1 (by have := hl.a.2.2; omega)
  unfold chkA at hA
  rw [letA_eq] at hA
  obtain ⟨a1, a2, a3, a4, a5⟩ := chk_inv hA
  have hB := upto_get chkB_all LB hl.b.2.1 (by have := hl.b.2.2; omega)
  unfold chkB at hB
  rw [letB_eq] at hB
  obtain ⟨b1, b2, b3, b4, b5⟩ := chk_inv hB
  clear hA hB
  have ea : ∀ a, 10 ≤ a → a % 2 = 0 → (Int.ofNat (assoc (letA LA id) a) : Int) = sg c tA tB LA LB a := sg_even
  have eb : ∀ a, 10 ≤ a → a % 2 = 1 → (Int.ofNat (assoc (letB LB id) a) : Int) = sg c tA tB LA LB a := sg_odd
  refine ⟨?_, ?_, ?_, ?_, ?_, ?_⟩
  · intro f hf x y hx hy
    rw [tab_fx, List.append_assoc] at hf
    rcases List.mem_append.1 hf with hf | hf
    · simp only [fxC, List.mem_cons, List.not_mem_nil, or_false] at hf
      rcases hf with rfl | rfl | rfl | rfl | rfl | rfl | rfl | rfl | rfl
      · exact cut1 0 (by omega) x y hx hy
      · exact cut2 0 (by omega) x y hx hy
      · exact cut3 hl.c 0 (by omega) x y hx hy
      · exact cut1 1 (by omega) x y hx hy
      · exact cut2 1 (by omega) x y hx hy
      · exact cut3 hl.c 1 (by omega) x y hx hy
      · exact cut1 2 (by omega) x y hx hy
      · exact cut2 2 (by omega) x y hx hy
      · exact cut3 hl.c 2 (by omega) x y hx hy
    · rcases List.mem_append.1 hf with hf | hf
      · exact fxOK_ok (fxOK_congr ea (a1 f hf)) x y hx hy
      · exact fxOK_ok (fxOK_congr eb (b1 f hf)) x y hx hy
  · intro f hf k n hx
    rw [tab_cx] at hf
    rcases List.mem_append.1 hf with hf | hf
    · exact cxOK_ok (cxOK_congr ea (a2 f hf)) k n hx
    · exact cxOK_ok (cxOK_congr eb (b2 f hf)) k n hx
  · intro f hf k j a b hx hy
    rw [tab_mx, List.append_assoc] at hf
    rcases List.mem_append.1 hf with hf | hf
    · simp only [mxC, List.mem_cons, List.not_mem_nil, or_false] at hf
      rcases hf with rfl | rfl | rfl | rfl
      · exact mx1 0 (by omega) k j a b hx hy
      · exact mx2 hl 0 (by omega) k j a b hx hy
      · exact mx1 1 (by omega) k j a b hx hy
      · exact mx2 hl 1 (by omega) k j a b hx hy
    · rcases List.mem_append.1 hf with hf | hf
      · exact mxOK_ok (mxOK_congr ea (a3 f hf)) k j a b hx hy
      · exact mxOK_ok (mxOK_congr eb (b3 f hf)) k j a b hx hy
  · intro a ha
    rcases Nat.mod_two_eq_zero_or_one a with hq | hq
    · exact byOK_ok (byOK_congr ea (a5 a (List.mem_filter.2 ⟨ha, (by show Nat.beq (Nat.mod a 2) 0 = true; rw [show Nat.mod a 2 = 0 from hq]; rfl)⟩)))
    · exact byOK_ok (byOK_congr eb (b5 a (List.mem_filter.2 ⟨ha, (by show Nat.beq (Nat.mod a 2) 1 = true; rw [show Nat.mod a 2 = 1 from hq]; rfl)⟩)))
  · intro q hq l h1 h2
    rw [tab_su] at hq
    rcases List.mem_append.1 hq with hq | hq
    · exact suOK_ok (suOK_congr ea (a4 q hq)) l h1 h2
    · exact suOK_ok (suOK_congr eb (b4 q hq)) l h1 h2
  · intro q hq
    have hq : q = (0, true) ∨ q = (1, false) := by simpa [tab] using hq
    rcases hq with rfl | rfl
    · exact ⟨by have := nLet_le; omega, hl.p.1, hl.p.2⟩
    · exact ⟨by have := nLet_le; omega, hl.q.1, hl.q.2⟩
end
end Go.Proofs.YtphfekkllibphaaGreatDoor.Ev
