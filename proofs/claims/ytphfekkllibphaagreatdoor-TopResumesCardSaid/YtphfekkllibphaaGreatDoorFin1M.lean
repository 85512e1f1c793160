/- The reckoner: calls that were played before.  From what the reckoner says to a call. -/
import Derived.Test.YtphfekkllibphaaGreatDoorEvSt
import Derived.Test.YtphfekkllibphaaGreatDoorOvfM
namespace Go.Proofs.YtphfekkllibphaaGreatDoor.Ev
open Go Go.RowKit

noncomputable def sameL (f : V → V → Bool) : List V → List V → Bool := List.rec (fun m => match m with | [] => true | _ => false) (fun a _ ih m => match m with | [] => false | b :: m => (f a b).rec false (ih m))
noncomputable def sameN (a b : Option Nat) : Bool := match a, b with | none, none => true | some a, some b => Nat.beq a b | _, _ => false
/-- Are two values one? -/
noncomputable def sameV : Nat → V → V → Bool :=
  Nat.rec (fun _ _ => false) (fun _ ih a b => match a, b with
    | .u, .u => true
    | .ui k, .ui j => decide (k = j)
    | .b x, .b y => x == y
    | .i k m, .i j n => decide (k = j) && decide (m = n)
    | .x k a c, .x j b d => decide (k = j) && Nat.beq a b && decide (c = d)
    | .s l, .s m => sameL ih l m
    | .sv a, .sv b => Nat.beq a b
    | .pn, .pn => true
    | .p b o, .p c q => Nat.beq b c && Nat.beq o q
    | .sn, .sn => true
    | .se, .se => true
    | .sl b o l c, .sl b' o' l' c' => Nat.beq b b' && Nat.beq o o' && Nat.beq l l' && sameN c c'
    | .mn, .mn => true
    | .m b, .m c => Nat.beq b c
    | .f fn l k, .f gn m j => (match fn, gn with | .func f, .func g => Nat.beq f g && sameL ih l m && sameL ih k j | _, _ => false)
    | .nf, .nf => true
    | .ic t v, .ic s w => Nat.beq t s && ih v w
    | .nic, .nic => true
    | .agg l, .agg m => sameL ih l m
    | .tup l, .tup m => sameL ih l m
    | _, _ => false)
noncomputable def sameT : T V → T V → Bool := T.rec (fun t => match t with | .e => true | _ => false) (fun _ v _ il ir t => match t with | .e => false | .n l' v' r' => (sameV 9 v v').rec false ((il l').rec false (ir r')))
noncomputable def sameE : List (V × V × Nat) → List (V × V × Nat) → Bool := List.rec (fun m => match m with | [] => true | _ => false) (fun a _ ih m => match m with | [] => false | b :: m => (sameV 9 a.1 b.1 && sameV 9 a.2.1 b.2.1 && Nat.beq a.2.2 b.2.2).rec false (ih m))
/-- Nothing, or just this. -/
noncomputable def alikeO (a b : O) : Bool := match a with
  | .z => true
  | .c n t e g => (match b with | .c n' t' e' g' => Nat.beq n n' && Nat.beq e e' && sameN g g' && sameT t t' | _ => false)
  | .mp es cl => (match b with | .mp es' cl' => Nat.beq cl cl' && sameE es es' | _ => false)
  | _ => false
/-- A call that was played: on what, and what came of it. -/
structure Row where
  f : FuncId
  args : List V
  nx : Nat
  kn : List (Nat × O)
  v : V
  nx' : Nat
  ps : List (Nat × O)
noncomputable def layO (l : List (Nat × O)) (t : T O) : T O := l.foldl (fun t q => T.set t (q.1 + 1) q.2) t
noncomputable def layOK (l : List (Nat × O)) (t : T O) (K : T O → Bool) : Bool := List.rec (motive := fun _ => T O → Bool) (fun t => K t) (fun q _ ih t => t.setK (Nat.succ q.1) q.2 ih) l t
noncomputable def Row.h (r : Row) : H := ⟨layO r.kn (full .z 18), r.nx, [], []⟩
noncomputable def Row.ends (r : Row) (v : V) (h : H) : Bool := sameV 9 v r.v && Nat.ble h.nx r.nx' && Nat.ble r.nx r.nx' && (r.ps.all fun q => alikeO q.2 (h.get q.1) && Nat.ble (Nat.succ q.1) r.nx') && (h.lg.all fun b => r.ps.any fun q => Nat.beq q.1 b)
/-- It goes so. -/
noncomputable def Row.goes (C : CT) (r : Row) : Bool := layOK r.kn (full .z 18) fun t => C r.f r.args ⟨t, r.nx, [], []⟩ r.ends
noncomputable def Row.old (r : Row) : List Nat := (r.ps.map (·.1)).filter fun b => Nat.ble (Nat.succ b) r.nx
noncomputable def ovRow (r : Row) : List V → H → KT → Bool := fun args h K =>
  (sameL (sameV 9) args r.args && Nat.beq h.nx r.nx && r.kn.all fun q => alikeO q.2 (h.get q.1)).rec false (layOK r.ps h.t fun t => K r.v ⟨t, r.nx', r.old ++ h.lg, h.df⟩)
/-- The first that fits by its number. -/
noncomputable def ovRows (rs : List Row) : List V → H → KT → Bool := fun args h K => List.rec false (fun r _ ih => (Nat.beq h.nx r.nx && sameL (sameV 9) args r.args).rec ih (ovRow r args h K)) rs
theorem sameL_eq {f : V → V → Bool} (hf : ∀ a b, f a b = true → a = b) : ∀ {l m : List V}, sameL f l m = true → l = m := by
  intro l
  induction l with
  | nil =>
    intro m hk
    cases m with
    | nil => rfl
    | cons b m => cases hk
  | cons a l ih =>
    intro m hk
    cases m with
    | nil => cases hk
    | cons b m =>
      obtain ⟨h1, h2⟩ := recB_false (show (Bool.rec false (sameL f l m) (f a b) : Bool) = true from hk)
      rw [hf a b h1, ih h2]
theorem sameN_eq {a b : Option Nat} (h : sameN a b = true) : a = b := by
  unfold sameN at h
  split at h <;> first | (cases h; done) | skip
  · rfl
  · rw [beq_eq h]
theorem sameV_eq : ∀ (n : Nat) (a b : V), sameV n a b = true → a = b := by
  intro n
  induction n with
  | zero => exact fun a b h => by cases h
  | succ n ih =>
    intro a b h
    cases a <;> cases b <;> first
      | (cases h; done)
      | rfl
      | skip
    · rename_i k j
      rw [of_decide_eq_true (show decide (k = j) = true from h)]
    · rename_i x y
      rw [eq_of_beq (show (x == y) = true from h)]
    · rename_i k m j n
      obtain ⟨h1, h2⟩ := and2 (show (decide (k = j) && decide (m = n)) = true from h)
      rw [of_decide_eq_true h1, of_decide_eq_true h2]
    · rename_i k a c j b d
      obtain ⟨h1, h3⟩ := and2 (show (decide (k = j) && Nat.beq a b && decide (c = d)) = true from h)
      obtain ⟨h1, h2⟩ := and2 h1
      rw [of_decide_eq_true h1, beq_eq h2, of_decide_eq_true h3]
    · rename_i l m
      rw [sameL_eq ih (show sameL (sameV n) l m = true from h)]
    · rename_i a b
      rw [beq_eq (show Nat.beq a b = true from h)]
    · rename_i b o c q
      obtain ⟨h1, h2⟩ := and2 (show (Nat.beq b c && Nat.beq o q) = true from h)
      rw [beq_eq h1, beq_eq h2]
    · rename_i b o l c b' o' l' c'
      obtain ⟨h1, h4⟩ := and2 (show (Nat.beq b b' && Nat.beq o o' && Nat.beq l l' && sameN c c') = true from h)
      obtain ⟨h1, h3⟩ := and2 h1
      obtain ⟨h1, h2⟩ := and2 h1
      rw [beq_eq h1, beq_eq h2, beq_eq h3, sameN_eq h4]
    · rename_i b c
      rw [beq_eq (show Nat.beq b c = true from h)]
    · rename_i fn l k gn m j
      cases fn <;> cases gn <;> first
        | (cases h; done)
        | skip
      rename_i f g
      obtain ⟨h1, h3⟩ := and2 (show (Nat.beq f g && sameL (sameV n) l m && sameL (sameV n) k j) = true from h)
      obtain ⟨h1, h2⟩ := and2 h1
      rw [beq_eq h1, sameL_eq ih h2, sameL_eq ih h3]
    · rename_i t v s w
      obtain ⟨h1, h2⟩ := and2 (show (Nat.beq t s && sameV n v w) = true from h)
      rw [beq_eq h1, ih v w h2]
    · rename_i l m
      rw [sameL_eq ih (show sameL (sameV n) l m = true from h)]
    · rename_i l m
      rw [sameL_eq ih (show sameL (sameV n) l m = true from h)]
theorem sameT_eq : ∀ (t s : T V), sameT t s = true → t = s := by
  intro t
  induction t with
  | e =>
    intro s h
    cases s with
    | e => rfl
    | n l v r => cases h
  | n l v r il ir =>
    intro s h
    cases s with
    | e => cases h
    | n l' v' r' =>
      obtain ⟨h1, h2⟩ := recB_false (show (Bool.rec false (Bool.rec false (sameT r r') (sameT l l')) (sameV 9 v v') : Bool) = true from h)
      obtain ⟨h2, h3⟩ := recB_false h2
      rw [sameV_eq 9 v v' h1, il l' h2, ir r' h3]
theorem sameE_eq : ∀ {l m : List (V × V × Nat)}, sameE l m = true → l = m := by
  intro l
  induction l with
  | nil =>
    intro m hk
    cases m with
    | nil => rfl
    | cons b m => cases hk
  | cons a l ih =>
    intro m hk
    cases m with
    | nil => cases hk
    | cons b m =>
      obtain ⟨h1, h2⟩ := recB_false (show (Bool.rec false (sameE l m) (sameV 9 a.1 b.1 && sameV 9 a.2.1 b.2.1 && Nat.beq a.2.2 b.2.2) : Bool) = true from hk)
      obtain ⟨h1, h4⟩ := and2 h1
      obtain ⟨h1, h3⟩ := and2 h1
      obtain ⟨a1, a2, a3⟩ := a
      obtain ⟨b1, b2, b3⟩ := b
      have e1 := sameV_eq 9 _ _ h1
      have e2 := sameV_eq 9 _ _ h3
      have e3 := beq_eq h4
      simp only at e1 e2 e3
      rw [e1, e2, e3, ih h2]
theorem alikeO_eq {a b : O} (h : alikeO a b = true) : a = .z ∨ a = b := by
  cases a with
  | z => exact .inl rfl
  | c n t e g =>
    cases b with
    | c n' t' e' g' =>
      obtain ⟨h1, h4⟩ := and2 (show (Nat.beq n n' && Nat.beq e e' && sameN g g' && sameT t t') = true from h)
      obtain ⟨h1, h3⟩ := and2 h1
      obtain ⟨h1, h2⟩ := and2 h1
      exact .inr (by rw [beq_eq h1, beq_eq h2, sameN_eq h3, sameT_eq _ _ h4])
    | _ => cases h
  | mp es cl =>
    cases b with
    | mp es' cl' =>
      obtain ⟨h1, h2⟩ := and2 (show (Nat.beq cl cl' && sameE es es') = true from h)
      exact .inr (by rw [beq_eq h1, sameE_eq h2])
    | _ => cases h
  | it _ _ _ _ => cases h
theorem layOK_eq (l : List (Nat × O)) : ∀ (t : T O) (K : T O → Bool), layOK l t K = K (layO l t) := by
  induction l with
  | nil => exact fun t K => rfl
  | cons q l ih =>
    intro t K
    show t.setK (Nat.succ q.1) q.2 (fun t => layOK l t K) = _
    rw [T.setK_eq, ih]
    rfl
/-- What a laid tree has. -/
theorem layO_get (l : List (Nat × O)) : ∀ (t : T O) (b : Nat), ((∃ q ∈ l, q.1 = b ∧ (layO l t).get .z (b + 1) = q.2) ∨ ((∃ q ∈ l, q.1 = b) ∧ (layO l t).get .z (b + 1) = .z)) ∨ ((∀ q ∈ l, q.1 ≠ b) ∧ (layO l t).get .z (b + 1) = t.get .z (b + 1)) := by
  induction l with
  | nil => exact fun t b => .inr ⟨fun q h => (by cases h), rfl⟩
  | cons q l ih =>
    intro t b
    show _ ∨ (_ ∧ (layO l (T.set t (q.1 + 1) q.2)).get .z (b + 1) = _)
    rcases ih (T.set t (q.1 + 1) q.2) b with (⟨p, hp, e1, e2⟩ | ⟨⟨p, hp, e1⟩, e2⟩) | ⟨h1, h2⟩
    · exact .inl (.inl ⟨p, List.mem_cons_of_mem _ hp, e1, e2⟩)
    · exact .inl (.inr ⟨⟨p, List.mem_cons_of_mem _ hp, e1⟩, e2⟩)
    · rcases T.get_set (d := O.z) (t := t) (j := b + 1) (k := q.1 + 1) q.2 (by omega) (by omega) with ⟨h3, h4⟩ | ⟨h3, h4⟩
      · have hq : q.1 = b := by omega
        rcases h4 with h4 | h4
        · exact .inl (.inl ⟨q, List.mem_cons_self, hq, h2.trans h4⟩)
        · exact .inl (.inr ⟨⟨q, List.mem_cons_self, hq⟩, h2.trans h4⟩)
      · refine .inr ⟨fun p hp => ?_, h2.trans h4⟩
        rcases List.mem_cons.1 hp with rfl | hp
        · intro e
          exact h3 (by omega)
        · exact h1 p hp
section
variable {P : Program} {D : FuncId → Bool} {C : CT} {h : H} {K : KT}
theorem ovRow_ok (hC : CallOK P D C) {r : Row} (hg : r.goes C = true) {args : List V} (hk : ovRow r args h K = true) : ∃ v h', K v h' = true ∧ Stands P r.f args h v h' := by
  unfold ovRow at hk
  obtain ⟨g0, hk9⟩ := recB_false hk
  clear hk
  obtain ⟨g0, g3⟩ := and2 g0
  have g1 := sameL_eq (sameV_eq 9) (and2 g0).1
  have g2 := beq_eq (and2 g0).2
  clear g0
  subst g1
  rw [layOK_eq] at hk9
  refine ⟨_, _, hk9, fun ρ w xs s hl o a next Q hnx => ?_⟩
  unfold Row.goes at hg
  rw [layOK_eq] at hg
  obtain ⟨v0, h0, he, hr⟩ := hC _ _ _ _ hg
  obtain ⟨he, e5⟩ := and2 he
  obtain ⟨he, e4⟩ := and2 he
  obtain ⟨he, e3⟩ := and2 he
  obtain ⟨e1, e2⟩ := and2 he
  have e1 := sameV_eq 9 _ _ e1
  have e2 := ble_le e2
  have e3 := ble_le e3
  subst e1
  have hps : ∀ q ∈ r.ps, (q.2 = .z ∨ q.2 = h0.get q.1) ∧ q.1 < r.nx' := fun q hq => by
    obtain ⟨k1, k2⟩ := and2 (List.all_eq_true.1 e4 q hq)
    exact ⟨alikeO_eq k1, ble_le k2⟩
  have hlg : ∀ b ∈ h0.lg, ∃ q ∈ r.ps, q.1 = b := fun b hb => by
    obtain ⟨q, hq, k⟩ := List.any_eq_true.1 (List.all_eq_true.1 e5 b hb)
    exact ⟨q, hq, beq_eq k⟩
  -- what the row knows is so
  have hz0 : ∀ b, (full O.z 18).get .z (b + 1) = .z := fun b => by rcases T.get_full O.z O.z 18 (b + 1) with e | e <;> exact e
  generalize hrow : (⟨layO r.kn (full .z 18), r.nx, [], []⟩ : H) = hr0 at hr
  have hkn : ∀ b, hr0.get b = .z ∨ hr0.get b = h.get b := by
    intro b
    subst hrow
    show (layO r.kn (full .z 18)).get .z (b + 1) = .z ∨ (layO r.kn (full .z 18)).get .z (b + 1) = _
    rcases layO_get r.kn (full .z 18) b with (⟨q, hq, k1, k2⟩ | ⟨_, k2⟩) | ⟨_, k2⟩
    · rw [k2]
      have := alikeO_eq (List.all_eq_true.1 g3 q hq)
      rw [k1] at this
      exact this
    · exact .inl k2
    · exact .inl (k2.trans (hz0 b))
  have hrn : hr0.nx = h.nx := by subst hrow; exact g2.symm
  have hrl : hr0.lg = [] := by subst hrow; rfl
  have s0 : Sat ρ hr0 w := by
    refine ⟨by rw [s.n, hrn], fun b => ?_, fun b c hb hc e => ?_⟩
    · rcases hkn b with e | e
      · rw [e]; trivial
      · rw [e]; exact s.o b
    · have k1 : hr0.get b = h.get b := (hkn b).resolve_left hb
      have k2 : hr0.get c = h.get c := (hkn c).resolve_left hc
      exact s.inj b c (by rw [← k1]; exact hb) (by rw [← k2]; exact hc) e
  refine (hr ρ w xs s0 hl).1 o a next Q (fun x w' ⟨ρ1, hv, s1, st⟩ => ?_)
  have hn1 := s1.n
  have hstn := st.nx
  let ρ2 : Ren := { ρ1 with n := r.nx', fr := fun b hb => ρ1.fr b (by omega) }
  have hle : ρ1.le ρ2 := ⟨fun _ h => h, fun _ _ => rfl, fun _ _ => rfl, rfl, rfl, rfl⟩
  -- the memory behind it
  have hget : ∀ b, (∃ q ∈ r.ps, q.1 = b) ∧ ((layO r.ps h.t).get .z (b + 1) = .z ∨ ((layO r.ps h.t).get .z (b + 1) = h0.get b)) ∨ (∀ q ∈ r.ps, q.1 ≠ b) ∧ (layO r.ps h.t).get .z (b + 1) = h.get b := by
    intro b
    rcases layO_get r.ps h.t b with (⟨q, hq, k1, k2⟩ | ⟨k1, k2⟩) | ⟨k1, k2⟩
    · refine .inl ⟨⟨q, hq, k1⟩, ?_⟩
      rw [k2]
      have := (hps q hq).1
      rw [k1] at this
      exact this
    · exact .inl ⟨k1, .inl k2⟩
    · exact .inr ⟨k1, k2⟩
  -- a block that isn't patched: kept by the row, or not known to it
  have hstay : ∀ b, (∀ q ∈ r.ps, q.1 ≠ b) → h.get b ≠ .z → (h0.get b = h.get b) ∨ (hr0.get b = .z ∧ w'.heap[ρ.π b]? = w.heap[ρ.π b]?) := by
    intro b hb hz
    by_cases hk0 : hr0.get b = .z
    · refine .inr ⟨hk0, st.frame _ ((s.o b).lt hz).2 (fun c hc e => ?_)⟩
      have k1 : hr0.get c = h.get c := (hkn c).resolve_left hc
      have := s.inj c b (by rw [← k1]; exact hc) hz e
      rw [this] at hc
      exact hc hk0
    · have k1 : hr0.get b = h.get b := (hkn b).resolve_left hk0
      have hlt : b < hr0.nx := by
        apply Classical.byContradiction
        intro hge
        exact hz (s.fresh (by omega))
      exact .inl ((st.keep b hlt (fun hm => let ⟨q, hq, e⟩ := hlg b hm; hb q hq e)).trans k1)
  -- where a known block comes from
  have hfrom : ∀ b, (layO r.ps h.t).get .z (b + 1) ≠ .z → (layO r.ps h.t).get .z (b + 1) = h0.get b ∨ ((layO r.ps h.t).get .z (b + 1) = h.get b ∧ hr0.get b = .z ∧ w'.heap[ρ.π b]? = w.heap[ρ.π b]?) := by
    intro b hb
    rcases hget b with ⟨_, k | k⟩ | ⟨k1, k2⟩
    · exact absurd k hb
    · exact .inl k
    · rw [k2] at hb
      rcases hstay b k1 hb with k | ⟨k3, k4⟩
      · exact .inl (k2.trans k.symm)
      · exact .inr ⟨k2, k3, k4⟩
  have hpi : ∀ b, h.get b ≠ .z → ρ1.π b = ρ.π b := fun b hb => st.le.π b ((s.o b).lt hb).1
  have s2 : Sat ρ2 ⟨layO r.ps h.t, r.nx', r.old ++ h.lg, h.df⟩ w' := by
    refine ⟨rfl, fun b => ?_, fun b c hb hc e => ?_⟩
    · show OR ρ2 w' b ((layO r.ps h.t).get .z (b + 1))
      by_cases hb : (layO r.ps h.t).get .z (b + 1) = .z
      · rw [hb]; trivial
      · rcases hfrom b hb with k | ⟨k1, k2, k3⟩
        · rw [k]
          exact (s1.o b).keep hle (fun _ => rfl)
        · rw [k1]
          rw [k1] at hb
          exact (s.o b).keep (st.le.trans hle) (fun _ => k3)
    · have hb : (layO r.ps h.t).get .z (b + 1) ≠ .z := hb
      have hc : (layO r.ps h.t).get .z (c + 1) ≠ .z := hc
      have e : ρ1.π b = ρ1.π c := e
      have mixed : ∀ b c, (layO r.ps h.t).get .z (b + 1) ≠ .z → (layO r.ps h.t).get .z (c + 1) ≠ .z → (layO r.ps h.t).get .z (b + 1) = h0.get b → ((layO r.ps h.t).get .z (c + 1) = h.get c ∧ hr0.get c = .z) → ρ1.π b = ρ1.π c → False := by
        intro b c hb hc kb ⟨kc, kz⟩ e
        rw [kb] at hb
        rw [kc] at hc
        rw [hpi c hc] at e
        rcases st.img b hb with ⟨d, hd, hde⟩ | hge
        · have k1 : hr0.get d = h.get d := (hkn d).resolve_left hd
          have := s.inj d c (by rw [← k1]; exact hd) hc (hde.trans e)
          rw [this] at hd
          exact hd kz
        · rw [e] at hge
          have := ((s.o c).lt hc).2
          omega
      rcases hfrom b hb with kb | ⟨kb, kb2, _⟩
      · rcases hfrom c hc with kc | ⟨kc, kc2, _⟩
        · exact s1.inj b c (by rw [← kb]; exact hb) (by rw [← kc]; exact hc) e
        · exact (mixed b c hb hc kb ⟨kc, kc2⟩ e).elim
      · rcases hfrom c hc with kc | ⟨kc, kc2, _⟩
        · exact (mixed c b hc hb kc ⟨kb, kb2⟩ e.symm).elim
        · rw [kb] at hb
          rw [kc] at hc
          rw [hpi b hb, hpi c hc] at e
          exact s.inj b c hb hc e
  refine hnx x w' ⟨ρ2, hv.mono hle, s2, st.le.trans hle, st.os, st.tape, st.output, st.size, fun k hk hf => st.frame k hk (fun b hb => ?_), fun b hb => ?_, by show h.nx ≤ r.nx'; omega, fun b hb => List.mem_append_right _ hb, fun b hb hl => ?_, rfl, fun b hb => ?_⟩
  · have k1 : hr0.get b = h.get b := (hkn b).resolve_left hb
    exact hf b (by rw [← k1]; exact hb)
  · have hb : (layO r.ps h.t).get .z (b + 1) ≠ .z := hb
    rcases hfrom b hb with kb | ⟨kb, kb2, _⟩
    · rw [kb] at hb
      rcases st.img b hb with ⟨d, hd, hde⟩ | hge
      · have k1 : hr0.get d = h.get d := (hkn d).resolve_left hd
        exact .inl ⟨d, by rw [← k1]; exact hd, hde⟩
      · exact .inr hge
    · rw [kb] at hb
      exact .inl ⟨b, hb, (hpi b hb).symm⟩
  · show (layO r.ps h.t).get .z (b + 1) = h.get b
    rcases hget b with ⟨⟨q, hq, k1⟩, _⟩ | ⟨_, k2⟩
    · refine absurd (List.mem_append_left _ (List.mem_filter.2 ⟨List.mem_map.2 ⟨q, hq, k1⟩, ?_⟩)) hl
      exact Nat.ble_eq_true_of_le (by show b + 1 ≤ r.nx; omega)
    · exact k2
  · rcases st.new b hb with k | ⟨k1, k2⟩
    · exact .inl k
    · exact .inr ⟨by omega, by show b < r.nx'; omega⟩
theorem ovRows_ok (hC : CallOK P D C) {f : FuncId} : ∀ {rs : List Row}, (∀ r ∈ rs, r.f = f ∧ r.goes C = true) → ∀ {args : List V}, ovRows rs args h K = true → ∃ v h', K v h' = true ∧ Stands P f args h v h' := by
  intro rs
  induction rs with
  | nil => intro _ args hk; cases hk
  | cons r rs ih =>
    intro hr args hk
    have hk' : (Bool.rec (ovRows rs args h K) (ovRow r args h K) (Nat.beq h.nx r.nx && sameL (sameV 9) args r.args) : Bool) = true := hk
    cases hb : (Nat.beq h.nx r.nx && sameL (sameV 9) args r.args) with
    | true =>
      rw [hb] at hk'
      obtain ⟨h1, h2⟩ := hr r List.mem_cons_self
      rw [← h1]
      exact ovRow_ok hC h2 hk'
    | false =>
      rw [hb] at hk'
      exact ih (fun q hq => hr q (List.mem_cons_of_mem _ hq)) hk'
end
end Go.Proofs.YtphfekkllibphaaGreatDoor.Ev
namespace Go.Proofs.YtphfekkllibphaaGreatDoor.Ev
open Go Go.RowKit

theorem calls_of_does {P : Program} {D : FuncId → Bool} {f : FuncId} {fn : Func} {c : Code} {xs : List Value} {w : World} {R : Value → World → Prop} (hO : Own P) (hf : P.funcs[f]? = some fn) (hb : fn.body = some c) (h : Does P D f xs w R) :
    Calls P f xs.toArray w fun e w' => ∃ x, e = .returned x ∧ R x w' := by
  have h1 := h.1 { dst := some 0, op := .move (.tmp 0), type := 0, pos := "", after := #[], guard := none } { tmps := #[undef], defers := [] } (fun a w' => ∃ x, a.tmps[0]? = some x ∧ R x w') (fun _ _ _ => False) (fun x w' hx => ⟨x, by simp [Act.put], hx⟩)
  rw [run_enter hO hf hb, Oper.upon_enter] at h1
  refine h1.mono ?_
  intro e w' he
  cases e with
  | returned v =>
    obtain ⟨x, hx, hr⟩ := he
    simp [Act.put] at hx
    subst hx
    exact ⟨v, rfl, hr⟩
  | panicked c => exact he.elim
  | outgrown => obtain ⟨_, _, hf⟩ := he; exact hf.elim
/-- A memory of which nothing is known. -/
noncomputable def hE : H := ⟨full .z 18, 0, [], []⟩
theorem hE_get (b : Nat) : hE.get b = .z := by
  rcases T.get_full O.z O.z 18 (b + 1) with e | e <;> exact e
theorem sat_hE {m : Nat} {σ : Nat → Int} {τ : Nat → ByteArray} (ok : TabOK m σ τ) (w : World) : Sat ⟨0, fun _ => False, fun _ _ h => h, fun _ => 0, fun _ => 0, m, σ, τ, ok⟩ hE w :=
  ⟨rfl, fun b => by rw [hE_get]; trivial, fun b c hb => absurd (hE_get b) hb⟩
theorem below_of_step {ρ ρ' : Ren} {h' : H} {w w' : World} (s : Step ρ hE w ρ' h' w') : Below w.heap.size w w' :=
  ⟨s.os, s.tape, s.output, s.size, fun k hk => s.frame k hk (fun b hb => absurd (hE_get b) hb)⟩
end Go.Proofs.YtphfekkllibphaaGreatDoor.Ev
