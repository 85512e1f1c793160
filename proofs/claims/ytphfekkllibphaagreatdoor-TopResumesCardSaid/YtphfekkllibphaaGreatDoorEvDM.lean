/- The reckoner: code.  The reckoner: what a call ends in.  The reckoner: calls by their code.  The reckoner: an operation looks at its own operands alone.  The reckoner: a region that draws, played in one order: what is known of the play. -/
import Derived.Test.YtphfekkllibphaaGreatDoorEvWM
import Derived.Scope
namespace Go.Proofs.YtphfekkllibphaaGreatDoor.Ev
open Go Go.RowKit

/-- A step; without deferred calls (d: with) what waits stays. -/
structure Gone (d : Bool) (ρ : Ren) (h : H) (w : World) (ρ' : Ren) (h' : H) (w' : World) : Prop where
  st : Step ρ h.bare w ρ' h'.bare w'
  df : d = false → h'.df = h.df
theorem Gone.refl (d : Bool) (ρ : Ren) (h : H) (w : World) : Gone d ρ h w ρ h w := ⟨.refl _ _ _, fun _ => rfl⟩
theorem Gone.trans {d : Bool} {ρ ρ1 ρ2 : Ren} {h h1 h2 : H} {w w1 w2 : World} (a : Gone d ρ h w ρ1 h1 w1) (b : Gone d ρ1 h1 w1 ρ2 h2 w2) : Gone d ρ h w ρ2 h2 w2 :=
  ⟨a.st.trans b.st, fun e => (b.df e).trans (a.df e)⟩
/-- Regions that draw go well. -/
def DrawOK (P : Program) (C : CT) : Prop :=
  ∀ (N : Nat) (ops : Array Oper) (K : Fr → H → Bool) (fr : Fr) (h : H), (∀ o ∈ ops.toList, ∀ d, o.dst = some d → d < N) → (befK ops.toList [] fun bm => (drawsOK bm ops).rec false (regDK P C bm ops K ops.toList.zipIdx [] fr h)) = true →
    ∃ fr' h', K fr' h' = true ∧ ∀ (ρ : Ren) (a : Act) (w : World) (Q : Exit → Act → World → Prop) (id : Nat), St N ρ fr h a w → (∀ ρ' a' w', St N ρ' fr' h' a' w' → Step ρ h w ρ' h' w' → Q .normal a' w') → (Code.region id ops true).wp P Q a w
def X.out : X → Exit
  | .exit n => .exit n
  | .ret => .ret
/-- From a loop's start on. -/
def LWp (P : Program) (c : Code) (Q : Exit → Act → World → Prop) (a : Act) (w : World) : Prop :=
  ∀ (b : Frame) (k : List Item) (cs : List Frame), ∃ e a' w', Q e a' w' ∧ Arrives P (lone (b.at a (.code c :: .inLoop c :: k)) cs w) b k cs e a' w'
def wpX (P : Program) (c : Code) (Q : Exit → Act → World → Prop) (a : Act) (w : World) : Prop :=
  match c with
  | .loop b => LWp P b Q a w
  | c => c.wp P Q a w
section
variable {P : Program} {Q : Exit → Act → World → Prop} {a : Act} {w : World}
theorem wpX_wp {c : Code} (h : wpX P c Q a w) : c.wp P Q a w := by
  cases c with
  | loop b =>
    intro f k cs
    obtain ⟨e, a', w', hq, hr⟩ := h f k cs
    exact ⟨e, a', w', hq, .of_steps (.one step_loop) hr⟩
  | _ => exact h
theorem lwp {c : Code} (h : c.wp P (Exit.then (fun a w => LWp P c Q a w) Q) a w) : LWp P c Q a w := by
  intro b k cs
  obtain ⟨e, a₁, w₁, hq, harr⟩ := h b (.inLoop c :: k) cs
  cases e with
  | normal =>
    obtain ⟨e₂, a₂, w₂, hq₂, harr₂⟩ := hq b k cs
    exact ⟨e₂, a₂, w₂, hq₂, .of_steps (Steps.trans harr (.one step_inLoop)) harr₂⟩
  | exit id => exact ⟨_, a₁, w₁, hq, .pass (x := .inLoop c) rfl (fun _ _ => .inl (by simp)) harr⟩
  | goto l => exact ⟨_, a₁, w₁, hq, .pass (x := .inLoop c) rfl (fun _ _ => .inl (by simp)) harr⟩
  | ret => exact ⟨_, a₁, w₁, hq, .pass (x := .inLoop c) rfl (fun _ _ => .inl (by simp)) harr⟩
  | panic ch => exact ⟨_, a₁, w₁, hq, .pass (x := .inLoop c) rfl (fun _ _ => .inl (by simp)) harr⟩
  | outgrown => exact ⟨_, a₁, w₁, hq, .pass (x := .inLoop c) rfl (fun _ _ => .inl (by simp)) harr⟩
end
section
variable {P : Program} {D : FuncId → Bool} {C : CT} {N : Nat} {d : Bool}
/-- The code ends so. -/
def Ends (P : Program) (N : Nat) (d : Bool) (c : Code) (fr : Fr) (h : H) (e : Exit) (fr' : Fr) (h' : H) : Prop :=
  ∀ (ρ : Ren) (a : Act) (w : World) (Q : Exit → Act → World → Prop), St N ρ fr h a w → (∀ ρ' a' w', St N ρ' fr' h' a' w' → Gone d ρ h w ρ' h' w' → Q e a' w') → wpX P c Q a w
theorem codeOK_region {n id : Nat} {ops : Array Oper} {draw : Bool} (h : codeOK n (.region id ops draw) = true) : ∀ o ∈ ops.toList, ∀ d, o.dst = some d → d < n := by
  intro o ho t ht
  have h1 := List.all_eq_true.1 (show ops.toList.all _ = true from h) o ho
  rw [ht] at h1
  exact ble_le h1
theorem exec_ok (hC : CallOK P D C) (hD : DrawOK P C) : ∀ (n : Nat) (c : Code) (fr : Fr) (h : H) (kn : KN) (kx : KX), codeOK N c = true → execK P C d n c fr h kn kx = true →
    (∃ fr' h', kn fr' h' = true ∧ Ends P N d c fr h .normal fr' h') ∨ (∃ x fr' h', kx x fr' h' = true ∧ Ends P N d c fr h x.out fr' h') := by
  intro n
  induction n with
  | zero => exact fun c fr h kn kx _ hk => by cases hk
  | succ n ih =>
    intro c fr h kn kx hN hk
    cases c with
    | skip => exact .inl ⟨fr, h, hk, fun ρ a w Q s kn => wp_skip (kn ρ a w s (.refl _ _ _ _))⟩
    | region id ops draw =>
      have hN' := codeOK_region hN
      have hk : regionK P C d ops draw fr h kn = true := hk
      cases draw with
      | true =>
        obtain ⟨fr', h', hk, hr⟩ := hD N ops kn fr h hN' hk
        exact .inl ⟨fr', h', hk, fun ρ a w Q s kn => hr ρ a w Q id s (fun ρ' a' w' s' st => kn ρ' a' w' s' ⟨st.bare, fun _ => st.df⟩)⟩
      | false =>
        have hlen : List.range ops.size = List.range' 0 ops.toList.length := by rw [List.range_eq_range', Array.length_toList]
        cases d with
        | true =>
          obtain ⟨fr', h', hk, hr⟩ := regFK_ok hC hN' ops.toList 0 fr h rfl hk
          refine .inl ⟨fr', h', hk, fun ρ a w Q s kn => wp_region ?_⟩
          rw [hlen]
          exact hr ρ a w Q s (fun ρ' a' w' s' st => kn ρ' a' w' s' ⟨st, fun e => by cases e⟩)
        | false =>
          obtain ⟨fr', h', hk, hr⟩ := regK_ok hC hN' ops.toList 0 fr h rfl hk
          refine .inl ⟨fr', h', hk, fun ρ a w Q s kn => wp_region ?_⟩
          rw [hlen]
          exact hr ρ a w Q s (fun ρ' a' w' s' st => kn ρ' a' w' s' ⟨st.bare, fun _ => st.df⟩)
    | seq x y =>
      obtain ⟨g1, g2⟩ := and2 (show (codeOK N x && codeOK N y) = true from hN)
      have hk : execK P C d n x fr h (fun fr h => execK P C d n y fr h kn kx) kx = true := hk
      rcases ih x fr h _ kx g1 hk with ⟨fr1, h1, hk, e1⟩ | ⟨q, fr1, h1, hk, e1⟩
      · rcases ih y fr1 h1 kn kx g2 hk with ⟨fr2, h2, hk, e2⟩ | ⟨q, fr2, h2, hk, e2⟩
        · exact .inl ⟨fr2, h2, hk, fun ρ a w Q s kn => wp_seq (wpX_wp (e1 ρ a w _ s (fun ρ' a' w' s' st => wpX_wp (e2 ρ' a' w' Q s' (fun ρ2 a2 w2 s2 st2 => kn ρ2 a2 w2 s2 (st.trans st2))))))⟩
        · exact .inr ⟨q, fr2, h2, hk, fun ρ a w Q s kn => wp_seq (wpX_wp (e1 ρ a w _ s (fun ρ' a' w' s' st => wpX_wp (e2 ρ' a' w' Q s' (fun ρ2 a2 w2 s2 st2 => kn ρ2 a2 w2 s2 (st.trans st2))))))⟩
      · refine .inr ⟨q, fr1, h1, hk, fun ρ a w Q s kn => wp_seq (wpX_wp (e1 ρ a w _ s (fun ρ' a' w' s' st => ?_)))⟩
        have := kn ρ' a' w' s' st
        cases q <;> exact this
    | cond c x y =>
      obtain ⟨g1, g2⟩ := and2 (show (codeOK N x && codeOK N y) = true from hN)
      have hk : onB (opd c fr) (fun z => Bool.rec (execK P C d n y fr h kn kx) (execK P C d n x fr h kn kx) z) = true := hk
      obtain ⟨z, hz, hk⟩ := onB_inv hk
      cases z with
      | true =>
        rcases ih x fr h kn kx g1 hk with ⟨fr1, h1, hk, e1⟩ | ⟨q, fr1, h1, hk, e1⟩
        · exact .inl ⟨fr1, h1, hk, fun ρ a w Q s kn => wp_cond_true (s.fr.bo hz) (wpX_wp (e1 ρ a w Q s kn))⟩
        · exact .inr ⟨q, fr1, h1, hk, fun ρ a w Q s kn => wp_cond_true (s.fr.bo hz) (wpX_wp (e1 ρ a w Q s kn))⟩
      | false =>
        rcases ih y fr h kn kx g2 hk with ⟨fr1, h1, hk, e1⟩ | ⟨q, fr1, h1, hk, e1⟩
        · exact .inl ⟨fr1, h1, hk, fun ρ a w Q s kn => wp_cond_false (s.fr.bo hz) (wpX_wp (e1 ρ a w Q s kn))⟩
        · exact .inr ⟨q, fr1, h1, hk, fun ρ a w Q s kn => wp_cond_false (s.fr.bo hz) (wpX_wp (e1 ρ a w Q s kn))⟩
    | block id b =>
      have hk : execK P C d n b fr h kn (fun x fr h => X.rec (fun i => Bool.rec (kx (.exit i) fr h) (kn fr h) (Nat.beq i id)) (kx .ret fr h) x) = true := hk
      rcases ih b fr h kn _ hN hk with ⟨fr1, h1, hk, e1⟩ | ⟨q, fr1, h1, hk, e1⟩
      · exact .inl ⟨fr1, h1, hk, fun ρ a w Q s kn => wp_block (wpX_wp (e1 ρ a w _ s kn))⟩
      · cases q with
        | exit i =>
          have hk : (Bool.rec (kx (.exit i) fr1 h1) (kn fr1 h1) (Nat.beq i id) : Bool) = true := hk
          cases hb : Nat.beq i id with
          | true =>
            rw [hb] at hk
            have hi := beq_eq hb
            refine .inl ⟨fr1, h1, hk, fun ρ a w Q s kn => wp_block (wpX_wp (e1 ρ a w _ s (fun ρ' a' w' s' st => ?_)))⟩
            show (if i = id then Q .normal a' w' else Q (.exit i) a' w')
            rw [if_pos hi]
            exact kn ρ' a' w' s' st
          | false =>
            rw [hb] at hk
            have hi : i ≠ id := Nat.ne_of_beq_eq_false hb
            refine .inr ⟨.exit i, fr1, h1, hk, fun ρ a w Q s kn => wp_block (wpX_wp (e1 ρ a w _ s (fun ρ' a' w' s' st => ?_)))⟩
            show (if i = id then Q .normal a' w' else Q (.exit i) a' w')
            rw [if_neg hi]
            exact kn ρ' a' w' s' st
        | ret => exact .inr ⟨.ret, fr1, h1, hk, fun ρ a w Q s kn => wp_block (wpX_wp (e1 ρ a w _ s kn))⟩
    | loop b =>
      have hk : execK P C d n b fr h (fun fr h => execK P C d n (.loop b) fr h kn kx) kx = true := hk
      rcases ih b fr h _ kx hN hk with ⟨fr1, h1, hk, e1⟩ | ⟨q, fr1, h1, hk, e1⟩
      · rcases ih (.loop b) fr1 h1 kn kx hN hk with ⟨fr2, h2, hk, e2⟩ | ⟨q, fr2, h2, hk, e2⟩
        · exact .inl ⟨fr2, h2, hk, fun ρ a w Q s kn => lwp (wpX_wp (e1 ρ a w _ s (fun ρ' a' w' s' st => e2 ρ' a' w' Q s' (fun ρ2 a2 w2 s2 st2 => kn ρ2 a2 w2 s2 (st.trans st2)))))⟩
        · exact .inr ⟨q, fr2, h2, hk, fun ρ a w Q s kn => lwp (wpX_wp (e1 ρ a w _ s (fun ρ' a' w' s' st => e2 ρ' a' w' Q s' (fun ρ2 a2 w2 s2 st2 => kn ρ2 a2 w2 s2 (st.trans st2)))))⟩
      · refine .inr ⟨q, fr1, h1, hk, fun ρ a w Q s kn => lwp (wpX_wp (e1 ρ a w _ s (fun ρ' a' w' s' st => ?_)))⟩
        have := kn ρ' a' w' s' st
        cases q <;> exact this
    | rangeFunc f ps as b => cases hk
    | exit id => exact .inr ⟨.exit id, fr, h, hk, fun ρ a w Q s kn => wp_exit (kn ρ a w s (.refl _ _ _ _))⟩
    | scope b =>
      have hk : execK P C d n b fr h kn kx = true := hk
      rcases ih b fr h kn kx hN hk with ⟨fr1, h1, hk, e1⟩ | ⟨q, fr1, h1, hk, e1⟩
      · exact .inl ⟨fr1, h1, hk, fun ρ a w Q s kn => wp_scope_straight (wpX_wp (e1 ρ a w _ s kn))⟩
      · refine .inr ⟨q, fr1, h1, hk, fun ρ a w Q s kn => wp_scope_straight (wpX_wp (e1 ρ a w _ s (fun ρ' a' w' s' st => ?_)))⟩
        have := kn ρ' a' w' s' st
        cases q <;> exact this
    | label l => cases hk
    | goto l => cases hk
    | ret => exact .inr ⟨.ret, fr, h, hk, fun ρ a w Q s kn => wp_ret (kn ρ a w s (.refl _ _ _ _))⟩
    | refuse y => cases hk
end
end Go.Proofs.YtphfekkllibphaaGreatDoor.Ev
namespace Go.Proofs.YtphfekkllibphaaGreatDoor.Ev
open Go Go.RowKit

def resOf (a : Act) : ResultVar → Sem Value
  | .tmp t => pure (a.tmps.getD t undef)
  | .cell b t => do loadVar t (← asAddr (a.tmps.getD b undef))
section
variable {P : Program} {D : FuncId → Bool} {C : CT} {N : Nat} {ρ : Ren} {fr : Fr} {h : H} {K : KT}
/-- The results' values. -/
theorem resK_ok : ∀ (l : List ResultVar) (k : List V → H → Bool), resK P fr K l k h = true → ∃ vs, k vs h = true ∧ ∀ (ρ : Ren) (a : Act) (w : World), FR ρ fr a → Sat ρ h w →
    ∃ xs, (l.mapM (resOf a)).run P w = .ok xs w ∧ LR ρ vs xs := by
  intro l
  induction l with
  | nil => exact fun k hk => ⟨[], hk, fun ρ a w f s => ⟨[], rfl, .nil⟩⟩
  | cons r l ih =>
    intro k hk
    cases r with
    | tmp t =>
      obtain ⟨vs, hk, hr⟩ := ih _ hk
      refine ⟨_, hk, fun ρ a w f s => ?_⟩
      obtain ⟨xs, h1, h2⟩ := hr ρ a w f s
      refine ⟨a.tmps.getD t undef :: xs, ?_, .cons (f t) h2⟩
      rw [List.mapM_cons]
      simp only [Sem.run_bind, resOf, Sem.run_pure, Result.andThen_ok, h1]
    | cell b t =>
      obtain ⟨b', o, hb, hk⟩ := onP_inv hk
      obtain ⟨v, hk, hl⟩ := loadV_ok hk
      obtain ⟨vs, hk, hr⟩ := ih _ hk
      refine ⟨_, hk, fun ρ a w f s => ?_⟩
      obtain ⟨xs, h1, h2⟩ := hr ρ a w f s
      obtain ⟨y, hy, hv⟩ := hl ρ w s
      have hp := f b
      rw [show b + 1 = Nat.succ b from rfl, hb] at hp
      refine ⟨y :: xs, ?_, .cons hv h2⟩
      rw [List.mapM_cons]
      have hg : (resOf a (.cell b t)).run P w = .ok y w := by
        simp only [resOf, Sem.run_bind, hp.p_inv.2, asAddr, Sem.run_pure, Result.andThen_ok, hy]
      simp only [Sem.run_bind, hg, Sem.run_pure, Result.andThen_ok, h1]
theorem resultsK_ok {fn : Func} (hk : resultsK P fn fr h K = true) : ∃ v, K v h = true ∧ ∀ (ρ : Ren) (a : Act) (w : World), FR ρ fr a → Sat ρ h w → ∃ x, (results fn a.tmps).run P w = .ok x w ∧ VR ρ v x := by
  obtain ⟨vs, hk, hr⟩ := resK_ok _ _ hk
  have key : ∀ (ρ : Ren) (a : Act) (w : World), FR ρ fr a → Sat ρ h w → ∃ xs : List Value, (results fn a.tmps).run P w = .ok (if h : xs.toArray.size = 1 then xs.toArray[0] else .tuple xs.toArray) w ∧ LR ρ vs xs := by
    intro ρ a w f s
    obtain ⟨xs, h1, h2⟩ := hr ρ a w f s
    refine ⟨xs, ?_, h2⟩
    have hf : results fn a.tmps = (do let vs ← fn.results.mapM (resOf a); pure (if h : vs.size = 1 then vs[0] else .tuple vs)) := by
      unfold results
      congr 1
    rw [hf, Array.mapM_eq_mapM_toList]
    simp only [Sem.run_bind, ← bind_pure_comp, h1, Result.andThen_ok, Sem.run_pure]
  split at hk
  · rename_i v
    refine ⟨v, hk, fun ρ a w f s => ?_⟩
    obtain ⟨xs, h1, h2⟩ := key ρ a w f s
    obtain ⟨x, rfl, hx⟩ := h2.one_inv
    exact ⟨x, h1, hx⟩
  · rename_i hne
    refine ⟨_, hk, fun ρ a w f s => ?_⟩
    obtain ⟨xs, h1, h2⟩ := key ρ a w f s
    refine ⟨.tuple xs.toArray, ?_, VR.tup' h2⟩
    rw [h1, dif_neg]
    intro e
    have e1 : vs.length = 1 := by rw [h2.1]; simpa using e
    cases vs with
    | nil => cases e1
    | cons v vs =>
      cases vs with
      | nil => exact hne v rfl
      | cons _ vs => simp at e1
theorem invoke_func (f : FuncId) (c as : Array Value) : invoke (.fn (.func f) c) as = callFunc f (as ++ c) := rfl
/-- The deferred calls. -/
theorem defersK_ok (hC : CallOK P D C) {K : H → Bool} : ∀ (df : List (List V)) (h : H), defersK C D K df h = true → ∃ h', K h' = true ∧
    ∀ (ρ : Ren) (w : World) (fn : Func) (tmps : Array Value) (R : Ending → World → Prop) (ds : List Deferred), DR ρ df ds → Sat ρ h w →
      (∀ ρ' w', Sat ρ' h' w' → Step ρ h w ρ' h' w' → ∃ v, (results fn tmps).run P w' = .ok v w' ∧ R (.returned v) w') → Leaves P fn tmps R ds .returning w := by
  intro df
  induction df with
  | nil =>
    refine fun h hk => ⟨h, hk, fun ρ w fn tmps R ds hd s kn => ?_⟩
    cases hd
    exact kn ρ w s (.refl _ _ _)
  | cons d df ih =>
    intro h hk
    cases d with
    | nil => cases hk
    | cons v args => _
    cases v with
    | f fn first cap => _
    | _ => cases hk
    cases fn with
    | func f => _
    | _ => cases hk
    replace hk : ((D f).rec false (C f (first ++ args ++ cap) h fun _ h => defersK C D K df h) : Bool) = true := hk
    obtain ⟨g1, hk⟩ := recB_false hk
    obtain ⟨v, h1, hk, hr⟩ := hC _ _ _ _ hk
    obtain ⟨h', hk, hr2⟩ := ih h1 hk
    refine ⟨h', hk, fun ρ w fn tmps R ds hd s kn => ?_⟩
    cases hd with
    | cons k1 k2 k3 hd =>
      rename_i f' c' as' ds
      obtain ⟨e1, e2⟩ := (hr ρ w _ s ((k1.append k3).append k2)).2 g1
      rw [← three] at e1 e2
      refine leaves_cons (by simp) e1 (CallsD.mono (e2 .returning) ?_)
      rintro e u' w' ⟨x, rfl, rfl, ρ', q1, q2, q3⟩
      exact hr2 ρ' w' fn tmps R ds (hd.mono q3.le) q2 (fun ρ2 w2 s2 st2 => kn ρ2 w2 s2 (q3.trans st2))
theorem trim_mem {nx : Nat} : ∀ (l acc : List Nat) (b : Nat), (b ∈ acc → b ∈ trim nx l acc) ∧ (b < nx → b ∈ l → b ∈ trim nx l acc) := by
  intro l
  induction l with
  | nil => exact fun acc b => ⟨id, fun _ h => by cases h⟩
  | cons c l ih =>
    intro acc b
    have e : trim nx (c :: l) acc = (Nat.ble (Nat.succ c) nx && !acc.contains c).rec (trim nx l acc) (trim nx l (c :: acc)) := rfl
    rw [e]
    cases hb : (Nat.ble (Nat.succ c) nx && !acc.contains c) with
    | true =>
      refine ⟨fun h => (ih _ b).1 (List.mem_cons_of_mem _ h), fun h1 h2 => ?_⟩
      rcases List.mem_cons.1 h2 with rfl | h2
      · exact (ih _ b).1 List.mem_cons_self
      · exact (ih _ b).2 h1 h2
    | false =>
      refine ⟨(ih _ b).1, fun h1 h2 => ?_⟩
      rcases List.mem_cons.1 h2 with rfl | h2
      · refine (ih _ b).1 ?_
        rw [Nat.ble_eq_true_of_le h1, Bool.true_and] at hb
        simpa using hb
      · exact (ih _ b).2 h1 h2
/-- The state behind a call, from the one in the call. -/
theorem Step.out {h h' : H} {w w' : World} {ρ' : Ren} (s : Step ρ ⟨h.t, h.nx, [], []⟩ w ρ' h' w') : Step ρ h w ρ' ⟨h'.t, h'.nx, trim h.nx h'.lg h.lg, h.df⟩ w' :=
  ⟨s.le, s.os, s.tape, s.output, s.size, s.frame, s.img, s.nx, fun b hb => (trim_mem h'.lg h.lg b).1 hb,
   fun b hb hl => s.keep b hb (fun hm => hl ((trim_mem h'.lg h.lg b).2 hb hm)), rfl, s.new⟩
theorem finK_ok (hC : CallOK P D C) {fn : Func} {h' : H} (hk : finK P C D fn h K fr h' = true) : ∃ v h2, K v ⟨h2.t, h2.nx, trim h.nx h2.lg h.lg, h.df⟩ = true ∧
    ∀ (ρ : Ren) (a : Act) (w : World) (R : Ending → World → Prop), St N ρ fr h' a w →
      (∀ ρ2 w2 x, VR ρ2 v x → Sat ρ2 h2 w2 → Step ρ h'.bare w ρ2 h2.bare w2 → R (.returned x) w2) → Leaves P fn a.tmps R a.defers .returning w := by
  obtain ⟨h1, hk, hr⟩ := defersK_ok hC _ _ hk
  obtain ⟨v, hk, hr2⟩ := resultsK_ok hk
  refine ⟨v, h1, hk, fun ρ a w R s kn => ?_⟩
  refine hr ρ w fn a.tmps R a.defers s.df (s.sat.less rfl (fun _ => .inl rfl)) (fun ρ' w' s' st => ?_)
  obtain ⟨x, e1, e2⟩ := hr2 ρ' a w' (s.fr.mono st.le) s'
  exact ⟨x, e1, kn ρ' w' x e2 s' st.bare⟩
/-- Without deferred calls. -/
theorem finK_bare {fn : Func} {h' : H} (hd : h'.df = []) (hk : finK P C D fn h K fr h' = true) : ∃ v, K v ⟨h'.t, h'.nx, trim h.nx h'.lg h.lg, h.df⟩ = true ∧
    ∀ (ρ : Ren) (a : Act) (w : World), FR ρ fr a → Sat ρ h' w → ∃ x, (results fn a.tmps).run P w = .ok x w ∧ VR ρ v x := by
  unfold finK at hk
  rw [hd] at hk
  obtain ⟨v, hk, hr⟩ := resultsK_ok hk
  exact ⟨v, hk, fun ρ a w f s => hr ρ a w f (s.less rfl (fun _ => .inl rfl))⟩
theorem ftab_ok {f : FuncId} {fn : Func} (hf : (ftab P).get none (Nat.succ f) = some fn) : P.funcs[f]? = some fn := by
  unfold ftab at hf
  rw [T.layK_eq] at hf
  rcases T.get_lay (d := (none : Option Func)) (P.funcs.toList.map some) (t := full none (depth P.funcs.size)) (j := Nat.succ f) (k := 1) (by omega) (by omega) with ⟨_, _, h | h⟩ | ⟨_, h⟩
  · rw [hf, List.getElem?_map] at h
    obtain ⟨g, hg, he⟩ := Option.map_eq_some_iff.1 h
    injection he with he
    subst he
    simpa using hg
  · rw [hf] at h; cases h
  · rw [hf] at h
    rcases T.get_full (none : Option Func) none (depth P.funcs.size) (Nat.succ f) with h' | h' <;> rw [h'] at h <;> cases h
/-- No function is one that the model plays by itself. -/
def Own (P : Program) : Prop := ∀ (f : Nat) (fn : Func), P.funcs[f]? = some fn → (fn.name == "runtime.NumGoroutine") = false
theorem start_fr {N : Nat} {args : List V} {as : List Value} (hl : LR ρ args as) (hn : args.length ≤ N) : FR ρ (T.lay args (full .u 11) 1) { tmps := as.toArray ++ Array.replicate (N - as.toArray.size) undef, defers := [] } := by
  intro t
  rcases T.get_lay (d := V.u) args (t := full .u 11) (j := t + 1) (k := 1) (by omega) (by omega) with ⟨g1, g2, g3 | g3⟩ | ⟨g1, g2⟩
  · have ht : t < args.length := by omega
    rw [show t + 1 - 1 = t from rfl] at g3
    obtain ⟨x, hx, hv⟩ := hl.at_ g3
    show VR ρ _ ((as.toArray ++ Array.replicate (N - as.toArray.size) undef).getD t undef)
    rw [Array.getD_eq_getD_getElem?, Array.getElem?_append_left (by simpa using (hl.1 ▸ ht)), List.getElem?_toArray, hx]
    exact hv
  · rw [g3]; exact .u _
  · rw [g2]
    rcases T.get_full V.u V.u 11 (t + 1) with h | h <;> rw [h] <;> exact .u _
end
end Go.Proofs.YtphfekkllibphaaGreatDoor.Ev
namespace Go.Proofs.YtphfekkllibphaaGreatDoor.Ev
open Go Go.RowKit

section
variable {P : Program} {D : FuncId → Bool} {C : CT} {h : H} {K : KT}
theorem run_enter (hO : Own P) {f : FuncId} {fn : Func} {c : Code} (hf : P.funcs[f]? = some fn) (hb : fn.body = some c) (as : Array Value) (w : World) : (callFunc f as).run P w = .ok (.enter f as) w := by
  have h1 := hO f fn hf
  simp only [callFunc, Sem.run_bind, run_program, Result.andThen_ok, hf, h1, hb, Bool.false_eq_true, if_false, Option.isNone_some, Sem.run_pure]
theorem DR.nil_inv {ρ : Ren} {ds : List Deferred} (h : DR ρ [] ds) : ds = [] := by cases h; rfl
/-- A function's code, ended normally or by its return. -/
theorem body_ok (hC : CallOK P D C) (hO : Own P) {f : FuncId} {fn : Func} {c : Code} {e : Exit} {fr' : Fr} {h' : H} {args : List V} (he : e = .normal ∨ e = .ret) (hf : P.funcs[f]? = some fn) (hb : fn.body = some c)
    (hDf : D f = true → defersOf c = false) (hn : args.length ≤ fn.ntmps) (hE : Ends P fn.ntmps (defersOf c) c (T.lay args (full .u 11) 1) ⟨h.t, h.nx, [], []⟩ e fr' h') (hk : finK P C D fn h K fr' h' = true) :
    ∃ v h', K v h' = true ∧ ∀ (ρ : Ren) (w : World) (as : List Value), Sat ρ h w → LR ρ args as → Does P D f as w fun x w' => ∃ ρ', VR ρ' v x ∧ Sat ρ' h' w' ∧ Step ρ h w ρ' h' w' := by
  have start : ∀ (ρ : Ren) (w : World) (as : List Value), Sat ρ h w → LR ρ args as → St fn.ntmps ρ (T.lay args (full .u 11) 1) ⟨h.t, h.nx, [], []⟩ { tmps := as.toArray ++ Array.replicate (fn.ntmps - as.toArray.size) undef, defers := [] } w := by
    intro ρ w as s hl
    refine ⟨start_fr hl hn, s.less rfl (fun _ => .inl rfl), ?_, .nil⟩
    have := hl.1
    simp
    omega
  cases hdf : h'.df with
  | nil =>
    obtain ⟨v, hk, hr⟩ := finK_bare hdf hk
    refine ⟨v, _, hk, fun ρ w as s hl => ?_⟩
    have key : ∀ R : Ending → World → Prop, (∀ x w', (∃ ρ', VR ρ' v x ∧ Sat ρ' ⟨h'.t, h'.nx, trim h.nx h'.lg h.lg, h.df⟩ w' ∧ Step ρ h w ρ' ⟨h'.t, h'.nx, trim h.nx h'.lg h.lg, h.df⟩ w') → R (.returned x) w') →
        c.wp P (bodyPost P fn R) { tmps := as.toArray ++ Array.replicate (fn.ntmps - as.toArray.size) undef, defers := [] } w := by
      intro R hR
      refine wpX_wp (hE ρ _ w _ (start ρ w as s hl) (fun ρ' a' w' s' g => ?_))
      obtain ⟨x, e1, e2⟩ := hr ρ' a' w' s'.fr s'.sat
      have hd0 : a'.defers = [] := by
        have := s'.df
        rw [hdf] at this
        exact this.nil_inv
      have hx := hR x w' ⟨ρ', e2, s'.sat.less rfl (fun _ => .inl rfl), Step.out (h := h) (h' := h'.bare) g.st⟩
      rcases he with rfl | rfl <;> exact ⟨hd0, x, e1, hx⟩
    refine ⟨fun o a next Q hnx => ?_, fun _ => ⟨run_enter hO hf hb _ _, fun u => ?_⟩⟩
    · rw [run_enter hO hf hb, Oper.upon_enter]
      exact calls_of_wp hf hb (key _ (fun x w' hx => hnx x w' hx))
    · refine CallsD.mono (callsD_of_wp hf hb (key (fun e w' => ∃ x, e = .returned x ∧ ∃ ρ', VR ρ' v x ∧ Sat ρ' ⟨h'.t, h'.nx, trim h.nx h'.lg h.lg, h.df⟩ w' ∧ Step ρ h w ρ' ⟨h'.t, h'.nx, trim h.nx h'.lg h.lg, h.df⟩ w') (fun x w' hx => ⟨x, rfl, hx⟩))) ?_
      rintro e' u' w' ⟨hu, x, hx, hR⟩
      exact ⟨x, hx, hu, hR⟩
  | cons d0 df0 =>
    obtain ⟨v, h2, hk, hr⟩ := finK_ok hC hk
    refine ⟨v, _, hk, fun ρ w as s hl => ⟨fun o a next Q hnx => ?_, fun hd => ⟨run_enter hO hf hb _ _, fun u => ?_⟩⟩⟩
    · rw [run_enter hO hf hb, Oper.upon_enter]
      refine calls_of_wp_defers hf hb (wpX_wp (hE ρ _ w _ (start ρ w as s hl) (fun ρ' a' w' s' g => ?_)))
      have hL := hr ρ' a' w' (fun
          | .returned v, w'' => next (a.put o.dst v) w''
          | .panicked chain, w'' => Q (.panic chain) a w''
          | .outgrown, _ => LetsOut Q) s' (fun ρ2 w2 x q1 q2 q3 => hnx x w2 ⟨ρ2, q1, q2.less rfl (fun _ => .inl rfl), Step.out (h := h) (h' := h2.bare) (g.st.trans q3)⟩)
      rcases he with rfl | rfl <;> exact hL
    · refine CallsD.mono (callsD_of_wp (R := fun _ _ => False) hf hb (wpX_wp (hE ρ _ w _ (start ρ w as s hl) (fun ρ' a' w' s' g => ?_)))) (fun e' u' w' hx => hx.2.elim)
      have h1 := g.df (hDf hd)
      rw [hdf] at h1
      cases h1
theorem enterK_ok (hC : CallOK P D C) (hD : DrawOK P C) (hO : Own P) {f : FuncId} {fn : Func} {n : Nat} {args : List V} (hf : P.funcs[f]? = some fn) (hDf : D f = true → ∀ c, fn.body = some c → defersOf c = false) (hk : enterK P C D n fn args h K = true) :
    ∃ v h', K v h' = true ∧ ∀ (ρ : Ren) (w : World) (as : List Value), Sat ρ h w → LR ρ args as → Does P D f as w fun x w' => ∃ ρ', VR ρ' v x ∧ Sat ρ' h' w' ∧ Step ρ h w ρ' h' w' := by
  unfold enterK at hk
  cases hb : fn.body with
  | none => rw [hb] at hk; cases hk
  | some c =>
    rw [hb] at hk
    obtain ⟨g, hk⟩ := recB_false hk
    obtain ⟨g1, g2⟩ := and2 g
    rw [T.layK_eq] at hk
    rcases exec_ok hC hD n c _ _ _ _ g1 hk with ⟨fr', h', hk, hE⟩ | ⟨x, fr', h', hk, hE⟩
    · exact body_ok hC hO (.inl rfl) hf hb (fun e => hDf e c hb) (ble_le g2) hE hk
    · cases x with
      | exit i => cases hk
      | ret => exact body_ok hC hO (.inr rfl) hf hb (fun e => hDf e c hb) (ble_le g2) hE hk
/-- What stands for a call does so. -/
def StandOK (P : Program) (S : FuncId → Option (List V → H → KT → Bool)) : Prop :=
  ∀ (f : FuncId) (s : List V → H → KT → Bool), S f = some s → ∀ (args : List V) (h : H) (K : KT), s args h K = true → ∃ v h', K v h' = true ∧
    ∀ (ρ : Ren) (w : World) (as : List Value), Sat ρ h w → LR ρ args as → ∀ (o : Oper) (a : Act) (next : Act → World → Prop) (Q : Exit → Act → World → Prop),
      (∀ x w', (∃ ρ', VR ρ' v x ∧ Sat ρ' h' w' ∧ Step ρ h w ρ' h' w') → next (a.put o.dst x) w') → o.upon P a next Q ((callFunc f as.toArray).run P w)
theorem callK_ok {S : FuncId → Option (List V → H → KT → Bool)} (hS : StandOK P S) (hD : ∀ C, CallOK P (mayDefer P S) C → DrawOK P C) (hO : Own P) (n : Nat) : ∀ m, CallOK P (mayDefer P S) (callK P S n m) := by
  intro m
  induction m with
  | zero => exact fun f args h K hk => by cases hk
  | succ m ih =>
    intro f args h K hk
    replace hk : (match S f with
      | some s => s args h K
      | none => (match (ftab P).get none (Nat.succ f) with
        | some fn => enterK P (callK P S n m) (mayDefer P S) n fn args h K
        | none => false)) = true := hk
    split at hk
    · rename_i s hs
      obtain ⟨v, h', hk, hr⟩ := hS f s hs args h K hk
      refine ⟨v, h', hk, fun ρ w as st hl => ⟨hr ρ w as st hl, fun hd => ?_⟩⟩
      unfold mayDefer at hd
      rw [hs] at hd
      cases hd
    · rename_i hs
      split at hk <;> first | (cases hk; done) | skip
      rename_i fn hf
      refine enterK_ok ih (hD _ ih) hO (ftab_ok hf) (fun hd c hb => ?_) hk
      unfold mayDefer at hd
      rw [hs] at hd
      simp only [hf, hb] at hd
      simpa using hd
end
end Go.Proofs.YtphfekkllibphaaGreatDoor.Ev
namespace Go.Proofs.YtphfekkllibphaaGreatDoor.Ev
open Go Go.RowKit

section
variable {P : Program} {C : CT} {fr fr' : Fr} {h : H} {K : KT}
theorem opds_congr {l : List Operand} (e : ∀ x ∈ l, opd x fr = opd x fr') : opds l fr = opds l fr' := by
  induction l with
  | nil => rfl
  | cons x l ih =>
    show opd x fr :: opds l fr = opd x fr' :: opds l fr'
    rw [e x List.mem_cons_self, ih (fun y hy => e y (List.mem_cons_of_mem _ hy))]
theorem fillK_congr {n : Nat} {place : Nat → Option (Nat × Nat)} {K : T V → Bool} : ∀ {l : List (Nat × Operand)} {t : T V}, (∀ q ∈ l, opd q.2 fr = opd q.2 fr') → fillK n place fr K l t = fillK n place fr' K l t := by
  intro l
  induction l with
  | nil => exact fun _ => rfl
  | cons q l ih =>
    intro t e
    have h1 := e q List.mem_cons_self
    have h2 : fillK n place fr K l = fillK n place fr' K l := funext fun t => ih (fun y hy => e y (List.mem_cons_of_mem _ hy))
    show (match place q.1 with | none => false | some (off, size) => cellsK (opd q.2 fr) fun l' => (Nat.beq l'.length size && Nat.ble (Nat.add off size) n).rec false (T.layK l' t (Nat.succ off) (fillK n place fr K l))) =
      (match place q.1 with | none => false | some (off, size) => cellsK (opd q.2 fr') fun l' => (Nat.beq l'.length size && Nat.ble (Nat.add off size) n).rec false (T.layK l' t (Nat.succ off) (fillK n place fr' K l)))
    rw [h1, h2]
theorem optNat_congr {o : Option Operand} {d : Nat} {K : Nat → Bool} (e : ∀ x ∈ o.toArray, opd x fr = opd x fr') : optNat o d fr K = optNat o d fr' K := by
  cases o with
  | none => rfl
  | some x =>
    show onNat (opd x fr) K = onNat (opd x fr') K
    rw [e x (by simp)]
theorem opK_congr {op : Op} (e : ∀ x ∈ op.operands, opd x fr = opd x fr') : opK P op C fr h K = opK P op C fr' h K := by
  cases op <;> try rfl
  case move x => show oMove x fr h K = oMove x fr' h K; unfold oMove; rw [e x (by simp [Op.operands])]
  case assign x => show oMove x fr h K = oMove x fr' h K; unfold oMove; rw [e x (by simp [Op.operands])]
  case pick c x y =>
    show oPick c x y fr h K = oPick c x y fr' h K
    unfold oPick
    rw [e c (by simp [Op.operands]), e x (by simp [Op.operands]), e y (by simp [Op.operands])]
  case box t x => show oBox t x fr h K = oBox t x fr' h K; unfold oBox; rw [e x (by simp [Op.operands])]
  case build t ps =>
    show oBuild P t ps fr h K = oBuild P t ps fr' h K
    have h1 : ∀ q ∈ ps.toList, opd q.2 fr = opd q.2 fr' := fun q hq => e q.2 (by simp [Op.operands]; exact ⟨q.1, by simpa using hq⟩)
    unfold oBuild oBuild1
    simp only [fillK_congr (fr := fr) (fr' := fr') h1]
  case buildSlice t n ps =>
    show oBuildSlice P t n ps fr h K = oBuildSlice P t n ps fr' h K
    have h1 : ∀ q ∈ ps.toList, opd q.2 fr = opd q.2 fr' := fun q hq => e q.2 (by simp [Op.operands]; exact ⟨q.1, by simpa using hq⟩)
    unfold oBuildSlice
    simp only [fillK_congr (fr := fr) (fr' := fr') h1]
  case load t x => show oLoad P t x fr h K = oLoad P t x fr' h K; unfold oLoad; rw [e x (by simp [Op.operands])]
  case store t x y => show oStore P t x y fr h K = oStore P t x y fr' h K; unfold oStore; rw [e x (by simp [Op.operands]), e y (by simp [Op.operands])]
  case nilCheck x => show oNil x fr h K = oNil x fr' h K; unfold oNil; rw [e x (by simp [Op.operands])]
  case binOp o t x y z => show oBin P o t x y fr h K = oBin P o t x y fr' h K; unfold oBin; rw [e x (by simp [Op.operands]), e y (by simp [Op.operands])]
  case unOp o t x => show oUn o x fr h K = oUn o x fr' h K; unfold oUn; rw [e x (by simp [Op.operands])]
  case convert s t x => show oConv P s t x fr h K = oConv P s t x fr' h K; unfold oConv; rw [e x (by simp [Op.operands])]
  case sliceToArrayPointer t x => show oArrPtr P t x fr h K = oArrPtr P t x fr' h K; unfold oArrPtr; rw [e x (by simp [Op.operands])]
  case makeInterface t x => show oIface P t x fr h K = oIface P t x fr' h K; unfold oIface; rw [e x (by simp [Op.operands])]
  case makeFunc f l k =>
    show oFunc f l k fr h K = oFunc f l k fr' h K
    unfold oFunc
    rw [opds_congr (fr := fr) (fr' := fr') (l := l.toList) (fun x hx => e x (by simp [Op.operands]; exact .inl (by simpa using hx))), opds_congr (fr := fr) (fr' := fr') (l := k.toList) (fun x hx => e x (by simp [Op.operands]; exact .inr (by simpa using hx)))]
  case makeSlice t x y => show oMakeSlice P t x y fr h K = oMakeSlice P t x y fr' h K; unfold oMakeSlice; rw [e x (by simp [Op.operands]), e y (by simp [Op.operands])]
  case slice t x lo hi mx =>
    show oSlice P t x lo hi mx fr h K = oSlice P t x lo hi mx fr' h K
    have h1 : ∀ (d : Nat) (K : Nat → Bool), optNat lo d fr K = optNat lo d fr' K := fun d K => optNat_congr (fun y hy => e y (by simp [Op.operands] at hy ⊢; simp [hy]))
    have h2 : ∀ (d : Nat) (K : Nat → Bool), optNat hi d fr K = optNat hi d fr' K := fun d K => optNat_congr (fun y hy => e y (by simp [Op.operands] at hy ⊢; simp [hy]))
    cases mx with
    | none =>
      unfold oSlice
      simp only [e x (by simp [Op.operands]), h1, h2]
    | some m =>
      show oSlice3 P t x lo hi m fr h K = oSlice3 P t x lo hi m fr' h K
      unfold oSlice3
      cases hi with
      | none => rfl
      | some hi => simp only [e x (by simp [Op.operands]), e hi (by simp [Op.operands]), e m (by simp [Op.operands]), h1]
  case fieldAddr t x i => show oFieldAddr P t x i fr h K = oFieldAddr P t x i fr' h K; unfold oFieldAddr; rw [e x (by simp [Op.operands])]
  case field t x i => show oField P t x i fr h K = oField P t x i fr' h K; unfold oField; rw [e x (by simp [Op.operands])]
  case indexAddr t x i => show oIndexAddr P t x i fr h K = oIndexAddr P t x i fr' h K; unfold oIndexAddr; rw [e x (by simp [Op.operands]), e i (by simp [Op.operands])]
  case index t x i => show oIndex P t x i fr h K = oIndex P t x i fr' h K; unfold oIndex; rw [e x (by simp [Op.operands]), e i (by simp [Op.operands])]
  case lookup t x i ok => show oLookup P t x i ok fr h K = oLookup P t x i ok fr' h K; unfold oLookup; rw [e x (by simp [Op.operands]), e i (by simp [Op.operands])]
  case mapUpdate t m k v =>
    show oMapUpd P t m k v fr h K = oMapUpd P t m k v fr' h K
    unfold oMapUpd
    rw [e m (by simp [Op.operands]), e k (by simp [Op.operands]), e v (by simp [Op.operands])]
  case insert t m k v =>
    show oMapUpd P t m k v fr h K = oMapUpd P t m k v fr' h K
    unfold oMapUpd
    rw [e m (by simp [Op.operands]), e k (by simp [Op.operands]), e v (by simp [Op.operands])]
  case range t x => show oRange P t x fr h K = oRange P t x fr' h K; unfold oRange; rw [e x (by simp [Op.operands])]
  case next x s => show oNext x s fr h K = oNext x s fr' h K; unfold oNext; rw [e x (by simp [Op.operands])]
  case entry x => show oEntry x fr h K = oEntry x fr' h K; unfold oEntry; rw [e x (by simp [Op.operands])]
  case typeAssert x s t ok => show oAssert P x t ok fr h K = oAssert P x t ok fr' h K; unfold oAssert; rw [e x (by simp [Op.operands])]
  case extract x i => show oExtract x i fr h K = oExtract x i fr' h K; unfold oExtract; rw [e x (by simp [Op.operands])]
  case call c =>
    show oCall P c C fr h K = oCall P c C fr' h K
    have h1 : opds c.args.toList fr = opds c.args.toList fr' := opds_congr (fun x hx => e x (by simp [Op.operands, Call.operands]; exact .inr (by simpa using hx)))
    unfold oCall
    cases hc : c.callee with
    | value f =>
      have h2 : opd f fr = opd f fr' := e f (by simp [Op.operands, Call.operands, hc])
      simp only [h1, h2]
    | builtin b => simp only [h1]
    | invoke r name =>
      have h2 : opd r fr = opd r fr' := e r (by simp [Op.operands, Call.operands, hc])
      simp only [h1, h2]
end
end Go.Proofs.YtphfekkllibphaaGreatDoor.Ev
namespace Go.Proofs.YtphfekkllibphaaGreatDoor.Ev
open Go Go.RowKit

/-- The slots that are looked at, alone. -/
noncomputable def cutF (N : Nat) (l : List Tmp) (fr : Fr) : Fr := ((List.range N).filter (fun t => !l.contains t)).foldl (fun t d => T.set t (d + 1) .u) fr
theorem fold_u (l : List Nat) : ∀ (t : Fr) (j : Nat), (j ∈ l → (l.foldl (fun t d => T.set t (d + 1) V.u) t).get .u (j + 1) = .u) ∧ (j ∉ l → (l.foldl (fun t d => T.set t (d + 1) V.u) t).get .u (j + 1) = t.get .u (j + 1)) := by
  induction l with
  | nil => exact fun t j => ⟨fun h => (by cases h), fun _ => rfl⟩
  | cons d l ih =>
    intro t j
    rw [List.foldl_cons]
    by_cases hj : j ∈ l
    · exact ⟨fun _ => (ih _ j).1 hj, fun h => absurd (List.mem_cons_of_mem _ hj) h⟩
    · rcases T.get_set (d := V.u) (t := t) (j := j + 1) (k := d + 1) V.u (by omega) (by omega) with ⟨h1, h2⟩ | ⟨h1, h2⟩
      · have : j = d := Nat.succ.inj h1
        subst this
        refine ⟨fun _ => ?_, fun h => absurd List.mem_cons_self h⟩
        rw [(ih _ j).2 hj]
        rcases h2 with h2 | h2 <;> exact h2
      · refine ⟨fun h => ?_, fun _ => ?_⟩
        · rcases List.mem_cons.1 h with rfl | h
          · exact absurd rfl h1
          · exact absurd h hj
        · rw [(ih _ j).2 hj, h2]
theorem cutF_get (N : Nat) (l : List Tmp) (fr : Fr) (t : Nat) : ((t < N ∧ t ∉ l) ∧ (cutF N l fr).get .u (t + 1) = .u) ∨ (¬ (t < N ∧ t ∉ l) ∧ (cutF N l fr).get .u (t + 1) = fr.get .u (t + 1)) := by
  have hm : t ∈ (List.range N).filter (fun t => !l.contains t) ↔ (t < N ∧ t ∉ l) := by simp
  by_cases h : t < N ∧ t ∉ l
  · exact .inl ⟨h, (fold_u _ fr t).1 (hm.2 h)⟩
  · exact .inr ⟨h, (fold_u _ fr t).2 (fun hh => h (hm.1 hh))⟩
theorem fold_z (l : List Nat) (f : Nat → O) : ∀ (t : T O) (j : Nat), (j ∈ l → (l.foldl (fun t b => T.set t (b + 1) (f b)) t).get .z (j + 1) = f j ∨ (l.foldl (fun t b => T.set t (b + 1) (f b)) t).get .z (j + 1) = .z) ∧
    (j ∉ l → (l.foldl (fun t b => T.set t (b + 1) (f b)) t).get .z (j + 1) = t.get .z (j + 1)) := by
  induction l with
  | nil => exact fun t j => ⟨fun h => (by cases h), fun _ => rfl⟩
  | cons d l ih =>
    intro t j
    rw [List.foldl_cons]
    by_cases hj : j ∈ l
    · exact ⟨fun _ => (ih _ j).1 hj, fun h => absurd (List.mem_cons_of_mem _ hj) h⟩
    · rcases T.get_set (d := O.z) (t := t) (j := j + 1) (k := d + 1) (f d) (by omega) (by omega) with ⟨h1, h2⟩ | ⟨h1, h2⟩
      · have : j = d := Nat.succ.inj h1
        subst this
        refine ⟨fun _ => ?_, fun h => absurd List.mem_cons_self h⟩
        rw [(ih _ j).2 hj]
        exact h2
      · refine ⟨fun h => ?_, fun _ => ?_⟩
        · rcases List.mem_cons.1 h with rfl | h
          · exact absurd rfl h1
          · exact absurd h hj
        · rw [(ih _ j).2 hj, h2]
theorem hideK_eq (l : List Nat) (h : H) (K : H → Bool) : hideK l h K = K ⟨l.foldl (fun t b => T.set t (b + 1) .z) h.t, h.nx, h.lg, h.df⟩ := by
  have key : ∀ (l : List Nat) (t : T O), (List.rec (motive := fun _ => T O → Bool) (fun t => K ⟨t, h.nx, h.lg, h.df⟩) (fun b _ ih t => t.setK (Nat.succ b) .z ih) l t : Bool) = K ⟨l.foldl (fun t b => T.set t (b + 1) .z) t, h.nx, h.lg, h.df⟩ := by
    intro l
    induction l with
    | nil => exact fun t => rfl
    | cons b l ih =>
      intro t
      rw [List.foldl_cons, ← ih]
      exact T.setK_eq t (b + 1) .z _
  exact key l h.t
theorem showK_eq (l : List Nat) (h0 h : H) (K : H → Bool) : showK l h0 h K = K ⟨l.foldl (fun t b => T.set t (b + 1) (h0.get b)) h.t, h.nx, h.lg, h.df⟩ := by
  have key : ∀ (l : List Nat) (t : T O), (List.rec (motive := fun _ => T O → Bool) (fun t => K ⟨t, h.nx, h.lg, h.df⟩) (fun b _ ih t => t.setK (Nat.succ b) (h0.get b) ih) l t : Bool) = K ⟨l.foldl (fun t b => T.set t (b + 1) (h0.get b)) t, h.nx, h.lg, h.df⟩ := by
    intro l
    induction l with
    | nil => exact fun t => rfl
    | cons b l ih =>
      intro t
      rw [List.foldl_cons, ← ih]
      exact T.setK_eq t (b + 1) (h0.get b) _
  exact key l h.t
theorem ids_mem (lo n b : Nat) : b ∈ ids lo n ↔ lo ≤ b ∧ b < lo + n := by
  induction n with
  | zero => exact ⟨fun h => (by cases h), fun h => (by omega)⟩
  | succ n ih =>
    have : ids lo (n + 1) = (lo + n) :: ids lo n := rfl
    rw [this, List.mem_cons, ih]
    omega
/-- What an operation of the region that is played has met and left. -/
structure Tr where
  fr : Fr
  h : H
  acc : List Rc
  want : Bool
  v : V
  g : H
  g' : H
/-- What a record says is b's. -/
def Rc.has (q : Rc) (b : Nat) : Prop := b ∈ q.wr ∨ (q.lo ≤ b ∧ b < q.hi)
structure Good (P : Program) (N : Nat) (bm : List Nat) (ops : Array Oper) (i : Nat) (o : Oper) (r r' : Tr) (rc : Rc) : Prop where
  fr : r'.fr = Fr.putv r.fr o.dst r.v
  df : r'.h.df = r.h.df
  yes : r.want = true → wantedK ops o r.fr true false = true ∧ ∀ (ρ : Ren) (a : Act) (w : World) (next : Act → World → Prop) (Q : Exit → Act → World → Prop), FR ρ (cutF N (o.looksAt ops) r.fr) a → Sat ρ r.g w →
    (∀ ρ' w' x, VR ρ' r.v x → Sat ρ' r.g' w' → Step ρ r.g w ρ' r.g' w' → next (a.put o.dst x) w') → o.wp P a w next Q
  no : r.want = false → wantedK ops o r.fr false true = true ∧ r.v = .tup [] ∧ r.g' = r.g
  acc : r'.acc = rc :: r.acc
  idx : rc.i = i
  lo : rc.lo = r.h.nx
  hi : rc.hi = r.g'.nx
  nxg : r.g.nx = r.h.nx
  nx : r'.h.nx = r.g'.nx
  glg : r.g.lg = []
  gsub : ∀ b, r.g.get b = .z ∨ (rc.sees b = true ∧ (∀ q ∈ looseOf bm i r.acc, ¬ q.has b) ∧ r.g.get b = r.h.get b)
  wrf : rc.free = true → rc.wr = []
  wrn : rc.wr = trim r.g.nx r.g'.lg []
  wfree : ∀ b ∈ rc.wr, ∀ q ∈ looseOf bm i r.acc, q.sees b = false
  hn1 : rc.free = false → ∀ b, (∃ q ∈ looseOf bm i r.acc, q.has b) → r'.h.get b = r.h.get b ∨ r'.h.get b = .z
  hn2 : rc.free = false → ∀ b, (∀ q ∈ looseOf bm i r.acc, ¬ q.has b) → r'.h.get b = r.g'.get b
  hf1 : rc.free = true → ∀ b, rc.lo ≤ b → b < rc.hi → r'.h.get b = r.g'.get b ∨ r'.h.get b = .z
  hf2 : rc.free = true → ∀ b, ¬ (rc.lo ≤ b ∧ b < rc.hi) → r'.h.get b = r.h.get b
  lg : ∀ b, b ∈ r.h.lg ∨ b ∈ rc.wr → b ∈ r'.h.lg
  gn : rc.free = false → ∀ b, (∀ q ∈ looseOf bm i r.acc, ¬ q.has b) → r.g.get b = r.h.get b
section
variable {P : Program} {D : FuncId → Bool} {C : CT} {N : Nat}
theorem wantedK_split {ops : Array Oper} {o : Oper} {fr : Fr} {yes no : Bool} (hk : wantedK ops o fr yes no = true) : (wantedK ops o fr true false = true ∧ yes = true) ∨ (wantedK ops o fr false true = true ∧ no = true) := by
  unfold wantedK at *
  split at hk
  · exact .inl ⟨rfl, hk⟩
  · split at hk <;> first | (cases hk; done) | skip
    rename_i j want hg _ d hd
    cases hx : fr.get .u (Nat.succ d) with
    | b x =>
      rw [hx] at hk
      simp only [] at hk ⊢
      cases hxw : (x == want) with
      | true =>
        rw [hxw] at hk
        exact .inl ⟨rfl, hk⟩
      | false =>
        rw [hxw] at hk
        exact .inr ⟨rfl, hk⟩
    | tup l => rw [hx] at hk; exact .inr ⟨rfl, hk⟩
    | _ => rw [hx] at hk; cases hk
theorem opd_cut {o : Oper} {ops : Array Oper} {fr : Fr} {x : Operand} (hx : x ∈ o.op.operands) : opd x fr = opd x (cutF N (o.looksAt ops) fr) := by
  cases x with
  | tmp t =>
    show fr.get .u (t + 1) = (cutF N (o.looksAt ops) fr).get .u (t + 1)
    rcases cutF_get N (o.looksAt ops) fr t with ⟨h, _⟩ | ⟨_, h⟩
    · exfalso
      refine h.2 (List.mem_append_left _ (List.mem_filterMap.2 ⟨.tmp t, by simpa using hx, rfl⟩))
    · exact h.symm
  | _ => rfl
theorem onlyK_eq (l hid : List Nat) (h : H) (K : H → Bool) : onlyK l hid h K = K ⟨l.foldl (fun t b => T.set t (b + 1) (Bool.rec (h.get b) .z (hid.contains b))) (full .z 20), h.nx, [], h.df⟩ := by
  have key : ∀ (l : List Nat) (t : T O), (List.rec (motive := fun _ => T O → Bool) (fun t => K ⟨t, h.nx, [], h.df⟩) (fun b _ ih t => t.setK (Nat.succ b) (Bool.rec (h.get b) .z (hid.contains b)) ih) l t : Bool) = K ⟨l.foldl (fun t b => T.set t (b + 1) (Bool.rec (h.get b) .z (hid.contains b))) t, h.nx, [], h.df⟩ := by
    intro l
    induction l with
    | nil => exact fun t => rfl
    | cons b l ih =>
      intro t
      rw [List.foldl_cons, ← ih]
      exact T.setK_eq t (b + 1) _ _
  exact key l (full .z 20)
theorem hid_mem {U : List Rc} (b : Nat) : b ∈ hidOf U ↔ ∃ q ∈ U, q.has b := by
  unfold hidOf
  rw [List.mem_flatMap]
  constructor
  · rintro ⟨q, hq, hb⟩
    refine ⟨q, hq, ?_⟩
    rcases List.mem_append.1 hb with hb | hb
    · exact .inl hb
    · have := (ids_mem _ _ _).1 hb
      have h4 : b < q.lo + (q.hi - q.lo) := this.2
      exact .inr ⟨this.1, by omega⟩
  · rintro ⟨q, hq, hb⟩
    refine ⟨q, hq, List.mem_append.2 ?_⟩
    rcases hb with hb | hb
    · exact .inl hb
    · exact .inr ((ids_mem _ _ _).2 ⟨hb.1, by show b < q.lo + (q.hi - q.lo); omega⟩)
/-- The play of one operation. -/
theorem opDK_ok (hC : CallOK P D C) {bm : List Nat} {ops : Array Oper} {i : Nat} {o : Oper} {acc : List Rc} {fr : Fr} {h : H} {K : List Rc → Fr → H → Bool} (hk : opDK P C bm ops i o acc fr h K = true) :
    ∃ (want : Bool) (v : V) (g g' : H) (rc : Rc) (h' : H), K (rc :: acc) (Fr.putv fr o.dst v) h' = true ∧ ∀ (r r' : Tr), r = ⟨fr, h, acc, want, v, g, g'⟩ → r'.fr = Fr.putv fr o.dst v → r'.h = h' → r'.acc = rc :: acc → Good P N bm ops i o r r' rc := by
  have bz : ∀ b, (bareK h).get b = .z := fun b => by
    rcases T.get_full (O.z) O.z 20 (b + 1) with e | e <;> exact e
  unfold opDK at hk
  rcases wantedK_split hk with ⟨hw, hk⟩ | ⟨hw, hk⟩
  · cases hlook : looksK o.op fr with
    | some l =>
      rw [hlook] at hk
      replace hk : onlyK l (hidOf (looseOf bm i acc)) h (fun g => opK P o.op C fr g fun v g' => (trim g.nx g'.lg []).isEmpty.rec false (putK o.dst v fr fun fr => showK (ids h.nx (Nat.sub g'.nx h.nx)) g' ⟨h.t, g'.nx, h.lg, h.df⟩ fun h' => K (⟨i, h.nx, g'.nx, [], true, l⟩ :: acc) fr h')) = true := hk
      rw [onlyK_eq] at hk
      generalize hgt : (l.foldl (fun t b => T.set t (b + 1) (Bool.rec (h.get b) O.z ((hidOf (looseOf bm i acc)).contains b))) (full O.z 20)) = gt at hk
      rw [opK_congr (fr' := cutF N (o.looksAt ops) fr) (fun x hx => opd_cut hx)] at hk
      obtain ⟨v, g', hk, hr⟩ := opK_ok hC hk
      obtain ⟨hwr, hk⟩ := recB_false hk
      have hwe : trim h.nx g'.lg [] = [] := List.isEmpty_iff.1 hwr
      replace hk := (putK_eq _ _ _ _).symm.trans hk
      rw [showK_eq] at hk
      refine ⟨true, v, ⟨gt, h.nx, [], h.df⟩, g', ⟨i, h.nx, g'.nx, [], true, l⟩, _, hk, fun r r' hr0 h1 h2 h3 => ?_⟩
      subst hr0
      subst hgt
      refine ⟨h1, by rw [h2], fun _ => ⟨hw, fun ρ a w next Q f s kn => hr ρ a w o next Q rfl f s kn⟩, fun e => (by cases e), h3, rfl, rfl, rfl, rfl, by rw [h2], rfl, fun b => ?_, fun _ => rfl, hwe.symm, fun b hb => (by cases hb), fun e => (by cases e), fun e => (by cases e), fun _ b hb1 hb2 => ?_, fun _ b hb => ?_, fun b hb => ?_, fun e => (by cases e)⟩
      · by_cases hb : b ∈ l
        · rcases (fold_z l (fun b => Bool.rec (h.get b) O.z ((hidOf (looseOf bm i acc)).contains b)) (full O.z 20) b).1 hb with e | e
          · cases hc : (hidOf (looseOf bm i acc)).contains b with
            | true =>
              rw [hc] at e
              exact .inl e
            | false =>
              rw [hc] at e
              refine .inr ⟨?_, fun q hq hh => ?_, e⟩
              · show (!true || l.contains b) = true
                rw [List.contains_iff_mem.2 hb]; rfl
              · rw [List.contains_iff_mem.2 ((hid_mem b).2 ⟨q, hq, hh⟩)] at hc
                cases hc
          · exact .inl e
        · refine .inl ?_
          have e := (fold_z l (fun b => Bool.rec (h.get b) O.z ((hidOf (looseOf bm i acc)).contains b)) (full O.z 20) b).2 hb
          exact e.trans (bz b)
      · rw [h2]
        exact (fold_z _ _ _ b).1 ((ids_mem _ _ _).2 ⟨hb1, by have h1 : b < g'.nx := hb2; have h2 : h.nx ≤ b := hb1; show b < h.nx + (g'.nx - h.nx); omega⟩)
      · rw [h2]
        refine (fold_z _ _ _ b).2 (fun hm => hb ?_)
        have := (ids_mem _ _ _).1 hm
        have h4 : b < h.nx + (g'.nx - h.nx) := this.2
        exact ⟨this.1, by show b < g'.nx; omega⟩
      · rw [h2]
        rcases hb with hb | hb
        · exact hb
        · cases hb
    | none =>
      rw [hlook] at hk
      replace hk : hideK (hidOf (looseOf bm i acc)) ⟨h.t, h.nx, [], h.df⟩ (fun g => opK P o.op C fr g fun v g' =>
         ((trim g.nx g'.lg []).all fun b => (looseOf bm i acc).all fun q => !q.sees b).rec false (putK o.dst v fr fun fr => showK (hidOf (looseOf bm i acc)) h ⟨g'.t, g'.nx, trim g.nx g'.lg [] ++ h.lg, h.df⟩ fun h' => K (⟨i, g.nx, g'.nx, trim g.nx g'.lg [], false, []⟩ :: acc) fr h')) = true := hk
      have hmem := fun b => hid_mem (U := looseOf bm i acc) b
      rw [hideK_eq] at hk
      simp only [] at hk
      generalize hgt : (List.foldl (fun t b => T.set t (b + 1) O.z) h.t (hidOf (looseOf bm i acc))) = gt at hk
      rw [opK_congr (fr' := cutF N (o.looksAt ops) fr) (fun x hx => opd_cut hx)] at hk
      obtain ⟨v, g', hk, hr⟩ := opK_ok hC hk
      obtain ⟨hu, hk⟩ := recB_false hk
      replace hk := (putK_eq _ _ _ _).symm.trans hk
      rw [showK_eq] at hk
      refine ⟨true, v, ⟨gt, h.nx, [], h.df⟩, g', _, _, hk, fun r r' hr0 h1 h2 h3 => ?_⟩
      subst hr0
      subst hgt
      refine ⟨h1, by rw [h2], fun _ => ⟨hw, fun ρ a w next Q f s kn => hr ρ a w o next Q rfl f s kn⟩, fun e => (by cases e), h3, rfl, rfl, rfl, rfl, by rw [h2], rfl, fun b => ?_, fun e => (by cases e), rfl, fun b hb q hq => ?_, fun _ b hb => ?_, fun _ b hb => ?_, fun e => (by cases e), fun e => (by cases e), fun b hb => ?_, fun _ b hb => (fold_z _ (fun _ => O.z) h.t b).2 (fun hm => let ⟨q, hq, hh⟩ := (hmem b).1 hm; hb q hq hh)⟩
      · by_cases hb : ∃ q ∈ looseOf bm i acc, q.has b
        · refine .inl ?_
          rcases (fold_z _ (fun _ => O.z) h.t b).1 ((hmem b).2 hb) with e | e <;> exact e
        · exact .inr ⟨rfl, fun q hq hh => hb ⟨q, hq, hh⟩, (fold_z _ (fun _ => O.z) h.t b).2 (fun hm => hb ((hmem b).1 hm))⟩
      · have h9 := List.all_eq_true.1 (List.all_eq_true.1 hu b hb) q hq
        simpa using h9
      · rw [h2]
        exact (fold_z _ _ _ b).1 ((hmem b).2 hb)
      · rw [h2]
        exact (fold_z _ _ _ b).2 (fun hm => let ⟨q, hq, hh⟩ := (hmem b).1 hm; hb q hq hh)
      · rw [h2]
        rcases hb with hb | hb
        · exact List.mem_append_right _ hb
        · exact List.mem_append_left _ hb
  · replace hk := (putK_eq _ _ _ _).symm.trans hk
    refine ⟨false, .tup [], ⟨full .z 20, h.nx, [], h.df⟩, ⟨full .z 20, h.nx, [], h.df⟩, ⟨i, h.nx, h.nx, [], true, []⟩, h, hk, fun r r' hr0 h1 h2 h3 => ?_⟩
    subst hr0
    refine ⟨h1, by rw [h2], fun e => (by cases e), fun _ => ⟨hw, rfl, rfl⟩, h3, rfl, rfl, rfl, rfl, by rw [h2], rfl, fun b => .inl (bz b), fun _ => rfl, rfl, fun b hb => (by cases hb), fun e => (by cases e), fun e => (by cases e), fun _ b hb1 hb2 => ?_, fun _ b hb => (by rw [h2]), fun b hb => ?_, fun e => (by cases e)⟩
    · have h1 : h.nx ≤ b := hb1
      have h2 : b < h.nx := hb2
      omega
    · rw [h2]
      rcases hb with hb | hb
      · exact hb
      · cases hb
/-- The whole play. -/
theorem regDK_ok (hC : CallOK P D C) {bm : List Nat} {ops : Array Oper} {K : Fr → H → Bool} : ∀ (l : List (Oper × Nat)) (k : Nat) (acc : List Rc) (fr : Fr) (h : H), ops.toList.zipIdx.drop k = l → regDK P C bm ops K l acc fr h = true →
    ∃ (tr : Nat → Tr) (rc : Nat → Rc), (tr k).fr = fr ∧ (tr k).h = h ∧ (tr k).acc = acc ∧ K (tr (k + l.length)).fr (tr (k + l.length)).h = true ∧ ∀ i o, k ≤ i → ops[i]? = some o → Good P N bm ops i o (tr i) (tr (i + 1)) (rc i) := by
  intro l
  induction l with
  | nil =>
    intro k acc fr h hl hk
    refine ⟨fun _ => ⟨fr, h, acc, false, .u, h, h⟩, fun _ => ⟨0, 0, 0, [], true, []⟩, rfl, rfl, rfl, hk, fun i o hi ho => ?_⟩
    have h1 := List.drop_eq_nil_iff.1 hl
    have h2 := (Array.getElem?_eq_some_iff.1 ho).1
    rw [List.length_zipIdx, Array.length_toList] at h1
    omega
  | cons q l ih =>
    intro k acc fr h hl hk
    obtain ⟨o, j⟩ := q
    have h0 : (ops.toList.zipIdx.drop k)[0]? = some (o, j) := by rw [hl]; rfl
    rw [List.getElem?_drop, Nat.add_zero, List.getElem?_zipIdx] at h0
    obtain ⟨o', ho', he⟩ := Option.map_eq_some_iff.1 h0
    injection he with e1 e2
    subst e1
    rw [Nat.zero_add] at e2
    subst e2
    have ho : ops[k]? = some o' := by simpa using ho'
    have hl' : ops.toList.zipIdx.drop (k + 1) = l := by
      rw [← List.tail_drop, hl]
      rfl
    replace hk : opDK P C bm ops k o' acc fr h (regDK P C bm ops K l) = true := hk
    obtain ⟨want, v, g, g', rc0, h', hk, hg⟩ := opDK_ok (N := N) hC hk
    obtain ⟨tr, rc, t1, t2, t3, t4, t5⟩ := ih (k + 1) _ _ _ hl' hk
    refine ⟨fun i => if i = k then ⟨fr, h, acc, want, v, g, g'⟩ else tr i, fun i => if i = k then rc0 else rc i, by simp, by simp, by simp, ?_, fun i o hi hoi => ?_⟩
    · have hne : k + (l.length + 1) ≠ k := by omega
      simp only [List.length_cons, hne, if_false]
      rw [show k + (l.length + 1) = k + 1 + l.length by omega]
      exact t4
    · by_cases hik : i = k
      · subst hik
        rw [ho] at hoi
        injection hoi with hoi
        subst hoi
        simp only [if_true, show i + 1 ≠ i by omega, if_false]
        exact hg _ _ rfl t1 t2 t3
      · simp only [hik, show i + 1 ≠ k by omega, if_false]
        exact t5 i o (by omega) hoi
end
end Go.Proofs.YtphfekkllibphaaGreatDoor.Ev
