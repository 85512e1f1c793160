/- The reckoner: what stands for a function; a function whose last call panics, and which recovers. -/
import Derived.Test.YtphfekkllibphaaGreatDoorEvPaM
import Derived.Below
import Derived.Recover
namespace Go.Proofs.YtphfekkllibphaaGreatDoor.Ev
open Go Go.RowKit

/-- Whoever calls it goes on so. -/
def Stands (P : Program) (f : FuncId) (args : List V) (h : H) (v : V) (h' : H) : Prop :=
  ∀ (ρ : Ren) (w : World) (as : List Value), Sat ρ h w → LR ρ args as → ∀ (o : Oper) (a : Act) (next : Act → World → Prop) (Q : Exit → Act → World → Prop),
    (∀ x w', (∃ ρ', VR ρ' v x ∧ Sat ρ' h' w' ∧ Step ρ h w ρ' h' w') → next (a.put o.dst x) w') → o.upon P a next Q ((callFunc f as.toArray).run P w)
section
variable {P : Program} {D : FuncId → Bool} {C : CT} {CP : PT} {ρ : Ren} {h : H} {K : KT} {w : World}
theorem Sat.below {w' : World} (s : Sat ρ h w) (b : Below w.heap.size w w') : Sat ρ h w' ∧ Step ρ h w ρ h w' :=
  ⟨⟨s.n, fun c => (s.o c).keep (.refl _) (fun hz => b.block _ ((s.o c).lt hz).2), s.inj⟩,
   ⟨.refl _, b.os, b.tape, b.output, b.size, fun r hr _ => b.block r hr, fun c hc => .inl ⟨c, hc, rfl⟩, Nat.le_refl _, fun _ h => h, fun _ _ _ => rfl, rfl, fun _ h => .inl h⟩⟩
/-- A block more, somewhere behind. -/
theorem Sat.behind {w' : World} {o : O} {r : Nat} (s : Sat ρ h w) (b : Below w.heap.size w w') (g : Nat) (hr : w.heap.size ≤ r) (ho : OR (ρ.add r g) w' ρ.n o) :
    Sat (ρ.add r g) (h.add o) w' ∧ Step ρ h w (ρ.add r g) (h.add o) w' := by
  have hold : ∀ b, h.get b ≠ .z → ρ.π b < w.heap.size := fun b hb => ((s.o b).lt hb).2
  refine ⟨s.add ho (fun b hb => fun e => by have := hold b hb; omega) (fun c hc => b.block _ (hold c hc)), ⟨ρ.add_le _ _, b.os, b.tape, b.output, b.size, fun k hk _ => b.block k hk, fun c hc => ?_, Nat.le_succ _, fun _ h => h, fun c hc _ => ?_, rfl, fun c hc => ?_⟩⟩
  · rcases h.add_get o c with ⟨rfl, _⟩ | ⟨_, e⟩
    · refine .inr ?_
      rw [← s.n, ρ.add_π]
      exact hr
    · rw [e] at hc
      exact .inl ⟨c, hc, ((ρ.add_le r g).π c ((s.o c).lt hc).1).symm⟩
  · rcases h.add_get o c with ⟨rfl, _⟩ | ⟨_, e⟩
    · omega
    · exact e
  · rcases hc with e | h9
    · exact .inr ⟨by rw [e, s.n]; exact Nat.le_refl _, by rw [e, s.n]; exact Nat.lt_succ_self _⟩
    · exact .inl h9
theorem Stands.of_calls (hO : Own P) {f : FuncId} {fn : Func} {c : Code} {args : List V} {v : V} {h' : H} (hf : P.funcs[f]? = some fn) (hb : fn.body = some c)
    (hr : ∀ (ρ : Ren) (w : World) (as : List Value), Sat ρ h w → LR ρ args as → Calls P f as.toArray w fun e w' => ∃ x, e = .returned x ∧ ∃ ρ', VR ρ' v x ∧ Sat ρ' h' w' ∧ Step ρ h w ρ' h' w') : Stands P f args h v h' := by
  intro ρ w as s hl o a next Q hnx
  rw [run_enter hO hf hb, Oper.upon_enter]
  refine (hr ρ w as s hl).mono ?_
  rintro e w' ⟨x, rfl, hx⟩
  exact hnx x w' hx
/-- What changes nothing that is known. -/
theorem Stands.of_pure (hO : Own P) {f : FuncId} {fn : Func} {c : Code} {args : List V} {v : V} (hf : P.funcs[f]? = some fn) (hb : fn.body = some c)
    (hr : ∀ (ρ : Ren) (w : World) (as : List Value), Sat ρ h w → LR ρ args as → Calls P f as.toArray w fun e w' => ∃ x, e = .returned x ∧ VR ρ v x ∧ Below w.heap.size w w') : Stands P f args h v h := by
  refine .of_calls hO hf hb (fun ρ w as s hl => (hr ρ w as s hl).mono ?_)
  rintro e w' ⟨x, rfl, hv, hb⟩
  exact ⟨x, rfl, ρ, hv, s.below hb⟩
/-- What the model answers at once. -/
theorem Stands.of_value {f : FuncId} {args : List V} {v : V} (hr : ∀ (ρ : Ren) (w : World) (as : List Value), Sat ρ h w → LR ρ args as → ∃ x, (callFunc f as.toArray).run P w = .ok (.value x) w ∧ VR ρ v x) : Stands P f args h v h := by
  intro ρ w as s hl o a next Q hnx
  obtain ⟨x, hx, hv⟩ := hr ρ w as s hl
  rw [hx, Oper.upon_value]
  exact hnx x w ⟨ρ, hv, s, .refl _ _ _⟩
end
/-- Till a call panics: what is deferred, fC, recovers, and lays a number down. -/
noncomputable def ovScan (P : Program) (C : CT) (CP : PT) (fS fC : FuncId) (tb : TypeId) : List V → H → KT → Bool := fun args h K =>
  Option.rec false (fun fn => Option.rec false (fun c => (codeOK fn.ntmps c && Nat.ble args.length fn.ntmps).rec false <|
    T.layK args (full .u 11) 1 fun fr => codeP P C CP true 100000 100000 c fr ⟨h.t, h.nx, [], []⟩ (fun v fr h' => match v, h'.df with
      | .ic t (.agg []), [[.f (.func g) [] [.p p 0, .p q 0]]] => (Nat.beq t tb && Nat.beq g fC).rec false <|
          onC (h'.get p) fun np tp _ _ => (match tp.get .u 1 with
            | .p sp 0 => onC (h'.get sp) fun ns ts _ _ => (match ts.get .u 3 with
              | .i .i64 n => (Nat.ble 1 np && Nat.ble 3 ns).rec false (storeL [.i .i64 n] q 0 ⟨h'.t, h'.nx, h'.lg, []⟩ fun _ h' => resultsK P fn fr h' fun v h' => K v ⟨h'.t, h'.nx, trim h.nx h'.lg h.lg, h.df⟩)
              | _ => false)
            | _ => false)
      | _, _ => false) (fun _ => false)) fn.body) ((ftab P).get none (Nat.succ fS))
/-- What is deferred does so. -/
def CatchOK (P : Program) (fC : FuncId) (tb : TypeId) : Prop :=
  ∀ (p q sp : Nat) (n : Int) (w w2 : World), w.cell? ⟨p, 0, none⟩ = some (.pointer (some ⟨sp, 0, none⟩)) → w.cell? ⟨sp, 2, none⟩ = some (.int .i64 n) → p < w.heap.size → sp < w.heap.size →
    (storeCells ⟨q, 0, none⟩ [.int .i64 n]).run P (w.alloc (.cells #[] tb)) = .ok () w2 →
    CallsD P fC #[.pointer (some ⟨p, 0, none⟩), .pointer (some ⟨q, 0, none⟩)] (.panicking [{ v := .iface tb (.agg #[]), recovered := false }]) w fun e u' w' =>
      e = .returned (.tuple #[]) ∧ u' = .panicking [{ v := .iface tb (.agg #[]), recovered := true }] ∧ w' = w2
section
variable {P : Program} {D : FuncId → Bool} {C : CT} {CP : PT} {h : H} {K : KT}
theorem LR.nil_arr {ρ : Ren} {as : Array Value} (h : LR ρ [] as.toList) : as = #[] := by
  have := h.1
  exact Array.toList_eq_nil_iff.1 (List.eq_nil_of_length_eq_zero this.symm)
theorem scan_ok (hC : CallOK P D C) (hD : DrawOK P C) (hP : PanOK P CP) (hO : Own P) {fS fC : FuncId} {fnC : Func} {cC : Code} {tb : TypeId} (hfC : P.funcs[fC]? = some fnC) (hbC : fnC.body = some cC) (hcat : CatchOK P fC tb) {args : List V}
    (hk : ovScan P C CP fS fC tb args h K = true) : ∃ v h', K v h' = true ∧ Stands P fS args h v h' := by
  unfold ovScan at hk
  cases hf : (ftab P).get none (Nat.succ fS) with
  | none => rw [hf] at hk; cases hk
  | some fn => _
  rw [hf] at hk
  have hf' := ftab_ok hf
  cases hb : fn.body with
  | none => simp only [hb] at hk; cases hk
  | some c => _
  simp only [hb] at hk
  obtain ⟨g, hk⟩ := recB_false hk
  obtain ⟨g1, g2⟩ := and2 g
  rw [T.layK_eq] at hk
  rcases codeP_ok hC hD hP _ c _ _ _ _ g1 hk with ⟨v, fr', h', hk, hr⟩ | hF
  rotate_left
  · cases hF
  split at hk <;> first | (cases hk; done) | skip
  rename_i t g p q hdf
  obtain ⟨k0, hk9⟩ := recB_false hk
  clear hk
  have k1 := beq_eq (and2 k0).1
  have k2 := beq_eq (and2 k0).2
  clear k0
  subst k1 k2
  obtain ⟨np, tp, ep, gp, hbp, hk⟩ := O.c_inv hk9
  split at hk <;> first | (cases hk; done) | skip
  rename_i sp hsp
  obtain ⟨ns, ts, es, gs, hbs, hk⟩ := O.c_inv hk
  split at hk <;> first | (cases hk; done) | skip
  rename_i n hn
  obtain ⟨k3, hk⟩ := recB_false hk
  obtain ⟨k3, k4⟩ := and2 k3
  obtain ⟨h2, hk, hst⟩ := storeL_ok (P := P) hk
  obtain ⟨z, hk, hres⟩ := resultsK_ok hk
  refine ⟨z, _, hk, fun ρ w as s hl o a next Q hnx => ?_⟩
  rw [run_enter hO hf' hb, Oper.upon_enter]
  refine calls_of_wp_defers hf' hb (wpX_wp (hr ρ _ w _ ⟨start_fr hl (ble_le g2), s.less rfl (fun _ => .inl rfl), ?_, .nil⟩ (fun ρ' a' w' x s' hvx gn => ?_)))
  · have := hl.1
    have := ble_le g2
    simp
    omega
  · show Leaves P fn a'.tmps _ a'.defers (.panicking [{ v := x, recovered := false }]) w'
    have hx : x = .iface t (.agg #[]) := by
      obtain ⟨y, e, hy⟩ := hvx.ic_inv
      obtain ⟨as9, e2, hl9⟩ := hy.agg_inv
      rw [e, e2, hl9.nil_arr]
    subst hx
    have hd := s'.df
    rw [hdf] at hd
    generalize ea : a'.defers = ds at hd
    cases hd with
    | cons d1 d2 d3 hd =>
      rename_i f9 c9 as9 ds9
      have hnil := hd.nil_inv
      have e1 := d1.nil_arr
      have e3 := d3.nil_arr
      subst hnil e1 e3
      obtain ⟨x1, x2, e2, hx1, hx2⟩ := d2.two_inv
      have hp1 := hx1.p_inv
      have hp2 := hx2.p_inv
      have hc9 : c9 = #[.pointer (some ⟨ρ'.π p, 0, none⟩), .pointer (some ⟨ρ'.π q, 0, none⟩)] := by
        apply Array.ext'
        rw [e2, hp1.2, hp2.2]
      subst hc9
      have s1 : Sat ρ' ⟨h'.t, h'.nx, h'.lg, []⟩ w' := s'.sat.less rfl (fun _ => .inl rfl)
      obtain ⟨s2, st2⟩ := s1.below ((Below.refl _ w').alloc (Nat.le_refl _) (.cells #[] t))
      obtain ⟨w2, r1, s3, st3⟩ := hst ρ' _ [.int .i64 n] s2 (.cons (.i _ _) .nil)
      obtain ⟨q1, cs1, fz1, q2, q3, q4, q5, q6, q7⟩ := s'.sat.cells hbp
      obtain ⟨y1, qy1, qv1⟩ := q6 0 (ble_le k3)
      rw [hsp] at qv1
      have hsp' := qv1.p_inv
      obtain ⟨u1, cs2, fz2, u2, u3, u4, u5, u6, u7⟩ := s'.sat.cells hbs
      obtain ⟨y2, uy2, uv2⟩ := u6 2 (ble_le k4)
      rw [hn] at uv2
      have hcell1 : w'.cell? ⟨ρ'.π p, 0, none⟩ = some (.pointer (some ⟨ρ'.π sp, 0, none⟩)) := by rw [cell_of q2, qy1, hsp'.2]
      have hcell2 : w'.cell? ⟨ρ'.π sp, 2, none⟩ = some (.int .i64 n) := by rw [cell_of u2, uy2, uv2.i_inv]
      refine leaves_cons (f := g) (args := #[.pointer (some ⟨ρ'.π p, 0, none⟩), .pointer (some ⟨ρ'.π q, 0, none⟩)]) (by simp) ?_ ((hcat (ρ'.π p) (ρ'.π q) (ρ'.π sp) n w' w2 hcell1 hcell2 (Array.getElem?_eq_some_iff.1 q2).1 (Array.getElem?_eq_some_iff.1 u2).1 r1).mono ?_)
      · rw [invoke_func]
        exact run_enter hO hfC hbC _ _
      · rintro e u' w'' ⟨rfl, rfl, rfl⟩
        obtain ⟨xr, hxr, hvr⟩ := hres ρ' a' w'' s'.fr s3
        refine ⟨xr, hxr, ?_⟩
        have g9 : Step ρ ⟨h.t, h.nx, [], []⟩ w ρ' h'.bare w' := gn.st
        have st3' : Step ρ' h'.bare w' ρ' h2.bare w'' := (st2.trans st3).bare
        exact hnx xr w'' ⟨ρ', hvr, s3.less rfl (fun _ => .inl rfl), Step.out (h := h) (h' := h2.bare) (g9.trans st3')⟩
end
end Go.Proofs.YtphfekkllibphaaGreatDoor.Ev
