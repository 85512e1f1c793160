/- The reckoner: operations (6): binary operations whole, conversions, slices.  The reckoner: operations (7): what is made.  The reckoner: operations (8): slices.  The reckoner: operations (9): maps.  The reckoner: operations (10): maps written, gone through; assertions; rows of zeros. -/
import Derived.Test.YtphfekkllibphaaGreatDoorEvFM
import Derived.Laws.BytesString
namespace Go.Proofs.YtphfekkllibphaaGreatDoor.Ev
open Go Go.RowKit

section
variable {P : Program} {ρ : Ren} {fr : Fr} {a : Act} {h : H} {K : KT} {w : World}
theorem guard_plain {o : BinOp} {t : TypeId} {p q : Operand} {x y : Value} (hx : ∀ (e : x = .nilIface), False) (hy : ∀ cs (e : x = .agg cs), False) : (eqGuard o t p q x y).run P w = .ok () w := by
  have main : ∀ (c : Bool) (body : Sem Unit), body.run P w = .ok () w → (if (!c) = true then (pure () : Sem Unit) else body).run P w = .ok () w := by
    intro c body hb
    cases c
    · rfl
    · exact hb
  unfold eqGuard
  refine main _ _ ?_
  cases x <;> first | rfl | exact (hx rfl).elim | exact (hy _ rfl).elim
theorem concat_data (s t : ByteArray) : (s ++ t).data = s.data ++ t.data := by simp
theorem sameX_eq {a b : V} (h : sameX a b = true) : a = b := by
  unfold sameX at h
  split at h <;> first | (cases h; done) | skip
  · simp only [Bool.and_eq_true, decide_eq_true_eq] at h
    obtain ⟨⟨h1, h2⟩, h3⟩ := h
    rw [h1, Nat.eq_of_beq_eq_true h2, h3]
  · simp only [Bool.and_eq_true, decide_eq_true_eq] at h
    rw [h.1, h.2]
theorem sameX_rv {a b : V} {x : Value} (h : sameX a b = true) (hv : VR ρ b x) : RV ρ.m ρ.σ a x := by
  have e := sameX_eq h
  subst e
  unfold sameX at h
  split at h <;> first | (cases h; done) | skip
  · cases hv with
    | x hm => exact .x hm
  · rw [hv.i_inv]; exact .i _ _
theorem RV.vr {v : V} {x : Value} (h : RV ρ.m ρ.σ v x) : VR ρ v x := by
  cases h with
  | i k n => exact .i k n
  | b y => exact .b y
  | x hm => exact .x hm
theorem RV.plain {m : Nat} {σ : Nat → Int} {v : V} {x : Value} (h : RV m σ v x) : (x = .nilIface → False) ∧ ∀ cs, x = .agg cs → False := by
  cases h <;> exact ⟨fun e => (by cases e), fun _ e => (by cases e)⟩
theorem findFx_ok {o : BinOp} {a b r : V} (h : findFx o a b = some r) : ∃ f ∈ tab.fx, f.o = o ∧ sameX f.a a = true ∧ sameX f.b b = true ∧ f.r = r := by
  unfold findFx at h
  obtain ⟨f, hf, hr⟩ := Option.map_eq_some_iff.1 h
  have h1 := List.find?_some hf
  simp only [Bool.and_eq_true] at h1
  exact ⟨f, List.mem_of_find?_eq_some hf, of_decide_eq_true h1.1.1, h1.1.2, h1.2, hr⟩
theorem kindU_int {v : V} {k : IntKind} {x : Value} (h : kindU v = some k) (hv : VR ρ v x) : ∃ n, x = .int k n := by
  unfold kindU at h
  split at h <;> first | (cases h; done) | skip
  · injection h with h; subst h; exact ⟨_, hv.i_inv⟩
  · injection h with h; subst h; cases hv; exact ⟨_, rfl⟩
  · injection h with h; subst h; cases hv; exact ⟨_, rfl⟩
theorem sum_int {o : BinOp} (ho : isSum o = true) (k : IntKind) (m n : Int) (P : Program) (t : TypeId) (w : World) : ∃ z, (binOp o t (.int k m) (.int k n)).run P w = .ok (.int k z) w := by
  cases o <;> first
    | (cases ho; done)
    | exact ⟨_, by simp [binOp, Op.intArith]; rfl⟩
/-- Letters, unknown numbers. -/
theorem binX_ok {o : BinOp} {t u : TypeId} {p q : Operand} (hk : binX o (opd p fr) (opd q fr) h K = true) : OpOK P (.binOp o t p q u) fr h K := by
  unfold binX at hk
  split at hk
  · rename_i r hf
    obtain ⟨f, hm, h1, h2, h3, h4⟩ := findFx_ok hf
    refine ⟨r, h, hk, fun ρ a w o' next Q ho f' s kn => ?_⟩
    have hx := sameX_rv h2 (f'.opd p)
    have hy := sameX_rv h3 (f'.opd q)
    obtain ⟨z, hz, hr⟩ := ρ.ok.fx f hm _ _ hx hy
    rw [h1] at hr
    rw [h4] at hz
    refine wp_val (x := z) (w' := w) ?_ (kn _ _ _ hz.vr s (.refl _ _ _))
    simp only [execOp, ho]
    rw [Sem.run_bind, Sem.run_bind, guard_plain hx.plain.1 hx.plain.2, Result.andThen_ok, hr P t w, Result.andThen_ok]
    rfl
  · split at hk <;> first | (cases hk; done) | skip
    rename_i k j e1 e2
    have hkk : isSum o = true ∧ k = j ∧ K (.ui k) h = true := by
      have hk' : (Bool.rec false (K (.ui k) h) (isSum o && decide (k = j)) : Bool) = true := hk
      obtain ⟨g, hk'⟩ := recB_false hk'
      obtain ⟨g1, g2⟩ := and2 g
      exact ⟨g1, of_decide_eq_true g2, hk'⟩
    obtain ⟨g1, e, hk3⟩ := hkk
    subst e
    refine ⟨.ui k, h, hk3, fun ρ a w o' next Q ho f' s kn => ?_⟩
    obtain ⟨m, hx⟩ := kindU_int e1 (f'.opd p)
    obtain ⟨n, hy⟩ := kindU_int e2 (f'.opd q)
    obtain ⟨z, hz⟩ := sum_int g1 k m n P t w
    refine wp_val (x := .int k z) (w' := w) ?_ (kn _ _ _ (.ui _ _) s (.refl _ _ _))
    simp only [execOp, ho, hx, hy]
    rw [Sem.run_bind, Sem.run_bind, guard_plain (fun e => by cases e) (fun _ e => by cases e), Result.andThen_ok, hz, Result.andThen_ok]
    rfl
theorem oBin_ok {o : BinOp} {t u : TypeId} {p q : Operand} (hk : oBin P o t p q fr h K = true) : OpOK P (.binOp o t p q u) fr h K := by
  unfold oBin at hk
  cases hp : opd p fr with
  | i k m =>
    rw [hp] at hk
    cases hq : opd q fr with
    | i j n =>
      rw [hq] at hk
      have hk' : (Bool.rec (kindEq k j (binI o k m n h K) false) (binI o k m n h K) (isShift o) : Bool) = true := hk
      have hb : binI o k m n h K = true ∧ (isShift o = false → k = j) := by
        cases hs : isShift o with
        | true => rw [hs] at hk'; exact ⟨hk', fun e => by cases e⟩
        | false =>
          rw [hs] at hk'
          have h' : (Bool.rec false (binI o k m n h K) (decide (k = j)) : Bool) = true := hk'
          obtain ⟨h1, h2⟩ := recB_false h'
          exact ⟨h2, fun _ => of_decide_eq_true h1⟩
      obtain ⟨v, hk2, hr⟩ := binI_ok hb.2 hb.1
      refine ⟨_, _, hk2, fun ρ a w o' next Q ho f s kn => ?_⟩
      obtain ⟨x, hx, hv0⟩ := hr P t w (ρ.m, ρ.σ)
      have hv := (show RV ρ.m ρ.σ v x from hv0).vr
      refine wp_val (x := x) (w' := w) ?_ (kn _ _ _ hv s (.refl _ _ _))
      simp only [execOp, ho, f.i hp, f.i hq]
      rw [Sem.run_bind, Sem.run_bind, guard_plain (fun e => by cases e) (fun _ e => by cases e), Result.andThen_ok, hx, Result.andThen_ok]
      rfl
    | _ =>
      rw [hq] at hk
      refine binX_ok ?_
      rw [hp, hq]
      exact hk
  | s l =>
    rw [hp] at hk
    cases hq : opd q fr with
    | s m =>
      rw [hq] at hk
      have hk' : cmpS o l m h K = true := hk
      unfold cmpS at hk'
      have go : ∀ (v : V), K v h = true → (∀ (ρ : Ren) (w : World) (s t : ByteArray), LR ρ l (s.data.toList.map fun c => .int .u8 c.toNat) → LR ρ m (t.data.toList.map fun c => .int .u8 c.toNat) → ∃ x, (Op.stringOp o s t).run P w = .ok x w ∧ VR ρ v x) → OpOK P (.binOp o t p q u) fr h K := by
        intro v hv hr
        refine ⟨_, _, hv, fun ρ a w o' next Q ho f s kn => ?_⟩
        have h1 := f.opd p
        have h2 := f.opd q
        rw [hp] at h1
        rw [hq] at h2
        obtain ⟨s1, e1, l1⟩ := h1.s_inv
        obtain ⟨s2, e2, l2⟩ := h2.s_inv
        obtain ⟨x, hx, hvx⟩ := hr ρ w s1 s2 l1 l2
        refine wp_val (x := x) (w' := w) ?_ (kn _ _ _ hvx s (.refl _ _ _))
        simp only [execOp, ho, e1, e2]
        rw [Sem.run_bind, Sem.run_bind, guard_plain (fun e => by cases e) (fun _ e => by cases e), Result.andThen_ok]
        have : (binOp o t (.string s1) (.string s2)) = Op.stringOp o s1 s2 := by cases o <;> rfl
        rw [this, hx]
        rfl
      split at hk' <;> first | (cases hk'; done) | skip
      · obtain ⟨g1, hk'⟩ := recB_false hk'
        refine go _ hk' (fun ρ w s t l1 l2 => ⟨.string (s ++ t), ?_, VR.s' ?_⟩)
        · have e1 := l1.1
          have e2 := l2.1
          rw [List.length_map] at e1 e2
          have e3 : s.size = l.length := by rw [e1]; cases s; exact (Array.length_toList).symm
          have e4 : t.size = m.length := by rw [e2]; cases t; exact (Array.length_toList).symm
          have e5 : l.length + m.length ≤ 1000000 := ble_le g1
          have e6 : ¬ (((s.size + t.size : Nat) : Int) > IntKind.i64.max) := by
            have : IntKind.i64.max = 9223372036854775807 := rfl
            rw [this]
            omega
          simp only [Op.stringOp]
          rw [if_neg e6]
          rfl
        · rw [concat_data, Array.toList_append, List.map_append]
          exact l1.append l2
      · obtain ⟨c, hc, hk'⟩ := onO_inv hk'
        refine go _ hk' (fun ρ w s t l1 l2 => ⟨.bool c, ?_, .b c⟩)
        have := eqS_ok hc l1 l2
        simp only [Op.stringOp, toList_beq]
        rw [show decide (s = t) = c from by rw [Bool.eq_iff_iff]; simpa using this.symm]
        rfl
      · obtain ⟨c, hc, hk'⟩ := onO_inv hk'
        refine go _ hk' (fun ρ w s t l1 l2 => ⟨.bool (!c), ?_, .b _⟩)
        have := eqS_ok hc l1 l2
        simp only [Op.stringOp, toList_beq]
        rw [show decide (s = t) = c from by rw [Bool.eq_iff_iff]; simpa using this.symm]
        rfl
    | _ => rw [hq] at hk; cases hk
  | x k l c =>
    rw [hp] at hk
    refine binX_ok ?_
    rw [hp]
    exact hk
  | ui k =>
    rw [hp] at hk
    refine binX_ok ?_
    rw [hp]
    exact hk
  | _ =>
    rw [hp] at hk
    refine binV_ok ?_ u
    rw [hp]
    exact hk
theorem oUn_ok {o : UnOp} {t : TypeId} {x : Operand} (hk : oUn o x fr h K = true) : OpOK P (.unOp o t x) fr h K := by
  unfold oUn at hk
  split at hk <;> first | (cases hk; done) | skip
  · rename_i k n e
    rw [retI_eq] at hk
    refine ⟨_, _, hk, fun ρ a w o' next Q ho f s kn => wp_val (x := .int k (k.wrap (0 - n))) (w' := w) ?_ (kn _ _ _ (.i _ _) s (.refl _ _ _))⟩
    simp only [execOp, ho, f.i e, Op.unary, Op.intArith]
    rfl
  · rename_i y e
    refine ⟨_, _, hk, fun ρ a w o' next Q ho f s kn => wp_val (x := .bool (!y)) (w' := w) ?_ (kn _ _ _ (.b _) s (.refl _ _ _))⟩
    simp only [execOp, ho, f.bo e, Op.unary]
    rfl
theorem und_some' {t : TypeId} (h : (ti P t).und ≠ .oth) : ∃ d, P.underlying t = some d ∧ udOf d = (ti P t).und := by
  obtain ⟨i, d, _, _, hd, hu⟩ := ti_und (P := P) (t := t) rfl h
  exact ⟨d, hd, hu⟩
theorem bytes_of {l : List V} (hb : l.all isByte = true) {cs : List Value} (hl : LR ρ l cs) : ∃ ns : List Nat, (∀ n ∈ ns, n < 256) ∧ cs = (ns.map fun n => (Int.ofNat n)).map (Value.int .u8) := by
  induction l generalizing cs with
  | nil => exact ⟨[], fun n hn => (by cases hn), (by have := hl.1; exact List.eq_nil_of_length_eq_zero this.symm)⟩
  | cons v l ih =>
    cases cs with
    | nil => have := hl.1; simp at this
    | cons x cs =>
      rw [List.all_cons, Bool.and_eq_true] at hb
      obtain ⟨ns, h1, h3⟩ := ih hb.2 (cs := cs) ⟨by have := hl.1; simpa using this, fun i v z hv hz => hl.2 (i + 1) v z (by simpa using hv) (by simpa using hz)⟩
      have hx := hl.2 0 v x rfl rfl
      have hb1 := hb.1
      unfold isByte at hb1
      split at hb1 <;> first | (cases hb1; done) | skip
      · rename_i k n
        split at hb1 <;> first | (cases hb1; done) | skip
        refine ⟨n :: ns, fun m hm => ?_, by rw [h3, hx.i_inv]; rfl⟩
        rcases List.mem_cons.1 hm with rfl | hm
        · exact ble_le hb1
        · exact h1 m hm
      · rename_i k b
        split at hb1 <;> first | (cases hb1; done) | skip
        all_goals
          have hr := ρ.ok.by_ b (List.contains_iff_mem.1 hb1)
          cases hx
          obtain ⟨n, hn⟩ : ∃ n : Nat, ρ.σ b = (n : Int) := ⟨(ρ.σ b).toNat, by omega⟩
          refine ⟨n :: ns, fun m hm => ?_, by rw [h3, hn]; rfl⟩
          rcases List.mem_cons.1 hm with rfl | hm
          · omega
          · exact h1 m hm
theorem foldl_push (ns : List Nat) (s : ByteArray) : ((ns.map fun n => (Int.ofNat n)).foldl (fun r n => r.push (UInt8.ofNat n.toNat)) s).data.toList = s.data.toList ++ ns.map UInt8.ofNat := by
  induction ns generalizing s with
  | nil => simp
  | cons n ns ih =>
    rw [List.map_cons, List.foldl_cons, ih]
    simp [ByteArray.push]
theorem oConv_ok {sr d : TypeId} {x : Operand} (hk : oConv P sr d x fr h K = true) : OpOK P (.convert sr d x) fr h K := by
  unfold oConv at hk
  split at hk <;> first | (cases hk; done) | skip
  · rename_i k hd
    have hs : (ti P sr).und ≠ .oth := by intro e; rw [e] at hk; cases hk
    have hk' : vI (opd x fr) (fun _ n => retI k (wrapK k n) h K) (match findCx k (opd x fr) with | some r => K r h | none => false) = true := by
      split at hk
      · cases hk
      · exact hk
    obtain ⟨ds, hds, _⟩ := und_some' hs
    have letter : (match findCx k (opd x fr) with | some r => K r h | none => false) = true → OpOK P (.convert sr d x) fr h K := by
      intro hk'
      split at hk' <;> first | (cases hk'; done) | skip
      rename_i r hf
      unfold findCx at hf
      obtain ⟨g, hf, hr⟩ := Option.map_eq_some_iff.1 hf
      have h1 := List.find?_some hf
      simp only [Bool.and_eq_true] at h1
      have hgk := of_decide_eq_true h1.1
      have hm := List.mem_of_find?_eq_some hf
      refine ⟨r, h, hk', fun ρ a w o' next Q ho f s kn => ?_⟩
      have hx := sameX_rv h1.2 (f.opd x)
      have hint : ∃ j n, a.eval x = .int j n := by
        have hs2 := h1.2
        unfold sameX at hs2
        split at hs2 <;> first | (cases hs2; done) | skip
        · rename_i e _
          rw [e] at hx
          generalize a.eval x = y at hx
          cases hx
          exact ⟨_, _, rfl⟩
        · rename_i e _
          rw [e] at hx
          generalize a.eval x = y at hx
          cases hx
          exact ⟨_, _, rfl⟩
      obtain ⟨j, n, e⟩ := hint
      rw [e] at hx
      have := ρ.ok.cx g hm j n hx
      rw [hr, hgk] at this
      refine wp_val (x := .int k (k.wrap n)) (w' := w) ?_ (kn _ _ _ this.vr s (.refl _ _ _))
      simp only [execOp, ho, e, convert, Sem.run_bind, run_und hds, run_und (und_int hd), Result.andThen_ok]
      cases ds <;> rfl
    cases hx : opd x fr with
    | i j n =>
      rw [hx] at hk'
      replace hk' : retI k (wrapK k n) h K = true := hk'
      rw [retI_eq, wrapK_eq] at hk'
      refine ⟨_, _, hk', fun ρ a w o' next Q ho f s kn => wp_val (x := .int k (k.wrap n)) (w' := w) ?_ (kn _ _ _ (.i _ _) s (.refl _ _ _))⟩
      simp only [execOp, ho, f.i hx, convert, Sem.run_bind, run_und hds, run_und (und_int hd), Result.andThen_ok]
      cases ds <;> rfl
    | _ => exact letter (by rw [hx] at hk' ⊢; exact hk')
  · rename_i hd
    split at hk <;> first | (cases hk; done) | skip
    · rename_i hs
      split at hk <;> first | (cases hk; done) | skip
      · rename_i l e
        refine ⟨_, _, hk, fun ρ a w o' next Q ho f s kn => ?_⟩
        have hv := f.opd x
        rw [e] at hv
        obtain ⟨s1, e1, l1⟩ := hv.s_inv
        refine wp_val (x := .string s1) (w' := w) ?_ (kn _ _ _ (VR.s' l1) s (.refl _ _ _))
        simp only [execOp, ho, e1, convert, Sem.run_bind, run_und (und_str hs), run_und (und_str hd), Result.andThen_ok]
        rfl
      · rename_i l e
        refine ⟨_, _, hk, fun ρ a w o' next Q ho f s kn => ?_⟩
        have hv := f.opd x
        rw [e] at hv
        generalize ea : a.eval x = y at hv
        cases hv with
        | sv hl =>
          refine wp_val (x := .string (ρ.τ l)) (w' := w) ?_ (kn _ _ _ (.sv hl) s (.refl _ _ _))
          simp only [execOp, ho, ea, convert, Sem.run_bind, run_und (und_str hs), run_und (und_str hd), Result.andThen_ok]
          rfl
    · rename_i e hs
      obtain ⟨g1, hk⟩ := recB_false hk
      have hu8 : P.underlying e = some (.int .u8) := by
        unfold UD.isU8 at g1
        split at g1 <;> first | (cases g1; done) | skip
        rename_i e9
        exact und_int e9
      have conv : ∀ (y : Value), (∃ b l c, y = .slice b l c) → ∀ (w : World), (convert sr d y).run P w = (Conv.bytesToString y).run P w := by
        rintro y ⟨b, l, c, rfl⟩ w
        exact run_convert_bytes_string w sr d e b l c (und_slice hs) hu8 (und_str hd)
      split at hk <;> first | (cases hk; done) | skip
      · rename_i ex
        refine ⟨_, _, hk, fun ρ a w o' next Q ho f s kn => ?_⟩
        have hv := f.opd x
        rw [ex] at hv
        generalize ea : a.eval x = y at hv
        cases hv
        refine wp_val (x := .string .empty) (w' := w) ?_ (kn _ _ _ (VR.s' ⟨rfl, fun i v x hv => by simp at hv⟩) s (.refl _ _ _))
        simp only [execOp, ho, ea, Sem.run_bind, conv _ ⟨_, _, _, rfl⟩, Conv.bytesToString, Sem.run_pure, Result.andThen_ok]
      · rename_i ex
        refine ⟨_, _, hk, fun ρ a w o' next Q ho f s kn => ?_⟩
        have hv := f.opd x
        rw [ex] at hv
        generalize ea : a.eval x = y at hv
        cases hv
        refine wp_val (x := .string .empty) (w' := w) ?_ (kn _ _ _ (VR.s' ⟨rfl, fun i v x hv => by simp at hv⟩) s (.refl _ _ _))
        rename_i a9 c9
        have := run_bytesToString (P := P) w a9 0 c9 [] (by simp [loadCells, loadCellsFrom])
        simp only [execOp, ho, ea, Sem.run_bind, conv _ ⟨_, _, _, rfl⟩]
        rw [this]
        rfl
      · rename_i b o1 len c ex
        obtain ⟨n, tr, e2, g, hb, hk⟩ := O.c_inv hk
        obtain ⟨g2, hk⟩ := recB_false hk
        rw [T.takeK_eq] at hk
        obtain ⟨g3, hk⟩ := recB_false hk
        refine ⟨_, _, hk, fun ρ a w o' next Q ho f s kn => ?_⟩
        have hv := f.opd x
        rw [ex] at hv
        obtain ⟨c', ev, hbn, _⟩ := hv.sl_inv
        obtain ⟨cs, hl, hc⟩ := s.take hb (show o1 + len ≤ n from ble_le g2)
        obtain ⟨ns, n1, n3⟩ := bytes_of g3 hl
        have hlen : cs.length = len := by rw [← hl.1, T.take_length]
        have e3 := run_loadCells_list (P := P) w ⟨ρ.π b, o1, none⟩ cs hc
        rw [hlen, n3] at e3
        have e4 := run_bytesToString (P := P) w ⟨ρ.π b, o1, none⟩ len c' (ns.map fun n => (Int.ofNat n)) e3
        refine wp_val (w' := w) ?_ (kn _ _ _ (VR.s' ?_) s (.refl _ _ _)) (x := .string ((ns.map fun n => (Int.ofNat n)).foldl (fun r n => r.push (UInt8.ofNat n.toNat)) ByteArray.empty))
        · simp only [execOp, ho, ev, Sem.run_bind, conv _ ⟨_, _, _, rfl⟩]
          rw [e4]
          rfl
        · rw [foldl_push]
          have hll : LR ρ _ _ := hl
          rw [n3] at hll
          have heq : ((ByteArray.empty.data.toList ++ ns.map UInt8.ofNat).map fun c : UInt8 => Value.int .u8 (c.toNat : Int)) = (ns.map fun n => (Int.ofNat n)).map (Value.int .u8) := by
            rw [List.map_map]
            simp only [show ByteArray.empty.data.toList = [] from rfl, List.nil_append, List.map_map]
            refine List.map_congr_left fun m hm => ?_
            show Value.int .u8 ((UInt8.ofNat m).toNat : Int) = Value.int .u8 (m : Int)
            rw [show (UInt8.ofNat m).toNat = m from by rw [UInt8.toNat_ofNat']; exact Nat.mod_eq_of_lt (n1 m hm)]
          rw [heq]
          exact hll
end
end Go.Proofs.YtphfekkllibphaaGreatDoor.Ev
namespace Go.Proofs.YtphfekkllibphaaGreatDoor.Ev
open Go Go.RowKit

section
variable {P : Program} {ρ : Ren} {fr : Fr} {a : Act} {h : H} {K : KT} {w : World}
theorem oMakeMap_ok {t : TypeId} {r : Option Operand} (hk : oMakeMap t r fr h K = true) : OpOK P (.makeMap t r) fr h K := by
  unfold oMakeMap at hk
  cases r with
  | some r => cases hk
  | none =>
    dsimp only at hk
    rw [H.new_eq] at hk
    refine ⟨_, _, hk, fun ρ a w o' next Q ho f s kn => ?_⟩
    obtain ⟨a1, a2⟩ := s.alloc (o := .mp [] 0) (x := .map #[] 0) 0 ⟨.inl rfl, #[], by
      rw [ρ.add_π]
      show (w.heap.push _)[w.heap.size]? = _
      simp, rfl, fun i e e' h => by simp at h⟩
    refine wp_val (x := .map (some w.heap.size)) (w' := w.alloc (.map #[] 0)) ?_ (kn _ _ _ ?_ a1 a2)
    · simp only [execOp, ho, Instr.makeMap, Option.map_none]
      rfl
    · have : VR (ρ.add w.heap.size 0) (.m ρ.n) (.map (some ((ρ.add w.heap.size 0).π ρ.n))) := .m (.inl rfl)
      rw [ρ.add_π] at this
      rwa [← s.n]
theorem oArrPtr_ok {t : TypeId} {x : Operand} (hk : oArrPtr P t x fr h K = true) : OpOK P (.sliceToArrayPointer t x) fr h K := by
  unfold oArrPtr at hk
  split at hk <;> first | (cases hk; done) | skip
  rename_i n e b o len c hu hx
  obtain ⟨h1, hk⟩ := recB_false hk
  refine ⟨_, _, hk, fun ρ a w o' next Q ho f s kn => ?_⟩
  have hv := f.opd x
  rw [hx] at hv
  obtain ⟨c', ev, hb, _⟩ := hv.sl_inv
  refine wp_val (x := .pointer (some ⟨ρ.π b, o, none⟩)) (w' := w) ?_ (kn _ _ _ (.p hb) s (.refl _ _ _))
  have h1 := ble_le h1
  simp only [execOp, ho, ev, Instr.arrayAt, Sem.run_bind, run_und (und_arr hu), Result.andThen_ok, show ¬ len < n from by omega, if_false, Sem.run_pure]
/-- Cells over a tree. -/
def Cov (ρ : Ren) (n : Nat) (t : T V) (cs : Array Value) : Prop := cs.size = n ∧ ∀ i, i < n → ∃ x, cs[i]? = some x ∧ VR ρ (t.get .u (i + 1)) x
theorem fold_set (off : Nat) : ∀ (vs : List Value) (k : Nat) (cs : Array Value), off + k + vs.length ≤ cs.size →
    ((vs.zipIdx k).foldl (fun cs (q : Value × Nat) => cs.setIfInBounds (off + q.2) q.1) cs).size = cs.size ∧
    ∀ i, ((vs.zipIdx k).foldl (fun cs (q : Value × Nat) => cs.setIfInBounds (off + q.2) q.1) cs)[i]? = if off + k ≤ i ∧ i < off + k + vs.length then vs[i - (off + k)]? else cs[i]?
  | [], k, cs, _ => ⟨rfl, fun i => by rw [if_neg (by simp only [List.length_nil]; omega)]; rfl⟩
  | v :: vs, k, cs, hl => by
    simp only [List.length_cons] at hl
    obtain ⟨h1, h2⟩ := fold_set off vs (k + 1) (cs.setIfInBounds (off + k) v) (by simp; omega)
    rw [List.zipIdx_cons, List.foldl_cons]
    refine ⟨by rw [h1]; simp, fun i => ?_⟩
    rw [h2]
    simp only [List.length_cons]
    by_cases hi : i = off + k
    · subst hi
      rw [if_neg (by omega), if_pos (by omega), Nat.sub_self, Array.getElem?_setIfInBounds, if_pos rfl, if_pos (by omega)]
      rfl
    · by_cases h3 : off + (k + 1) ≤ i ∧ i < off + (k + 1) + vs.length
      · rw [if_pos h3, if_pos (by omega), show i - (off + k) = (i - (off + (k + 1))) + 1 from by omega, List.getElem?_cons_succ]
      · rw [if_neg h3, if_neg (by omega), Array.getElem?_setIfInBounds, if_neg (by omega)]
theorem Cov.put {n off : Nat} {t : T V} {cs : Array Value} (h : Cov ρ n t cs) {l : List V} {x : Value} (hl : LR ρ l x.cells.toList) (ho : off + l.length ≤ n) :
    Cov ρ n (T.lay l t (off + 1)) (x.cells.zipIdx.foldl (fun cs (q : Value × Nat) => cs.setIfInBounds (off + q.2) q.1) cs) := by
  have hlen : x.cells.toList.length = l.length := hl.1.symm
  rw [← Array.foldl_toList, Array.toList_zipIdx]
  obtain ⟨h1, h2⟩ := fold_set off x.cells.toList 0 cs (by have := h.1; omega)
  refine ⟨h1.trans h.1, fun i hi => ?_⟩
  rw [h2, Nat.add_zero]
  rcases T.get_lay (d := V.u) l (t := t) (j := i + 1) (k := off + 1) (by omega) (by omega) with ⟨g1, g2, g3⟩ | ⟨g1, g2⟩
  · rw [if_pos (by omega)]
    rw [show i + 1 - (off + 1) = i - off from by omega] at g3
    obtain ⟨q, hq⟩ : ∃ q, l[i - off]? = some q := ⟨_, List.getElem?_eq_getElem (by omega)⟩
    obtain ⟨y, hy, hv⟩ := hl.at_ hq
    refine ⟨y, hy, ?_⟩
    rcases g3 with g3 | g3
    · rw [hq] at g3
      injection g3 with g3
      rw [← g3]; exact hv
    · rw [g3]; exact .u _
  · rw [if_neg (by omega), g2]
    exact h.2 i hi
theorem fillK_ok {n : Nat} {place : Nat → Option (Nat × Nat)} {K : T V → Bool} : ∀ (ps : List (Nat × Operand)) (t : T V), fillK n place fr K ps t = true →
    ∃ t', K t' = true ∧ ∀ (ρ : Ren) (a : Act) (cs : Array Value), FR ρ fr a → Cov ρ n t cs → ∃ cs', Instr.fill place cs (ps.map fun q => (q.1, a.eval q.2)) = some cs' ∧ Cov ρ n t' cs'
  | [], t, hk => ⟨t, hk, fun ρ a cs _ hc => ⟨cs, rfl, hc⟩⟩
  | (i, x) :: ps, t, hk => by
    have hk' : (match place i with
      | none => false
      | some (off, size) => cellsK (opd x fr) fun l => (Nat.beq l.length size && Nat.ble (Nat.add off size) n).rec false (T.layK l t (Nat.succ off) (fillK n place fr K ps))) = true := hk
    cases hp : place i with
    | none => rw [hp] at hk'; cases hk'
    | some q =>
      obtain ⟨off, size⟩ := q
      rw [hp] at hk'
      obtain ⟨l, hl, hk'⟩ := cellsK_ok hk'
      obtain ⟨h1, hk'⟩ := recB_false hk'
      obtain ⟨h1, h2⟩ := and2 h1
      rw [T.layK_eq] at hk'
      obtain ⟨t', hK, hf⟩ := fillK_ok ps _ hk'
      refine ⟨t', hK, fun ρ a cs f hc => ?_⟩
      have hcl := (f.opd x).cells hl
      have h1 := beq_eq h1
      have h2 : off + size ≤ n := ble_le h2
      have hsz : (a.eval x).cells.size = size := by rw [← Array.length_toList, ← hcl.1, h1]
      obtain ⟨cs', e1, e2⟩ := hf ρ a _ f (hc.put hcl (by omega))
      refine ⟨cs', ?_, e2⟩
      have hcs := hc.1
      rw [List.map_cons]
      unfold Instr.fill
      rw [hp]
      dsimp only
      rw [if_neg (by rw [hsz, hcs]; simp; omega)]
      exact e1
theorem cov_vr {n : Nat} {t : T V} {cs : Array Value} (h : Cov ρ n t cs) : VR ρ (.agg (t.take n 1)) (.agg cs) := by
  refine VR.agg' ⟨by rw [T.take_length]; simp [h.1], fun i v x hv hx => ?_⟩
  have hi : i < n := by
    have := (List.getElem?_eq_some_iff.1 hv).1
    rwa [T.take_length] at this
  rw [T.take_at t hi] at hv
  obtain ⟨y, hy, hvy⟩ := h.2 i hi
  rw [Array.getElem?_toList, hy] at hx
  injection hx with hx
  injection hv with hv
  rw [← hx, ← hv, Nat.add_comm 1 i]
  exact hvy
/-- The zero of a type. -/
theorem zero_ok {t : TypeId} (h1 : 1 ≤ (ti P t).zero.length) : ∃ i v, P.info? t = some i ∧ ti P t = tiOf P t i ∧ (∀ w : World, (zeroValue t).run P w = .ok v w) ∧ (∀ ρ, LR ρ (ti P t).zero v.cells.toList) ∧ ∀ ρ, VR ρ (ti P t).zv v := by
  rcases ti_cases P t with e1 | ⟨i, hi, e1⟩
  · rw [e1] at h1; cases h1
  · cases hz : i.zero with
    | none => rw [e1] at h1; simp [tiOf, hz] at h1
    | some v =>
      have e2 : (ti P t).zero = cellsV v := by rw [e1]; simp [tiOf, hz]
      exact ⟨i, v, hi, e1, fun w => by simp only [zeroValue, Sem.run_bind, run_typeInfo hi, Result.andThen_ok, hz, Sem.run_pure], fun ρ => (by rw [e2]; exact cellsV_ok ρ v), fun ρ => (by rw [e1]; simp only [tiOf, hz]; exact ofVal_ok ρ v)⟩
theorem run_places {fields : Array Field} (hs : ∀ f ∈ fields.toList, 1 ≤ (ti P f.type).size) : (fields.mapM fun f => do pure (f.offset, ← sizeOf f.type) : Sem (Array (Nat × Nat))).run P w = .ok (fields.map fun f => (f.offset, (ti P f.type).size)) w := by
  rw [Array.mapM_eq_mapM_toList]
  have key : ∀ (l : List Field), (∀ f ∈ l, 1 ≤ (ti P f.type).size) → (l.mapM fun f => do pure (f.offset, ← sizeOf f.type) : Sem (List (Nat × Nat))).run P w = .ok (l.map fun f => (f.offset, (ti P f.type).size)) w := by
    intro l
    induction l with
    | nil => intro _; rfl
    | cons f l ih =>
      intro hl
      rw [List.mapM_cons]
      simp only [Sem.run_bind, run_size (hl f List.mem_cons_self), Result.andThen_ok, Sem.run_pure, ih (fun g hg => hl g (List.mem_cons_of_mem _ hg)), List.map_cons]
  rw [← bind_pure_comp, Sem.run_bind, key _ hs, Result.andThen_ok]
  show Result.ok (List.toArray _) w = _
  congr 1
  exact Array.ext' (by simp)
theorem lay_cov {l : List V} {cs : Array Value} (hl : LR ρ l cs.toList) (t : T V) : Cov ρ l.length (T.lay l t 1) cs :=
  ⟨by rw [hl.1]; simp, fun i hi => by
    obtain ⟨x, hx, hv⟩ := lay_vr hl (t := t) i hi
    exact ⟨x, by simpa using hx, hv⟩⟩
theorem map_eval (ps : Array (Nat × Operand)) (a : Act) : (ps.map fun (q : Nat × Operand) => (q.1, a.eval q.2)).toList = ps.toList.map fun q => (q.1, a.eval q.2) := by simp
theorem agg_nil {v : Value} (h : ofVal v = .agg []) : v = .agg #[] := by
  cases v with
  | agg cs =>
    have h' : V.agg (cs.toList.map ofVal1) = .agg [] := h
    injection h' with h'
    have := List.map_eq_nil_iff.1 h'
    rw [Array.toList_eq_nil_iff] at this
    rw [this]
  | func fn a b =>
    exfalso
    unfold ofVal at h
    simp only at h
    split at h <;> cases h
  | slice a l c =>
    exfalso
    have h' : ofVal1 (.slice a l c) = .agg [] := h
    unfold ofVal1 at h'
    split at h' <;> cases h'
  | pointer a =>
    exfalso
    have h' : ofVal1 (.pointer a) = .agg [] := h
    unfold ofVal1 at h'
    split at h' <;> cases h'
  | map a =>
    exfalso
    have h' : ofVal1 (.map a) = .agg [] := h
    unfold ofVal1 at h'
    split at h' <;> cases h'
  | _ => exfalso; cases h
theorem bare_ok {t : TypeId} {ps : Array (Nat × Operand)} (h0 : bareZ (ti P t).und (ti P t).zv = true) (hp : ps.toList.isEmpty = true) (hk : K (.agg []) h = true) : OpOK P (.build t ps) fr h K := by
  unfold bareZ at h0
  split at h0 <;> first | (cases h0; done) | skip
  rename_i hu hz
  obtain ⟨fields, hd, he⟩ := und_struct hu
  have hf : fields = #[] := by
    have := List.map_eq_nil_iff.1 he.symm
    exact Array.toList_eq_nil_iff.1 this
  subst hf
  have hps : ps = #[] := by simpa using hp
  subst hps
  have hzero : ∀ w : World, (zeroValue t).run P w = .ok (.agg #[]) w := by
    intro w
    rcases ti_cases P t with e1 | ⟨i, hi, e1⟩
    · rw [e1] at hz; cases hz
    · cases hq : i.zero with
      | none => rw [e1] at hz; simp [tiOf, hq] at hz
      | some v =>
        rw [e1] at hz
        simp only [tiOf, hq] at hz
        rw [agg_nil hz] at hq
        simp only [zeroValue, Sem.run_bind, run_typeInfo hi, Result.andThen_ok, hq, Sem.run_pure]
  refine ⟨_, _, hk, fun ρ a w o' next Q ho f s kn => ?_⟩
  refine wp_val (x := .agg #[]) (w' := w) ?_ (kn _ _ _ (VR.agg' .nil) s (.refl _ _ _))
  have hpl := run_places (P := P) (w := w) (fields := #[]) (fun g hg => by simp at hg)
  simp only [execOp, ho, Instr.build, Sem.run_bind, hzero, Result.andThen_ok, run_und hd, hpl, List.map_toArray, List.map_nil, Instr.fill, Value.cells, Sem.run_pure]
theorem oBuild_ok {t : TypeId} {ps : Array (Nat × Operand)} (hk : oBuild P t ps fr h K = true) : OpOK P (.build t ps) fr h K := by
  unfold oBuild at hk
  cases hb : (bareZ (ti P t).und (ti P t).zv && ps.toList.isEmpty) with
  | true =>
    rw [hb] at hk
    obtain ⟨b1, b2⟩ := and2 hb
    exact bare_ok b1 b2 hk
  | false => _
  rw [hb] at hk
  replace hk : oBuild1 P t ps fr h K = true := hk
  obtain ⟨h1, hk⟩ := recB_false hk
  obtain ⟨h1, h2⟩ := and2 h1
  have h1 := beq_eq h1
  have h2 := ble_le h2
  rw [T.layK_eq] at hk
  obtain ⟨i, v, hi, e1, hz, hzl, _⟩ := zero_ok (P := P) (t := t) (by omega)
  split at hk <;> first | (cases hk; done) | skip
  · rename_i fs hu
    obtain ⟨h3, hk⟩ := recB_false hk
    obtain ⟨t', hk, hf⟩ := fillK_ok _ _ hk
    rw [T.takeK_eq] at hk
    refine ⟨_, _, hk, fun ρ a w o' next Q ho f s kn => ?_⟩
    obtain ⟨fields, hd, he⟩ := und_struct hu
    have hc0 := lay_cov (hzl ρ) (full V.u (depth (ti P t).size))
    rw [h1] at hc0
    obtain ⟨cs', e2, e3⟩ := hf ρ a v.cells f hc0
    have hs : ∀ f ∈ fields.toList, 1 ≤ (ti P f.type).size := fun g hg => by
      have := List.all_eq_true.1 h3 (g.offset, g.type) (by rw [he]; exact List.mem_map.2 ⟨g, hg, rfl⟩)
      exact ble_le this
    have hpl : (fun (i : Nat) => (fs[i]?).map fun (f : Nat × TypeId) => (f.1, (ti P f.2).size)) = fun (i : Nat) => (fields.map fun f => (f.offset, (ti P f.type).size))[i]? := by
      funext i
      rw [he, List.getElem?_map, Array.getElem?_map, Array.getElem?_toList]
      cases fields[i]? <;> rfl
    rw [hpl] at e2
    refine wp_val (x := .agg cs') (w' := w) ?_ (kn _ _ _ (cov_vr e3) s (.refl _ _ _))
    simp only [execOp, ho, Instr.build, Sem.run_bind, hz, Result.andThen_ok, run_und hd, run_places hs, map_eval, e2, Sem.run_pure]
  · rename_i n e hu
    obtain ⟨h3, hk⟩ := recB_false hk
    obtain ⟨t', hk, hf⟩ := fillK_ok _ _ hk
    rw [T.takeK_eq] at hk
    refine ⟨_, _, hk, fun ρ a w o' next Q ho f s kn => ?_⟩
    have hc0 := lay_cov (hzl ρ) (full V.u (depth (ti P t).size))
    rw [h1] at hc0
    obtain ⟨cs', e2, e3⟩ := hf ρ a v.cells f hc0
    refine wp_val (x := .agg cs') (w' := w) ?_ (kn _ _ _ (cov_vr e3) s (.refl _ _ _))
    have e2' : Instr.fill (fun i => some (i * (ti P e).size, (ti P e).size)) v.cells (ps.toList.map fun q => (q.1, a.eval q.2)) = some cs' := e2
    simp only [execOp, ho, Instr.build, Sem.run_bind, hz, Result.andThen_ok, run_und (und_arr hu), run_size (ble_le h3), map_eval, e2', Sem.run_pure]
theorem oBuildSlice_ok {t : TypeId} {len : Nat} {ps : Array (Nat × Operand)} (hk : oBuildSlice P t len ps fr h K = true) : OpOK P (.buildSlice t len ps) fr h K := by
  unfold oBuildSlice at hk
  split at hk <;> first | (cases hk; done) | skip
  rename_i e hu
  obtain ⟨h1, hk⟩ := recB_false hk
  obtain ⟨h1, h3⟩ := and2 h1
  obtain ⟨h1, h2⟩ := and2 h1
  rw [forceN_eq] at hk
  obtain ⟨t', hk, hf⟩ := fillK_ok _ _ hk
  rw [H.new_eq] at hk
  obtain ⟨i, v, hi, e1, hz, hzl, _⟩ := zero_ok (P := P) (t := e) (ble_le h3)
  refine ⟨_, _, hk, fun ρ a w o' next Q ho f s kn => ?_⟩
  have h2 : len * (ti P e).size ≤ 100000 := ble_le h2
  have key : ∀ z : Array Value, ∃ cs', Instr.fill (fun i => some (i * (ti P e).size, (ti P e).size)) ((Array.range (len * (ti P e).size)).map (z[· % z.size]!)) (ps.toList.map fun q => (q.1, a.eval q.2)) = some cs' ∧ Cov ρ (len * (ti P e).size) t' cs' := by
    intro z
    refine hf ρ a _ f ⟨by simp, fun i hi => ⟨z[i % z.size]!, by have hi' : i < len * (ti P e).size := hi; simp [hi'], ?_⟩⟩
    rcases T.get_full V.u V.u (depth (len.mul (ti P e).size)) (i + 1) with hg | hg <;> (rw [hg]; exact .u _)
  obtain ⟨cs', e2, e3⟩ := key (if len * (ti P e).size = 0 then #[] else v.cells)
  obtain ⟨a1, a2⟩ := newRow_sat s (cs := cs') (tr := t') (n := len * (ti P e).size) (g := 0) (e := e) (gg := none) (Nat.le_of_eq e3.1.symm) (fun _ => e3.1) (fun z e => by cases e) e3.2
  refine wp_val (x := .slice (some ⟨w.heap.size, 0, none⟩) len len) (w' := w.alloc (.cells cs' e (0, 0))) ?_ (kn _ _ _ ?_ a1 a2)
  · have hn : ¬ (len * (ti P e).size > 2 ^ 24) := by omega
    by_cases h0 : len * (ti P e).size = 0
    · rw [if_pos h0] at e2
      have e2' := e2
      simp only [execOp, ho, Instr.buildSlice, Sem.run_bind, run_und (und_slice hu), Result.andThen_ok, run_size (ble_le h1), hn, if_false, Sem.run_ite, h0, if_true, Sem.run_pure, map_eval]
      rw [h0] at e2'
      simp only [e2', Sem.run_bind, run_newRow, Result.andThen_ok, Sem.run_pure]
      rw [if_neg (by decide)]
      rfl
    · rw [if_neg h0] at e2
      simp only [execOp, ho, Instr.buildSlice, Sem.run_bind, run_und (und_slice hu), Result.andThen_ok, run_size (ble_le h1), hn, if_false, Sem.run_ite, h0, Sem.run_pure, map_eval, hz, e2, run_newRow]
  · rw [← s.n]
    have : VR (ρ.add w.heap.size 0) (.sl ρ.n 0 len (some len)) (.slice (some ⟨(ρ.add w.heap.size 0).π ρ.n, 0, none⟩) len len) := .slc (.inl rfl)
    rwa [ρ.add_π] at this
end
end Go.Proofs.YtphfekkllibphaaGreatDoor.Ev
namespace Go.Proofs.YtphfekkllibphaaGreatDoor.Ev
open Go Go.RowKit

section
variable {P : Program} {ρ : Ren} {fr : Fr} {a : Act} {h : H} {K : KT} {w : World}
/-- An optional bound. -/
def BoundIs (a : Act) (o : Option Operand) (d n : Nat) : Prop := (o = none → n = d) ∧ ∀ x, o = some x → ∃ k, a.eval x = .int k (.ofNat n)
theorem optNat_ok {o : Option Operand} {d : Nat} {K : Nat → Bool} (hk : optNat o d fr K = true) : ∃ n, K n = true ∧ ∀ (ρ : Ren) (a : Act), FR ρ fr a → BoundIs a o d n := by
  cases o with
  | none => exact ⟨d, hk, fun ρ a f => ⟨fun _ => rfl, fun x e => by cases e⟩⟩
  | some x =>
    obtain ⟨k, n, hx, hk⟩ := onNat_inv (show onNat (opd x fr) K = true from hk)
    exact ⟨n, hk, fun ρ a f => ⟨fun e => (by cases e), fun y e => (by injection e with e; subst e; exact ⟨k, f.i hx⟩)⟩⟩
theorem bound_ok {k : IntKind} {n y : Nat} {c : BoundsCode} (h : n ≤ y) : (Instr.sliceBound (.int k (n : Int)) y c).run P w = .ok n w := by
  have h1 : (0 : Int) ≤ (n : Int) ∧ (n : Int) ≤ (y : Int) := by omega
  simp only [Instr.sliceBound, asIntOf, Sem.run_bind, Sem.run_pure, Result.andThen_ok, h1, and_self, if_true]
  rfl
theorem bounds_ok {isS : Bool} {len cap : Nat} {lo hi : Option Operand} {m n : Nat} (hl : BoundIs a lo 0 m) (hh : BoundIs a hi len n) (h1 : m ≤ n) (h2 : n ≤ cap) : (Instr.sliceBounds isS len cap (lo.map a.eval) (hi.map a.eval) none).run P w = .ok (m, n, cap) w := by
  unfold Instr.sliceBounds
  cases hi with
  | none =>
    have := hh.1 rfl
    subst this
    cases lo with
    | none =>
      have := hl.1 rfl
      subst this
      simp
    | some x =>
      obtain ⟨k, e⟩ := hl.2 x rfl
      have e : a.eval x = .int k (m : Int) := e
      simp [e, bound_ok h1]
  | some y =>
    obtain ⟨j, e2⟩ := hh.2 y rfl
    have e2 : a.eval y = .int j (n : Int) := e2
    cases lo with
    | none =>
      have := hl.1 rfl
      subst this
      simp [e2, bound_ok h2]
    | some x =>
      obtain ⟨k, e⟩ := hl.2 x rfl
      have e : a.eval x = .int k (m : Int) := e
      simp [e, e2, bound_ok h1, bound_ok h2]
theorem sliceAt_plain {t : TypeId} {x : Value} {lo hi mx : Option Value} {d : TypeDesc} (hd : P.underlying t = some d) (hne : ∀ n e, d ≠ .array n e) : (Instr.sliceAt t x lo hi mx).run P w = (Instr.slice t x lo hi mx).run P w := by
  unfold Instr.sliceAt
  rw [Sem.run_bind, run_und hd, Result.andThen_ok]
  cases d <;> first | rfl | exact absurd rfl (hne _ _)
theorem extract_data (s : ByteArray) (i j : Nat) : (s.extract i j).data = s.data.extract i j := by simp
theorem or2 {a b : Bool} (h : (a || b) = true) : a = true ∨ b = true := by simpa using h
theorem room_ok {b o size z c' len : Nat} (s : Sat ρ h w) (h0 : 1 ≤ size) (hk : roomK (h.get b) o size z = true) (_hc3 : len ≤ c') (hc4 : o = 0 → c' = ρ.γ b) : z ≤ c' := by
  unfold roomK at hk
  split at hk <;> first | (cases hk; done) | skip
  rename_i n t e g hb
  obtain ⟨k1, k2⟩ := and2 hk
  obtain ⟨k1, k3⟩ := and2 k1
  have ho := beq_eq k1
  have hg := beq_eq k3
  have hz := ble_le k2
  obtain ⟨c1, ds, fz, c2, c3, c4, c5, c6, c7⟩ := s.cells hb
  have h5 := c5 g rfl
  rw [hc4 ho]
  subst hg
  have : z * g ≤ ρ.γ b * g := by
    have h9 : z * g ≤ n := hz
    omega
  exact Nat.le_of_mul_le_mul_right this h0
theorem bounds3_ok {isS : Bool} {len cap : Nat} {lo : Option Operand} {vh vm : Value} {kh km : IntKind} {m n c : Nat} (hl : BoundIs a lo 0 m) (hh : vh = .int kh (n : Int)) (hm : vm = .int km (c : Int)) (h1 : m ≤ n) (h2 : n ≤ c) (h3 : c ≤ cap) : (Instr.sliceBounds isS len cap (lo.map a.eval) (some vh) (some vm)).run P w = .ok (m, n, c) w := by
  unfold Instr.sliceBounds
  cases lo with
  | none =>
    have := hl.1 rfl
    subst this
    simp [hh, hm, bound_ok h2, bound_ok h3]
  | some x =>
    obtain ⟨k, e⟩ := hl.2 x rfl
    have e : a.eval x = .int k (m : Int) := e
    simp [e, hh, hm, bound_ok h1, bound_ok h2, bound_ok h3]
theorem oSlice3_ok {t : TypeId} {x : Operand} {lo hi : Option Operand} {mo : Operand} (hk : oSlice3 P t x lo hi mo fr h K = true) : OpOK P (.slice t x lo hi (some mo)) fr h K := by
  unfold oSlice3 at hk
  cases hi with
  | none => cases hk
  | some hi => _
  dsimp only at hk
  obtain ⟨m, hk, hm⟩ := optNat_ok hk
  obtain ⟨kz, z, hz, hk⟩ := onNat_inv hk
  obtain ⟨kc, c, hc, hk⟩ := onNat_inv hk
  obtain ⟨g0, hk⟩ := recB_false hk
  obtain ⟨g1, g2⟩ := and2 g0
  have g1 := ble_le g1
  have g2 := ble_le g2
  have run : ∀ (e : TypeId) (ad : Option Addr) (len cap : Nat) (ρ : Ren) (a : Act) (w : World) (o' : Oper), (ti P t).und = .sl e → 1 ≤ (ti P e).size → o'.op = .slice t x lo (some hi) (some mo) → FR ρ fr a → a.eval x = .slice ad len cap → c ≤ cap →
      (execOp a.eval o').run P w = .ok (.value (.slice (if c = m then ad else ad.map (·.add (m * (ti P e).size))) (z - m) (c - m))) w := by
    intro e ad len cap ρ a w o' hu h0 ho f ev hcc
    have hb := bounds3_ok (P := P) (w := w) (isS := true) (len := len) (cap := cap) (hm ρ a f) (f.i hz) (f.i hc) g1 g2 hcc
    simp only [execOp, ho, Option.map_some]
    rw [Sem.run_bind, sliceAt_plain (und_slice hu) (fun n e => by simp), ev]
    simp only [Instr.slice, Sem.run_bind, run_und (und_slice hu), Result.andThen_ok, hb, run_size h0, Sem.run_pure]
  split at hk <;> first | (cases hk; done) | skip
  · rename_i e b o len cap hu hx
    obtain ⟨g3, hk⟩ := recB_false hk
    obtain ⟨g3, g4⟩ := and2 g3
    have g3 := ble_le g3
    have hcap : ∀ (ρ : Ren) (c' : Nat), (∀ d, cap = some d → c' = d) → (cap = none → len ≤ c' ∧ (o = 0 → c' = ρ.γ b)) → c ≤ c' := by
      intro ρ c' q1 q2
      cases cap with
      | some cp => rw [q1 cp rfl]; exact ble_le g4
      | none => have := ble_le g4; have := (q2 rfl).1; omega
    cases hcm : Nat.beq c m with
    | true =>
      rw [hcm] at hk
      have hcm := beq_eq hcm
      refine ⟨_, _, hk, fun ρ a w o' next Q ho f s kn => ?_⟩
      have hv := f.opd x
      rw [hx] at hv
      obtain ⟨c', ev, hb, q1, q2⟩ := hv.sl_inv
      refine wp_val (run e _ len c' ρ a w o' hu g3 ho f ev (hcap ρ c' q1 q2)) ?_
      rw [if_pos hcm, show z - m = 0 from by omega, show c - m = 0 from by omega]
      exact kn _ _ _ (.slc hb) s (.refl _ _ _)
    | false =>
      rw [hcm] at hk
      replace hk : (forceN (Nat.add o (Nat.mul m (ti P e).size)) fun o' => forceN (Nat.sub z m) fun l' => forceN (Nat.sub c m) fun c' => K (.sl b o' l' (some c')) h) = true := hk
      rw [forceN_eq, forceN_eq, forceN_eq] at hk
      have hcm : c ≠ m := fun e => by rw [e] at hcm; simp at hcm
      refine ⟨_, _, hk, fun ρ a w o' next Q ho f s kn => ?_⟩
      have hv := f.opd x
      rw [hx] at hv
      obtain ⟨c', ev, hb, q1, q2⟩ := hv.sl_inv
      refine wp_val (run e _ len c' ρ a w o' hu g3 ho f ev (hcap ρ c' q1 q2)) ?_
      rw [if_neg hcm, Option.map_some, add_at]
      exact kn _ _ _ (.slc hb) s (.refl _ _ _)
  · rename_i e hu hx
    obtain ⟨g3, hk⟩ := recB_false hk
    obtain ⟨g3, g4⟩ := and2 g3
    have g3 := ble_le g3
    have g4 := beq_eq g4
    refine ⟨_, _, hk, fun ρ a w o' next Q ho f s kn => ?_⟩
    have hv := f.opd x
    rw [hx] at hv
    generalize ea : a.eval x = y at hv
    cases hv
    refine wp_val (run e _ 0 0 ρ a w o' hu g3 ho f ea (by omega)) ?_
    rw [if_pos (by omega), show z - m = 0 from by omega, show c - m = 0 from by omega]
    exact kn _ _ _ .sn s (.refl _ _ _)
  · rename_i e hu hx
    obtain ⟨g3, hk⟩ := recB_false hk
    obtain ⟨g3, g4⟩ := and2 g3
    have g3 := ble_le g3
    have g4 := beq_eq g4
    refine ⟨_, _, hk, fun ρ a w o' next Q ho f s kn => ?_⟩
    have hv := f.opd x
    rw [hx] at hv
    generalize ea : a.eval x = y at hv
    cases hv with
    | se ad cc =>
      refine wp_val (run e _ 0 cc ρ a w o' hu g3 ho f ea (by omega)) ?_
      rw [if_pos (by omega), show z - m = 0 from by omega, show c - m = 0 from by omega]
      exact kn _ _ _ (.se _ _) s (.refl _ _ _)
theorem oSlice_ok {t : TypeId} {x : Operand} {lo hi mx : Option Operand} (hk : oSlice P t x lo hi mx fr h K = true) : OpOK P (.slice t x lo hi mx) fr h K := by
  unfold oSlice at hk
  cases mx with
  | some m => exact oSlice3_ok hk
  | none =>
    dsimp only at hk
    split at hk <;> first | (cases hk; done) | skip
    · rename_i l hu hx
      obtain ⟨m, hk, hm⟩ := optNat_ok hk
      obtain ⟨n, hk, hn⟩ := optNat_ok hk
      obtain ⟨h1, hk⟩ := recB_false hk
      obtain ⟨h1, h2⟩ := and2 h1
      refine ⟨_, _, hk, fun ρ a w o' next Q ho f s kn => ?_⟩
      have hv := f.opd x
      rw [hx] at hv
      obtain ⟨s1, e1, l1⟩ := hv.s_inv
      have hsz : s1.size = l.length := by
        have := l1.1
        rw [List.length_map] at this
        rw [this]; cases s1; exact (Array.length_toList).symm
      have hb := bounds_ok (P := P) (w := w) (isS := false) (cap := s1.size) (hm ρ a f) (len := s1.size) (by rw [hsz]; exact hn ρ a f) (ble_le h1) (by rw [hsz]; exact ble_le h2)
      refine wp_val (x := .string (s1.extract m n)) (w' := w) ?_ (kn _ _ _ (VR.s' ?_) s (.refl _ _ _))
      · simp only [execOp, ho, Option.map_none]
        rw [Sem.run_bind, sliceAt_plain (und_str hu) (fun n e => by simp), e1]
        simp only [Instr.slice, Sem.run_bind, run_und (und_str hu), Result.andThen_ok, hb, Option.isSome_none, Bool.false_eq_true, if_false, Sem.run_pure]
      · rw [extract_data, Array.toList_extract, List.extract_eq_take_drop, ← List.drop_take, List.map_drop, List.map_take]
        exact (l1.take n).drop m
    · rename_i e b o len cap hu hx
      obtain ⟨h0, hk⟩ := recB_false hk
      obtain ⟨m, hk, hm⟩ := optNat_ok hk
      obtain ⟨n, hk, hn⟩ := optNat_ok hk
      obtain ⟨h1, hk⟩ := recB_false hk
      obtain ⟨h1, h2⟩ := and2 h1
      have h1 := ble_le h1
      have h0 := ble_le h0
      have run : ∀ (ρ : Ren) (a : Act) (w : World) (o' : Oper) (c' : Nat), o'.op = .slice t x lo hi none → FR ρ fr a → a.eval x = .slice (some ⟨ρ.π b, o, none⟩) len c' → n ≤ c' →
          (execOp a.eval o').run P w = .ok (.value (.slice (if c' = m then some ⟨ρ.π b, o, none⟩ else some ⟨ρ.π b, o + m * (ti P e).size, none⟩) (n - m) (c' - m))) w := by
        intro ρ a w o' c' ho f ev hc
        have hb := bounds_ok (P := P) (w := w) (isS := true) (cap := c') (hm ρ a f) (hn ρ a f) h1 hc
        simp only [execOp, ho, Option.map_none]
        rw [Sem.run_bind, sliceAt_plain (und_slice hu) (fun n e => by simp), ev]
        simp only [Instr.slice, Sem.run_bind, run_und (und_slice hu), Result.andThen_ok, hb, run_size h0, Sem.run_pure, Option.map_some, add_at]
      cases cap with
      | some c =>
        dsimp only at hk h2
        have hc : n ≤ len ∨ n ≤ c := by
          rcases Bool.or_eq_true _ _ ▸ h2 with h | h
          · exact .inl (ble_le h)
          · exact .inr (ble_le h)
        cases hcm : Nat.beq c m with
        | true =>
          rw [hcm] at hk
          dsimp only at hk
          obtain ⟨g1, hk⟩ := recB_false hk
          have hcm := beq_eq hcm
          refine ⟨_, _, hk, fun ρ a w o' next Q ho f s kn => ?_⟩
          have hv := f.opd x
          rw [hx] at hv
          obtain ⟨c', ev, hb, hc1, _⟩ := hv.sl_inv
          have := hc1 c rfl
          subst this
          refine wp_val (run ρ a w o' c' ho f ev (ble_le g1)) ?_
          rw [if_pos hcm]
          refine kn _ _ _ ?_ s (.refl _ _ _)
          rw [show c' - m = 0 from by omega]
          exact .slc hb
        | false =>
          rw [hcm] at hk
          dsimp only at hk
          obtain ⟨g1, hk⟩ := recB_false hk
          rw [forceN_eq, forceN_eq, forceN_eq] at hk
          have hcm : c ≠ m := fun e => by rw [e] at hcm; simp at hcm
          refine ⟨_, _, hk, fun ρ a w o' next Q ho f s kn => ?_⟩
          have hv := f.opd x
          rw [hx] at hv
          obtain ⟨c', ev, hb, hc1, _⟩ := hv.sl_inv
          have := hc1 c rfl
          subst this
          refine wp_val (run ρ a w o' c' ho f ev (ble_le g1)) ?_
          rw [if_neg hcm]
          exact kn _ _ _ (.slc hb) s (.refl _ _ _)
      | none =>
        dsimp only at hk h2
        have hc : ∀ (ρ : Ren) (w : World) (c' : Nat), Sat ρ h w → len ≤ c' → (o = 0 → c' = ρ.γ b) → n ≤ c' := by
          intro ρ w c' s hc3 hc4
          rcases or2 h2 with h2 | h2
          · have := ble_le h2
            omega
          · exact room_ok s h0 h2 hc3 hc4
        cases m with
        | zero =>
          dsimp only at hk
          refine ⟨_, _, hk, fun ρ a w o' next Q ho f s kn => ?_⟩
          have hv := f.opd x
          rw [hx] at hv
          obtain ⟨c', ev, hb, _, hc2⟩ := hv.sl_inv
          obtain ⟨hc3, hc4⟩ := hc2 rfl
          refine wp_val (run ρ a w o' c' ho f ev (hc ρ w c' s hc3 hc4)) ?_
          refine kn _ _ _ ?_ s (.refl _ _ _)
          rw [Nat.zero_mul, Nat.add_zero, ite_self, Nat.sub_zero, Nat.sub_zero]
          exact .slu hb (hc ρ w c' s hc3 hc4) hc4
        | succ m =>
          dsimp only at hk
          cases hmn : Nat.beq (m + 1) n with
          | true =>
            rw [hmn] at hk
            dsimp only at hk
            have hmn := beq_eq hmn
            refine ⟨_, _, hk, fun ρ a w o' next Q ho f s kn => ?_⟩
            have hv := f.opd x
            rw [hx] at hv
            obtain ⟨c', ev, hb, _, hc2⟩ := hv.sl_inv
            obtain ⟨hc3, hc4⟩ := hc2 rfl
            have hnc := hc ρ w c' s hc3 hc4
            refine wp_val (run ρ a w o' c' ho f ev (by omega)) ?_
            refine kn _ _ _ ?_ s (.refl _ _ _)
            rw [show n - (m + 1) = 0 from by omega]
            split <;> exact .se _ _
          | false =>
            rw [hmn] at hk
            dsimp only at hk
            rw [forceN_eq, forceN_eq] at hk
            obtain ⟨g1, hk⟩ := recB_true hk
            have hmn : m + 1 ≠ n := fun e => by rw [e] at hmn; simp at hmn
            refine ⟨_, _, hk, fun ρ a w o' next Q ho f s kn => ?_⟩
            have hv := f.opd x
            rw [hx] at hv
            obtain ⟨c', ev, hb, _, hc2⟩ := hv.sl_inv
            obtain ⟨hc3, hc4⟩ := hc2 rfl
            have hnc := hc ρ w c' s hc3 hc4
            refine wp_val (run ρ a w o' c' ho f ev (by omega)) ?_
            rw [if_neg (by omega)]
            refine kn _ _ _ (.slu hb ?_ ?_) s (.refl _ _ _)
            · show n - (m + 1) ≤ c' - (m + 1)
              omega
            · intro e0
              exact absurd (show Nat.beq (Nat.add o (Nat.mul (m + 1) (ti P e).size)) 0 = true from by rw [show Nat.add o (Nat.mul (m + 1) (ti P e).size) = 0 from e0]; rfl) (by rw [g1]; simp)
    · rename_i e hu hx
      obtain ⟨h0, hk⟩ := recB_false hk
      obtain ⟨m, hk, hm⟩ := optNat_ok hk
      obtain ⟨n, hk, hn⟩ := optNat_ok hk
      obtain ⟨h1, hk⟩ := recB_false hk
      obtain ⟨h1, h2⟩ := and2 h1
      obtain rfl := beq_eq h1
      obtain rfl := beq_eq h2
      refine ⟨_, _, hk, fun ρ a w o' next Q ho f s kn => ?_⟩
      have hv := f.opd x
      rw [hx] at hv
      generalize ea : a.eval x = y at hv
      cases hv with
      | se q c =>
        have hb := bounds_ok (P := P) (w := w) (isS := true) (len := 0) (cap := c) (hm ρ a f) (hn ρ a f) (Nat.le_refl _) (Nat.zero_le _)
        have h0 := ble_le h0
        refine wp_val (x := .slice (some q) 0 c) (w' := w) ?_ (kn _ _ _ (.se _ _) s (.refl _ _ _))
        simp only [execOp, ho, Option.map_none]
        rw [Sem.run_bind, sliceAt_plain (und_slice hu) (fun n e => by simp), ea]
        simp only [Instr.slice, Sem.run_bind, run_und (und_slice hu), Result.andThen_ok, hb, run_size h0, Sem.run_pure, Option.map_some, Nat.zero_mul, Addr.add, if_true, ite_self, Nat.sub_zero]
    · rename_i e hu hx
      obtain ⟨h0, hk⟩ := recB_false hk
      obtain ⟨m, hk, hm⟩ := optNat_ok hk
      obtain ⟨n, hk, hn⟩ := optNat_ok hk
      obtain ⟨h1, hk⟩ := recB_false hk
      obtain ⟨h1, h2⟩ := and2 h1
      obtain rfl := beq_eq h1
      obtain rfl := beq_eq h2
      refine ⟨_, _, hk, fun ρ a w o' next Q ho f s kn => ?_⟩
      have hv := f.opd x
      rw [hx] at hv
      generalize ea : a.eval x = y at hv
      cases hv
      have hb := bounds_ok (P := P) (w := w) (isS := true) (len := 0) (cap := 0) (hm ρ a f) (hn ρ a f) (Nat.le_refl _) (Nat.zero_le _)
      have h0 := ble_le h0
      refine wp_val (x := .slice none 0 0) (w' := w) ?_ (kn _ _ _ .sn s (.refl _ _ _))
      simp only [execOp, ho, Option.map_none]
      rw [Sem.run_bind, sliceAt_plain (und_slice hu) (fun n e => by simp), ea]
      simp only [Instr.slice, Sem.run_bind, run_und (und_slice hu), Result.andThen_ok, hb, run_size h0, Sem.run_pure, if_true, Nat.sub_zero]
    · rename_i ar b o hu hx
      split at hk <;> first | (cases hk; done) | skip
      rename_i nn e hu2
      obtain ⟨h0, hk⟩ := recB_false hk
      obtain ⟨m, hk, hm⟩ := optNat_ok hk
      obtain ⟨n, hk, hn⟩ := optNat_ok hk
      obtain ⟨h1, hk⟩ := recB_false hk
      obtain ⟨h1, h3⟩ := and2 h1
      obtain ⟨h1, h2⟩ := and2 h1
      refine ⟨_, _, hk, fun ρ a w o' next Q ho f s kn => ?_⟩
      obtain ⟨hb, ev⟩ := f.p hx
      have hbd := bounds_ok (P := P) (w := w) (isS := false) (cap := nn) (hm ρ a f) (hn ρ a f) (ble_le h1) (ble_le h2)
      have h0 := ble_le h0
      have h3 : m < nn := ble_le h3
      refine wp_val (x := .slice (some ⟨ρ.π b, o + m * (ti P e).size, none⟩) (n - m) (nn - m)) (w' := w) ?_ (kn _ _ _ (.slc hb) s (.refl _ _ _))
      simp only [execOp, ho, Option.map_none]
      rw [Sem.run_bind, sliceAt_plain (und_ptr hu) (fun n e => by simp), ev]
      simp only [Instr.slice, Sem.run_bind, run_und (und_ptr hu), run_und (und_arr hu2), Result.andThen_ok, asAddr, hbd, run_size h0, Sem.run_pure, show ¬ nn = m from by omega, if_false, add_at]
    · rename_i nn e b o hu hx
      obtain ⟨h0, hk⟩ := recB_false hk
      obtain ⟨m, hk, hm⟩ := optNat_ok hk
      obtain ⟨n, hk, hn⟩ := optNat_ok hk
      obtain ⟨h1, hk⟩ := recB_false hk
      obtain ⟨h1, h3⟩ := and2 h1
      obtain ⟨h1, h2⟩ := and2 h1
      refine ⟨_, _, hk, fun ρ a w o' next Q ho f s kn => ?_⟩
      obtain ⟨hb, ev⟩ := f.p hx
      have hbd := bounds_ok (P := P) (w := w) (isS := false) (cap := nn) (hm ρ a f) (hn ρ a f) (ble_le h1) (ble_le h2)
      have h0 := ble_le h0
      have h3 : m < nn := ble_le h3
      refine wp_val (x := .slice (some ⟨ρ.π b, o + m * (ti P e).size, none⟩) (n - m) (nn - m)) (w' := w) ?_ (kn _ _ _ (.slc hb) s (.refl _ _ _))
      simp only [execOp, ho, Option.map_none, Instr.sliceAt, Sem.run_bind, ev, run_und (und_arr hu), Result.andThen_ok, Instr.sureAddr, hbd, run_size h0, Sem.run_pure, show ¬ nn = m from by omega, if_false, add_at]
end
end Go.Proofs.YtphfekkllibphaaGreatDoor.Ev
namespace Go.Proofs.YtphfekkllibphaaGreatDoor.Ev
open Go Go.RowKit

section
variable {P : Program} {ρ : Ren} {fr : Fr} {a : Act} {h : H} {K : KT} {w : World}
theorem keyFit_inv {kt : TypeId} {v : V} (h : keyFit P kt v = true) : ((∃ k, (ti P kt).und = .int k) ∧ ∃ j n, v = .i j n) ∨ ((ti P kt).und = .str ∧ ∃ l, v = .s l) ∨ ((∃ fs, (ti P kt).und = .struct fs) ∧ (∃ l, v = .agg l) ∧ eqT P (ti P kt) v = true) := by
  unfold keyFit at h
  split at h <;> first | (cases h; done) | skip
  · rename_i e; exact .inl ⟨⟨_, e⟩, _, _, rfl⟩
  · rename_i e; exact .inr (.inl ⟨e, _, rfl⟩)
  · rename_i e; exact .inr (.inr ⟨⟨_, e⟩, ⟨_, rfl⟩, h⟩)
/-- The entries are as known. -/
def ER (ρ : Ren) (es : List (V × V × Nat)) (es' : List MapEntry) : Prop :=
  es.length = es'.length ∧ ∀ (i : Nat) (e : V × V × Nat) (e' : MapEntry), es[i]? = some e → es'[i]? = some e' → VR ρ e.1 e'.key ∧ VR ρ e.2.1 e'.val ∧ e'.born = e.2.2
theorem ER.cons_inv {e : V × V × Nat} {es : List (V × V × Nat)} {l : List MapEntry} (h : ER ρ (e :: es) l) : ∃ e' es', l = e' :: es' ∧ (VR ρ e.1 e'.key ∧ VR ρ e.2.1 e'.val ∧ e'.born = e.2.2) ∧ ER ρ es es' := by
  cases l with
  | nil => have := h.1; simp at this
  | cons e' es' =>
    exact ⟨e', es', rfl, h.2 0 e e' rfl rfl, ⟨by have := h.1; simpa using this, fun i x y hx hy => h.2 (i + 1) x y (by simpa using hx) (by simpa using hy)⟩⟩
theorem ER.nil_inv {l : List MapEntry} (h : ER ρ [] l) : l = [] := List.eq_nil_of_length_eq_zero h.1.symm
/-- What is found. -/
def FoundR (ρ : Ren) (r : Option (Nat × V)) (r' : Option (Nat × Value)) : Prop := (r = none ∧ r' = none) ∨ ∃ i v x, r = some (i, v) ∧ r' = some (i, x) ∧ VR ρ v x
theorem bytes_beq (s t : ByteArray) : (s == t) = decide (s = t) := by rw [beq_toListBytes, toList_beq]
/-- Two plain keys. -/
theorem sameNow_ok {kt : TypeId} {k l : V} {c : Bool} {x y : Value} {kd : TypeDesc} (h1 : keyFit P kt k = true) (h2 : keyFit P kt l = true) (hs : ∀ fs, (ti P kt).und ≠ .struct fs) (hk : keyEq k l = some c) (hx : VR ρ k x) (hy : VR ρ l y) (hd : P.underlying kt = some kd) : Instr.sameNow kd x y = some c := by
  have hc := keyEq_ok hk hx hy
  rcases keyFit_inv h1 with ⟨⟨kk, e1⟩, j, n, rfl⟩ | ⟨e1, s, rfl⟩ | ⟨⟨fs, e1⟩, _⟩
  · rcases keyFit_inv h2 with ⟨⟨kk', e2⟩, j', n', rfl⟩ | ⟨e2, s, rfl⟩ | ⟨⟨fs, e2⟩, _⟩ <;> first | (rw [e1] at e2; cases e2; done) | skip
    have := und_int e1
    rw [hd] at this
    injection this with this
    subst this
    rw [hx.i_inv, hy.i_inv] at hc ⊢
    have hj : j = j' := by
      by_cases hj : j = j'
      · exact hj
      · have h' : (match decide (j = j') with | true => some (decide (n = n')) | false => none) = some c := hk
        rw [decide_eq_false hj] at h'
        cases h'
    subst hj
    unfold Instr.sameNow
    dsimp only
    rw [if_pos rfl]
    congr 1
    rw [Bool.eq_iff_iff]
    simp at hc ⊢
    exact hc.symm
  · rcases keyFit_inv h2 with ⟨⟨kk', e2⟩, j', n', rfl⟩ | ⟨e2, s', rfl⟩ | ⟨⟨fs, e2⟩, _⟩ <;> first | (rw [e1] at e2; cases e2; done) | skip
    have := und_str e1
    rw [hd] at this
    injection this with this
    subst this
    obtain ⟨s1, rfl, _⟩ := hx.s_inv
    obtain ⟨s2, rfl, _⟩ := hy.s_inv
    unfold Instr.sameNow
    dsimp only
    rw [bytes_beq]
    congr 1
    rw [Bool.eq_iff_iff]
    simp at hc ⊢
    exact hc.symm
  · exact absurd e1 (hs fs)
theorem findM_ok {kt : TypeId} {k : V} (hkf : keyFit P kt k = true) {K : Option (Nat × V) → Bool} : ∀ (es : List (V × V × Nat)) (i : Nat), findM P kt k K es i = true →
    ∃ r, K r = true ∧ (∀ j v, r = some (j, v) → i ≤ j ∧ ∃ e, es[j - i]? = some e ∧ keyEq k e.1 = some true) ∧ ∀ (ρ : Ren) (w : World) (es' : List MapEntry) (x : Value) (kd : TypeDesc), ER ρ es es' → VR ρ k x → P.underlying kt = some kd →
      ∃ r', FoundR ρ r r' ∧ ((∀ fs, (ti P kt).und ≠ .struct fs) → Instr.findNow kd x es' i = some r') ∧ ((∃ fs, (ti P kt).und = .struct fs) → (Instr.findAsking kt x es' i).run P w = .ok r' w)
  | [], i, hk => ⟨none, hk, fun j v e => (by cases e), fun ρ w es' x kd he hx hd => by
      rw [he.nil_inv]
      exact ⟨none, .inl ⟨rfl, rfl⟩, fun _ => rfl, fun _ => rfl⟩⟩
  | e :: es, i, hk => by
    have hk' : (Bool.rec false (match keyEq k e.1 with | some true => K (some (i, e.2.1)) | some false => findM P kt k K es (i + 1) | none => false) (keyFit P kt e.1) : Bool) = true := hk
    obtain ⟨h1, hk'⟩ := recB_false hk'
    cases hq : keyEq k e.1 with
    | none => rw [hq] at hk'; cases hk'
    | some c =>
      have asks : ∀ (ρ : Ren) (w : World) (x y : Value), VR ρ k x → VR ρ e.1 y → (∃ fs, (ti P kt).und = .struct fs) → (Op.equal kt x y).run P w = .ok c w := by
        rintro ρ w x y hx hy ⟨fs, hu⟩
        rcases keyFit_inv hkf with ⟨⟨kk, e1⟩, _⟩ | ⟨e1, _⟩ | ⟨_, _, f1⟩ <;> first | (rw [hu] at e1; cases e1; done) | skip
        rcases keyFit_inv h1 with ⟨⟨kk, e1⟩, _⟩ | ⟨e1, _⟩ | ⟨_, _, f2⟩ <;> first | (rw [hu] at e1; cases e1; done) | skip
        exact equal_ok f1 f2 hq hx hy
      rw [hq] at hk'
      cases c with
      | true =>
        refine ⟨_, hk', fun j v ej => ?_, fun ρ w es' x kd he hx hd => ?_⟩
        · injection ej with ej
          injection ej with e1 e2
          subst e1
          exact ⟨Nat.le_refl _, e, by rw [Nat.sub_self]; rfl, hq⟩
        · obtain ⟨e', es2, rfl, ⟨a1, a2, a3⟩, _⟩ := he.cons_inv
          refine ⟨some (i, e'.val), .inr ⟨i, _, _, rfl, rfl, a2⟩, fun hs => ?_, fun hs => ?_⟩
          · unfold Instr.findNow
            rw [sameNow_ok hkf h1 hs hq hx a1 hd]
          · unfold Instr.findAsking
            rw [Sem.run_bind, asks ρ w x e'.key hx a1 hs]
            rfl
      | false =>
        obtain ⟨r, hr, hb, hf⟩ := findM_ok hkf es (i + 1) hk'
        refine ⟨r, hr, fun j v ej => ?_, fun ρ w es' x kd he hx hd => ?_⟩
        · obtain ⟨b1, b2⟩ := hb j v ej
          rw [show j - i = (j - (i + 1)) + 1 from by omega]
          exact ⟨by omega, by simpa using b2⟩
        · obtain ⟨e', es2, rfl, ⟨a1, a2, a3⟩, he2⟩ := he.cons_inv
          obtain ⟨r', f1, f2, f3⟩ := hf ρ w es2 x kd he2 hx hd
          refine ⟨r', f1, fun hs => ?_, fun hs => ?_⟩
          · unfold Instr.findNow
            rw [sameNow_ok hkf h1 hs hq hx a1 hd]
            exact f2 hs
          · unfold Instr.findAsking
            rw [Sem.run_bind, asks ρ w x e'.key hx a1 hs]
            exact f3 hs
theorem findNow_struct {kd : TypeDesc} {fs : Array Field} (hd : kd = .struct fs) {x : Value} {e : MapEntry} {es : List MapEntry} {i : Nat} : Instr.findNow kd x (e :: es) i = none := by
  subst hd
  unfold Instr.findNow
  cases x <;> rfl
/-- A key is looked for. -/
theorem findKey_ok {kt : TypeId} {k : V} (hkf : keyFit P kt k = true) {K : Option (Nat × V) → Bool} {es : List (V × V × Nat)} (hk : findM P kt k K es 0 = true) :
    ∃ r, K r = true ∧ (∀ j v, r = some (j, v) → ∃ e, es[j]? = some e ∧ keyEq k e.1 = some true) ∧ ∀ (ρ : Ren) (w : World) (es' : List MapEntry) (x : Value), ER ρ es es' → VR ρ k x → ∃ r', FoundR ρ r r' ∧ (Instr.findKey kt x es').run P w = .ok r' w := by
  obtain ⟨r, hr, hb, hf⟩ := findM_ok hkf es 0 hk
  have hne : (ti P kt).und ≠ .oth := by
    rcases keyFit_inv hkf with ⟨⟨kk, e1⟩, _⟩ | ⟨e1, _⟩ | ⟨⟨fs, e1⟩, _⟩ <;> rw [e1] <;> simp
  obtain ⟨kd, hd, hu⟩ := und_some' hne
  refine ⟨r, hr, fun j v ej => by have := (hb j v ej).2; simpa using this, fun ρ w es' x he hx => ?_⟩
  obtain ⟨r', f1, f2, f3⟩ := hf ρ w es' x kd he hx hd
  refine ⟨r', f1, ?_⟩
  unfold Instr.findKey
  rw [Sem.run_bind, run_und hd, Result.andThen_ok]
  by_cases hs : ∃ fs, (ti P kt).und = .struct fs
  · obtain ⟨fs, hs⟩ := hs
    rw [hs] at hu
    cases kd <;> simp only [udOf, reduceCtorEq] at hu
    cases es' with
    | nil =>
      have : r' = none := by
        have := f3 ⟨fs, hs⟩
        have e9 : (Instr.findAsking kt x [] 0).run P w = .ok none w := rfl
        rw [e9] at this
        injection this with this
        exact this.symm
      subst this
      rfl
    | cons e es2 =>
      rw [findNow_struct rfl]
      exact f3 ⟨fs, hs⟩
  · rw [f2 (fun fs e => hs ⟨fs, e⟩)]
    rfl
/-- The key may be one. -/
theorem checkKey_ok {kt : TypeId} {k : V} {x : Value} (hkf : keyFit P kt k = true) (hx : VR ρ k x) (b : Bool) : (Instr.checkKey b 10000 kt x).run P w = .ok () w := by
  rcases keyFit_inv hkf with ⟨⟨kk, e1⟩, j, n, rfl⟩ | ⟨e1, l, rfl⟩ | ⟨⟨fs, e1⟩, ⟨l, rfl⟩, hf⟩
  · rw [hx.i_inv]
    unfold Instr.checkKey
    rw [Sem.run_bind, run_und (und_int e1)]
    rfl
  · obtain ⟨s, rfl, _⟩ := hx.s_inv
    unfold Instr.checkKey
    rw [Sem.run_bind, run_und (und_str e1)]
    rfl
  · obtain ⟨cs, rfl, hl⟩ := hx.agg_inv
    rcases eqT_inv hf with ⟨e2, _⟩ | ⟨⟨e', e2⟩, _⟩ | ⟨e2, _⟩ | ⟨⟨e', e2⟩, _⟩ | ⟨⟨k', e', e2⟩, _⟩ | ⟨e2, _⟩ | ⟨fs', m, e2, e3, t1, t2, t3⟩ <;> first | (rw [e1] at e2; cases e2; done) | skip
    injection e3 with e3
    subst e3
    obtain ⟨fields, h1, h2, h3, h4, h5⟩ := seq_und t1
    rw [e2] at h2
    injection h2 with h2
    have fit : ∀ (j : Nat) (f : Field) (v : V), fields.toList[j]? = some f → l[j]? = some v → fit1 (udAt P f.type) v = true := by
      intro j f v hj hv
      have hj' : fs'[j]? = some (f.offset, f.type) := by rw [h2, List.getElem?_map, hj]; rfl
      exact List.all_eq_true.1 t3 ((f.offset, f.type), v) (List.mem_of_getElem? (i := j) (by rw [List.getElem?_zip_eq_some]; exact ⟨hj', hv⟩))
    have hlen : fields.toList.length = l.length := by rw [← t2, h2]; simp
    unfold Instr.checkKey
    rw [Sem.run_bind, run_und h1, Result.andThen_ok]
    dsimp only
    rw [← Array.forIn_toList]
    have key : ∀ (gs : List Field), (∀ f ∈ gs, ∃ (j : Nat) (v : V), fields.toList[j]? = some f ∧ l[j]? = some v) → (forIn gs PUnit.unit (fun f _ => do
        if f.name ≠ "_" then
          Instr.checkKey b 9999 f.type (← part f.type cs f.offset)
          pure (ForInStep.yield PUnit.unit)
        else pure (ForInStep.yield PUnit.unit)) : Sem PUnit).run P w = .ok PUnit.unit w := by
      intro gs
      induction gs with
      | nil => intro _; rfl
      | cons f gs ih =>
        intro hg
        obtain ⟨j, v, hj, hv⟩ := hg f List.mem_cons_self
        have g1 := fit j f v hj hv
        obtain ⟨y, hy, hvy⟩ := hl.at_ hv
        rw [Array.getElem?_toList] at hy
        have hoff := (h5 j f hj).1
        have hn : f.name ≠ "_" := by have := (h5 j f hj).2; simpa using this
        have e4 : (part f.type cs f.offset).run P w = .ok y w := by rw [hoff]; exact part_plain g1 hvy hy
        have e5 : (Instr.checkKey b 9999 f.type y).run P w = .ok () w := by
          rcases fit1_inv g1 hvy with ⟨k, n, e, j, rfl, _⟩ | ⟨n, e, rfl, rfl⟩ | ⟨n, l, e, rfl, rfl⟩
          · obtain ⟨dd, q1, q2⟩ := udAt_und e (by simp)
            cases dd <;> simp only [udOf, reduceCtorEq, UD.int.injEq] at q2
            unfold Instr.checkKey
            rw [Sem.run_bind, run_und q1]
            rfl
          · obtain ⟨dd, q1, q2⟩ := udAt_und e (by simp)
            cases dd <;> simp only [udOf, reduceCtorEq] at q2
            unfold Instr.checkKey
            rw [Sem.run_bind, run_und q1]
            rfl
          · obtain ⟨dd, q1, q2⟩ := udAt_und e (by simp)
            cases dd <;> simp only [udOf, reduceCtorEq] at q2
            unfold Instr.checkKey
            rw [Sem.run_bind, run_und q1]
            rfl
        rw [List.forIn_cons, if_pos hn]
        simp only [Sem.run_bind, e4, e5, Result.andThen_ok, Sem.run_pure]
        exact ih (fun f hf => hg f (List.mem_cons_of_mem _ hf))
    rw [Sem.run_bind]
    have e9 := key fields.toList (fun f hf => by
      obtain ⟨j, hj⟩ := List.getElem?_of_mem hf
      have hjl := (List.getElem?_eq_some_iff.1 hj).1
      exact ⟨j, l[j]'(by omega), hj, List.getElem?_eq_getElem (by omega)⟩)
    exact (congrArg (fun r => r.andThen fun _ w' => (pure () : Sem Unit).run P w') e9).trans rfl
theorem Sat.map {b : Nat} {es : List (V × V × Nat)} {cl : Nat} (s : Sat ρ h w) (hb : h.get b = .mp es cl) : ρ.d b ∧ ∃ es' : Array MapEntry, w.heap[ρ.π b]? = some (.map es' cl) ∧ ER ρ es es'.toList := by
  have := s.o b
  rw [hb] at this
  obtain ⟨h1, es', h2, h3, h4⟩ := this
  exact ⟨h1, es', h2, by simpa using h3, fun i e e' he he' => h4 i e e' he (by simpa using he')⟩
theorem run_getObj {r : Nat} {es : Array MapEntry} {cl : Nat} (hb : w.heap[r]? = some (.map es cl)) : (getObj r).run P w = .ok (.map es cl) w := by
  simp [getObj, Sem.run, hb]
theorem run_setObj {r : Nat} {es : Array MapEntry} {cl : Nat} {o : Obj} (hb : w.heap[r]? = some (.map es cl)) : (setObj r o).run P w = .ok () { w with heap := w.heap.setIfInBounds r o } := by
  simp [setObj, Sem.run, hb]
theorem lookOut_ok {ok : Bool} {zero : V} {r : Option (Nat × V)} (hk : lookOut ok zero h K r = true) : ∃ v, K v h = true ∧ ∀ (ρ : Ren) (r' : Option (Nat × Value)) (z : Value), FoundR ρ r r' → VR ρ zero z →
    VR ρ v (if ok then .tuple #[(r'.map (·.2)).getD z, .bool r'.isSome] else (r'.map (·.2)).getD z) := by
  cases r with
  | none =>
    cases ok with
    | true =>
      refine ⟨_, hk, fun ρ r' z hf hz => ?_⟩
      rcases hf with ⟨_, rfl⟩ | ⟨i, v, x, e, _⟩
      · exact VR.tup' (.cons hz (.cons (.b _) .nil))
      · cases e
    | false =>
      refine ⟨_, hk, fun ρ r' z hf hz => ?_⟩
      rcases hf with ⟨_, rfl⟩ | ⟨i, v, x, e, _⟩
      · exact hz
      · cases e
  | some q =>
    obtain ⟨j, v⟩ := q
    cases ok with
    | true =>
      refine ⟨_, hk, fun ρ r' z hf hz => ?_⟩
      rcases hf with ⟨e, _⟩ | ⟨i, v', x, e, rfl, hv⟩
      · cases e
      · injection e with e
        injection e with e1 e2
        subst e2
        exact VR.tup' (.cons hv (.cons (.b _) .nil))
    | false =>
      refine ⟨_, hk, fun ρ r' z hf hz => ?_⟩
      rcases hf with ⟨e, _⟩ | ⟨i, v', x, e, rfl, hv⟩
      · cases e
      · injection e with e
        injection e with e1 e2
        subst e2
        exact hv
theorem oLookup_ok {t : TypeId} {x y : Operand} {ok : Bool} (hk : oLookup P t x y ok fr h K = true) : OpOK P (.lookup t x y ok) fr h K := by
  unfold oLookup at hk
  split at hk <;> first | (cases hk; done) | skip
  rename_i kt e hu
  obtain ⟨g1, hk⟩ := recB_false hk
  obtain ⟨g1, g2⟩ := and2 g1
  obtain ⟨i, z, hi, e1, hz, _, hzv⟩ := zero_ok (P := P) (t := e) (ble_le g2)
  have hm := und_map hu
  split at hk <;> first | (cases hk; done) | skip
  · rename_i hx
    obtain ⟨v, hk, hl⟩ := lookOut_ok hk
    refine ⟨_, _, hk, fun ρ a w o' next Q ho f s kn => ?_⟩
    have hv := f.opd x
    rw [hx] at hv
    generalize ea : a.eval x = q at hv
    cases hv
    refine wp_val (w' := w) ?_ (kn _ _ _ (hl ρ none z (.inl ⟨rfl, rfl⟩) (hzv ρ)) s (.refl _ _ _))
    have e3 := checkKey_ok (w := w) g1 (f.opd y) true
    have e4 : (Instr.findKey kt (a.eval y) []).run P w = .ok none w := by
      unfold Instr.findKey
      have hne : (ti P kt).und ≠ .oth := by
        rcases keyFit_inv g1 with ⟨⟨kk, e1⟩, _⟩ | ⟨e1, _⟩ | ⟨⟨fs, e1⟩, _⟩ <;> rw [e1] <;> simp
      obtain ⟨kd, hd, _⟩ := und_some' hne
      rw [Sem.run_bind, run_und hd]
      rfl
    simp only [execOp, ho, ea, Instr.lookup, Sem.run_bind, run_und hm, Result.andThen_ok, Sem.run_pure, Array.isEmpty_empty, e3, e4, hz]
    rfl
  · rename_i b hx
    obtain ⟨es, cl, hb, hk⟩ := O.m_inv hk
    obtain ⟨r, hk, _, hf⟩ := findKey_ok g1 hk
    obtain ⟨v, hk, hl⟩ := lookOut_ok hk
    refine ⟨_, _, hk, fun ρ a w o' next Q ho f s kn => ?_⟩
    have hv := f.opd x
    rw [hx] at hv
    obtain ⟨_, ev⟩ := hv.m_inv
    obtain ⟨_, es', hh, her⟩ := s.map hb
    obtain ⟨r', fr', hfk⟩ := hf ρ w es'.toList _ her (f.opd y)
    refine wp_val (w' := w) ?_ (kn _ _ _ (hl ρ r' z fr' (hzv ρ)) s (.refl _ _ _))
    have e3 := checkKey_ok (w := w) g1 (f.opd y) es'.isEmpty
    cases r' with
    | none =>
      simp only [execOp, ho, ev, Instr.lookup, Sem.run_bind, run_und hm, Result.andThen_ok, run_getObj hh, Sem.run_pure, e3, hfk, hz]
      cases ok <;> rfl
    | some q =>
      obtain ⟨j, q⟩ := q
      simp only [execOp, ho, ev, Instr.lookup, Sem.run_bind, run_und hm, Result.andThen_ok, run_getObj hh, Sem.run_pure, e3, hfk]
      cases ok <;> rfl
end
end Go.Proofs.YtphfekkllibphaaGreatDoor.Ev
namespace Go.Proofs.YtphfekkllibphaaGreatDoor.Ev
open Go Go.RowKit

section
variable {P : Program} {ρ : Ren} {fr : Fr} {a : Act} {h : H} {K : KT} {w : World}
theorem set_heap (w : World) {r : Nat} {x : Obj} (hr : r < w.heap.size) : ({ w with heap := w.heap.setIfInBounds r x } : World).heap[r]? = some x := by simp [hr]
theorem Sat.setObj {c : Nat} {o : O} {x : Obj} (s : Sat ρ h w) (hc : h.get c ≠ .z) (ho : OR ρ { w with heap := w.heap.setIfInBounds (ρ.π c) x } c o) :
    Sat ρ (h.upd c o) { w with heap := w.heap.setIfInBounds (ρ.π c) x } ∧ Step ρ h w ρ (h.upd c o) { w with heap := w.heap.setIfInBounds (ρ.π c) x } :=
  s.upd hc ho (by simp) rfl rfl rfl (fun r hr => by simp [Array.getElem?_setIfInBounds, Ne.symm hr])
theorem OR.mp_of {c : Nat} {es : List (V × V × Nat)} {cl : Nat} {es' : Array MapEntry} (hc : ρ.d c) (hr : ρ.π c < w.heap.size) (he : ER ρ es es'.toList) : OR ρ { w with heap := w.heap.setIfInBounds (ρ.π c) (.map es' cl) } c (.mp es cl) :=
  ⟨hc, es', set_heap w hr, by simpa using he.1, fun i e e' h1 h2 => he.2 i e e' h1 (by simpa using h2)⟩
theorem ER.push {es : List (V × V × Nat)} {l : List MapEntry} (he : ER ρ es l) {k v : V} {x y : Value} {n : Nat} (hk : VR ρ k x) (hv : VR ρ v y) : ER ρ (es ++ [(k, v, n)]) (l ++ [{ key := x, val := y, born := n }]) := by
  refine ⟨by simp [he.1], fun i e e' h1 h2 => ?_⟩
  rcases Nat.lt_or_ge i es.length with hi | hi
  · rw [List.getElem?_append_left hi] at h1
    rw [List.getElem?_append_left (by have := he.1; omega)] at h2
    exact he.2 i e e' h1 h2
  · rw [List.getElem?_append_right hi] at h1
    rw [List.getElem?_append_right (by have := he.1; omega), ← he.1] at h2
    cases hj : i - es.length with
    | zero =>
      rw [hj] at h1 h2
      simp at h1 h2
      subst h1 h2
      exact ⟨hk, hv, rfl⟩
    | succ j =>
      rw [hj] at h1
      simp at h1
theorem ER.set {es : List (V × V × Nat)} {l : List MapEntry} (he : ER ρ es l) {k v : V} {x y : Value} (i : Nat) (hk : VR ρ k x) (hv : VR ρ v y) : ER ρ (setAt i k v es) (l.modify i fun e => { e with key := x, val := y }) := by
  unfold setAt
  refine ⟨by simp [he.1], fun j e e' h1 h2 => ?_⟩
  rw [List.getElem?_modify] at h1 h2
  obtain ⟨e0, g1, g2⟩ := Option.map_eq_some_iff.1 h1
  obtain ⟨e1, g3, g4⟩ := Option.map_eq_some_iff.1 h2
  have := he.2 j e0 e1 g1 g3
  by_cases hij : i = j
  · rw [if_pos hij] at g2 g4
    subst g2 g4
    exact ⟨hk, hv, this.2.2⟩
  · rw [if_neg hij] at g2 g4
    first | (simp at g2 g4) | skip
    subst g2 g4
    exact this
theorem ER.erase {es : List (V × V × Nat)} {l : List MapEntry} (he : ER ρ es l) (i : Nat) : ER ρ (es.eraseIdx i) (l.eraseIdx i) := by
  refine ⟨by rw [List.length_eraseIdx, List.length_eraseIdx, he.1], fun j e e' h1 h2 => ?_⟩
  rw [List.getElem?_eraseIdx] at h1 h2
  split at h1
  · rename_i hj
    rw [if_pos hj] at h2
    exact he.2 j e e' h1 h2
  · rename_i hj
    rw [if_neg hj] at h2
    exact he.2 _ e e' h1 h2
/-- A plain key is as itself. -/
theorem sameBits_ok {kt : TypeId} {k : V} {x : Value} (hkf : keyFit P kt k = true) (hx : VR ρ k x) : Instr.sameBits 10000 x x = true := by
  rcases keyFit_inv hkf with ⟨⟨kk, e1⟩, j, n, rfl⟩ | ⟨e1, l, rfl⟩ | ⟨⟨fs, e1⟩, ⟨l, rfl⟩, hf⟩
  · rw [hx.i_inv]; unfold Instr.sameBits; simp
  · obtain ⟨s, rfl, _⟩ := hx.s_inv
    unfold Instr.sameBits
    rw [bytes_beq]
    simp
  · obtain ⟨cs, rfl, hl⟩ := hx.agg_inv
    rcases eqT_inv hf with ⟨e2, _⟩ | ⟨⟨e', e2⟩, _⟩ | ⟨e2, _⟩ | ⟨⟨e', e2⟩, _⟩ | ⟨⟨k', e', e2⟩, _⟩ | ⟨e2, _⟩ | ⟨fs', m, e2, e3, t1, t2, t3⟩ <;> first | (rw [e1] at e2; cases e2; done) | skip
    injection e3 with e3
    subst e3
    unfold Instr.sameBits
    dsimp only
    rw [Bool.and_eq_true]
    refine ⟨by simp, List.all_eq_true.2 fun q hq => ?_⟩
    obtain ⟨i, hi⟩ := List.getElem?_of_mem hq
    rw [List.getElem?_zip_eq_some] at hi
    obtain ⟨h1, h2⟩ := hi
    have hlt := (List.getElem?_eq_some_iff.1 h1).1
    have hll := hl.1
    obtain ⟨v, hv⟩ : ∃ v, l[i]? = some v := ⟨_, List.getElem?_eq_getElem (by omega)⟩
    obtain ⟨f, hf'⟩ : ∃ f, fs'[i]? = some f := ⟨_, List.getElem?_eq_getElem (by omega)⟩
    have g1 : fit1 (udAt P f.2) v = true := List.all_eq_true.1 t3 (f, v) (List.mem_of_getElem? (i := i) (by rw [List.getElem?_zip_eq_some]; exact ⟨hf', hv⟩))
    have hvr := hl.2 i v q.1 hv h1
    have hq2 : q.2 = q.1 := by rw [h1] at h2; injection h2 with h2; exact h2.symm
    rw [hq2]
    rcases fit1_inv g1 hvr with ⟨_, n, _, j, e9, _⟩ | ⟨n, _, e9, _⟩ | ⟨n, _, _, e9, _⟩ <;> rw [e9] <;> unfold Instr.sameBits
    · simp
    · simp
    · rw [bytes_beq]; simp
theorem oMapUpd_run {t : TypeId} {x y z : Operand} (hk : oMapUpd P t x y z fr h K = true) : ∃ h', K .u h' = true ∧ ∀ (ρ : Ren) (a : Act) (w : World), FR ρ fr a → Sat ρ h w → ∃ w', (Instr.mapUpdate t (a.eval x) (a.eval y) (a.eval z)).run P w = .ok () w' ∧ Sat ρ h' w' ∧ Step ρ h w ρ h' w' := by
  unfold oMapUpd at hk
  split at hk <;> first | (cases hk; done) | skip
  rename_i kt e hu
  obtain ⟨g1, hk⟩ := recB_false hk
  have hm := und_map hu
  split at hk <;> first | (cases hk; done) | skip
  rename_i b hx
  obtain ⟨es, cl, hb, hk⟩ := O.m_inv hk
  obtain ⟨r, hk, hb2, hf⟩ := findKey_ok g1 hk
  have hnz : h.get b ≠ .z := by rw [hb]; simp
  cases r with
  | none =>
    dsimp only at hk
    rw [H.put_eq] at hk
    refine ⟨_, hk, fun ρ a w f s => ?_⟩
    have hv := f.opd x
    rw [hx] at hv
    obtain ⟨hbn, ev⟩ := hv.m_inv
    obtain ⟨_, es', hh, her⟩ := s.map hb
    have hlt : ρ.π b < w.heap.size := (Array.getElem?_eq_some_iff.1 hh).1
    obtain ⟨r', fr', hfk⟩ := hf ρ w es'.toList _ her (f.opd y)
    rcases fr' with ⟨_, rfl⟩ | ⟨i, v, x', e', _⟩
    · have ho : OR ρ { w with heap := w.heap.setIfInBounds (ρ.π b) (.map (es'.push { key := a.eval y, val := a.eval z, born := cl }) (cl + 1)) } b (.mp (es ++ [(opd y fr, opd z fr, cl)]) (cl + 1)) := by
        refine OR.mp_of hbn hlt ?_
        rw [Array.toList_push]
        exact her.push (f.opd y) (f.opd z)
      obtain ⟨a1, a2⟩ := s.setObj hnz ho
      refine ⟨_, ?_, a1, a2⟩
      simp only [ev, Instr.mapUpdate, Sem.run_bind, run_und hm, Result.andThen_ok, run_getObj hh, checkKey_ok g1 (f.opd y), hfk, run_setObj hh]
    · cases e'
  | some q =>
    obtain ⟨j, v⟩ := q
    dsimp only at hk
    rw [H.put_eq] at hk
    refine ⟨_, hk, fun ρ a w f s => ?_⟩
    have hv := f.opd x
    rw [hx] at hv
    obtain ⟨hbn, ev⟩ := hv.m_inv
    obtain ⟨_, es', hh, her⟩ := s.map hb
    have hlt : ρ.π b < w.heap.size := (Array.getElem?_eq_some_iff.1 hh).1
    obtain ⟨r', fr', hfk⟩ := hf ρ w es'.toList _ her (f.opd y)
    rcases fr' with ⟨e', _⟩ | ⟨i, v', x', e', rfl, _⟩
    · cases e'
    · injection e' with e'
      injection e' with e1 e2
      subst e1
      obtain ⟨e0, k1, k2⟩ := hb2 j v rfl
      have hjl := (List.getElem?_eq_some_iff.1 k1).1
      have hel := her.1
      obtain ⟨e0', k3⟩ : ∃ e0', es'.toList[j]? = some e0' := ⟨_, List.getElem?_eq_getElem (by omega)⟩
      have hvk := (her.2 j e0 e0' k1 k3).1
      have heq : a.eval y = e0'.key := (keyEq_ok k2 (f.opd y) hvk).1 rfl
      have k4 : es'[j]? = some e0' := by simpa using k3
      have hst : (Instr.keyThatStays (((es'[j]?).map (·.key)).getD (a.eval y)) (a.eval y)).run P w = .ok (a.eval y) w := by
        rw [k4]
        simp only [Option.map_some, Option.getD_some, ← heq]
        unfold Instr.keyThatStays
        rw [if_pos (sameBits_ok g1 (f.opd y))]
        rfl
      have ho : OR ρ { w with heap := w.heap.setIfInBounds (ρ.π b) (.map (es'.modify j fun e => { e with key := a.eval y, val := a.eval z }) cl) } b (.mp (setAt j (opd y fr) (opd z fr) es) cl) := by
        refine OR.mp_of hbn hlt ?_
        rw [Array.toList_modify]
        exact her.set j (f.opd y) (f.opd z)
      obtain ⟨a1, a2⟩ := s.setObj hnz ho
      refine ⟨_, ?_, a1, a2⟩
      simp only [ev, Instr.mapUpdate, Sem.run_bind, run_und hm, Result.andThen_ok, run_getObj hh, checkKey_ok g1 (f.opd y), hfk, hst, run_setObj hh]
theorem oMapUpd_ok {t : TypeId} {x y z : Operand} (hk : oMapUpd P t x y z fr h K = true) : OpOK P (.mapUpdate t x y z) fr h K := by
  obtain ⟨h', hk, hr⟩ := oMapUpd_run hk
  refine ⟨_, _, hk, fun ρ a w o' next Q ho f s kn => ?_⟩
  obtain ⟨w', e1, e2, e3⟩ := hr ρ a w f s
  refine wp_skp (w' := w') ?_ (kn _ _ _ (.u _) e2 e3)
  simp only [execOp, ho, Sem.run_bind, e1, Result.andThen_ok, Sem.run_pure]
theorem oInsert_ok {t : TypeId} {x y z : Operand} (hk : oMapUpd P t x y z fr h K = true) : OpOK P (.insert t x y z) fr h K := by
  obtain ⟨h', hk, hr⟩ := oMapUpd_run hk
  refine ⟨_, _, hk, fun ρ a w o' next Q ho f s kn => ?_⟩
  obtain ⟨w', e1, e2, e3⟩ := hr ρ a w f s
  refine wp_skp (w' := w') ?_ (kn _ _ _ (.u _) e2 e3)
  simp only [execOp, ho, Sem.run_bind, e1, Result.andThen_ok, Sem.run_pure]
theorem isIfc_inv {u : UD} (h : u.isIfc = true) : u ≠ .oth ∧ u ≠ .ifc := by
  unfold UD.isIfc at h
  split at h <;> first | (cases h; done) | (rename_i h2 h3; exact ⟨h3, h2⟩)
theorem oAssert_ok {t u : TypeId} {x : Operand} {ok : Bool} (hk : oAssert P x t ok fr h K = true) : OpOK P (.typeAssert x u t ok) fr h K := by
  obtain ⟨g1, hk⟩ := recB_false hk
  obtain ⟨g1, g2⟩ := and2 g1
  obtain ⟨n1, n2⟩ := isIfc_inv g1
  obtain ⟨d, hd, hu⟩ := und_some' n1
  obtain ⟨i, z, hi, e1, hz, _, hzv⟩ := zero_ok (P := P) (t := t) (ble_le g2)
  have run : ∀ (w : World) (y : Value), (∀ d', d = .interface d' → False) → (Instr.typeAssert y u t ok).run P w = (match y with
      | .nilIface => if ok then Result.ok (.tuple #[z, .bool false]) w else (Instr.typeAssert y u t ok).run P w
      | .iface t' v => if t' = t then .ok (if ok then .tuple #[v, .bool true] else v) w else if ok then .ok (.tuple #[z, .bool false]) w else (Instr.typeAssert y u t ok).run P w
      | _ => (Instr.typeAssert y u t ok).run P w) := by
    intro w y hne
    cases y with
    | nilIface =>
      cases ok with
      | false => rfl
      | true =>
        unfold Instr.typeAssert
        simp only [Sem.run_bind, run_und hd, Result.andThen_ok]
        cases d <;> first | exact (hne _ rfl).elim | (simp [hz])
    | iface t' v =>
      by_cases ht : t' = t
      · subst ht
        unfold Instr.typeAssert
        simp only [Sem.run_bind, run_und hd, Result.andThen_ok]
        cases d <;> first | exact (hne _ rfl).elim | (simp only [if_true]; cases ok <;> rfl)
      · cases ok with
        | false => simp only [ht, if_false, Bool.false_eq_true]
        | true =>
          unfold Instr.typeAssert
          simp only [Sem.run_bind, run_und hd, Result.andThen_ok]
          cases d <;> first | exact (hne _ rfl).elim | (simp [ht, hz])
    | _ => rfl
  have hne : ∀ d', d = .interface d' → False := fun d' e => by rw [e] at hu; exact n2 hu.symm
  split at hk <;> first | (cases hk; done) | skip
  · rename_i d' v hx
    have hxr : ∀ (ρ : Ren) (a : Act), FR ρ fr a → ∃ y, a.eval x = .iface d' y ∧ VR ρ v y := by
      intro ρ a f
      have hv := f.opd x
      rw [hx] at hv
      generalize a.eval x = q at hv
      cases hv with
      | ic hv => exact ⟨_, rfl, hv⟩
    split at hk <;> first | (cases hk; done) | skip
    · rename_i hdt _
      have hdt := beq_eq hdt
      refine ⟨_, _, hk, fun ρ a w o' next Q ho f s kn => ?_⟩
      obtain ⟨y, ey, hy⟩ := hxr ρ a f
      refine wp_val (x := .tuple #[y, .bool true]) (w' := w) ?_ (kn _ _ _ (VR.tup' (.cons hy (.cons (.b _) .nil))) s (.refl _ _ _))
      simp only [execOp, ho, ey, Sem.run_bind]
      rw [run w _ hne]
      simp only [hdt, if_true, Result.andThen_ok]
      rfl
    · rename_i hdt _
      have hdt := beq_eq hdt
      refine ⟨_, _, hk, fun ρ a w o' next Q ho f s kn => ?_⟩
      obtain ⟨y, ey, hy⟩ := hxr ρ a f
      refine wp_val (x := y) (w' := w) ?_ (kn _ _ _ hy s (.refl _ _ _))
      simp only [execOp, ho, ey, Sem.run_bind]
      rw [run w _ hne]
      simp only [hdt, if_true, Result.andThen_ok, Bool.false_eq_true, if_false]
      rfl
    · rename_i hdt _
      have hdt : ¬ d' = t := fun e => by rw [e] at hdt; simp at hdt
      refine ⟨_, _, hk, fun ρ a w o' next Q ho f s kn => ?_⟩
      obtain ⟨y, ey, hy⟩ := hxr ρ a f
      refine wp_val (x := .tuple #[z, .bool false]) (w' := w) ?_ (kn _ _ _ (VR.tup' (.cons (hzv ρ) (.cons (.b _) .nil))) s (.refl _ _ _))
      simp only [execOp, ho, ey, Sem.run_bind]
      rw [run w _ hne]
      simp only [hdt, if_true, Result.andThen_ok, if_false]
      rfl
  · rename_i hx
    split at hk <;> first | (cases hk; done) | skip
    refine ⟨_, _, hk, fun ρ a w o' next Q ho f s kn => ?_⟩
    have hv := f.opd x
    rw [hx] at hv
    generalize ea : a.eval x = q at hv
    cases hv
    refine wp_val (x := .tuple #[z, .bool false]) (w' := w) ?_ (kn _ _ _ (VR.tup' (.cons (hzv ρ) (.cons (.b _) .nil))) s (.refl _ _ _))
    simp only [execOp, ho, ea, Sem.run_bind]
    rw [run w _ hne]
    simp only [if_true, Result.andThen_ok]
    rfl
end
end Go.Proofs.YtphfekkllibphaaGreatDoor.Ev
