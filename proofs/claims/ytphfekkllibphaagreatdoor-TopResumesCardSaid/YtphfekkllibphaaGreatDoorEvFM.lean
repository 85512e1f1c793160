/- The reckoner: operations (4): equality, keys.  The reckoner: operations (5): comparisons whole, maps' keys. -/
import Derived.Test.YtphfekkllibphaaGreatDoorEvQM
import Derived.Laws.StructEq
namespace Go.Proofs.YtphfekkllibphaaGreatDoor.Ev
open Go Go.RowKit

section
variable {P : Program} {ρ : Ren} {fr : Fr} {a : Act} {h : H} {K : KT} {w : World}
theorem eqV_ok {a b : V} {c : Bool} {x y : Value} (h : eqV a b = some c) (hx : VR ρ a x) (hy : VR ρ b y) : c = true ↔ x = y := by
  unfold eqV at h
  split at h
  · rw [hx.i_inv, hy.i_inv]
    split at h <;> first | (cases h; done) | skip
    rename_i hk
    injection h with h
    rw [← h, of_decide_eq_true hk]
    simp
  · rw [hx.b_inv, hy.b_inv]
    injection h with h
    rw [← h]
    simp
  · split at h <;> first | (cases h; done) | skip
    rename_i hk
    injection h with h
    simp only [Bool.and_eq_true, decide_eq_true_eq] at hk
    obtain ⟨⟨h1, h2⟩, h3⟩ := hk
    have h2' := Nat.eq_of_beq_eq_true h2
    subst h1 h2' h3
    cases hx
    cases hy
    rw [← h]
    simp
  all_goals first
    | (cases h; done)
    | (injection h with h; subst h; cases hx <;> cases hy <;> simp; done)
theorem eqLW_ok {f : V → V → Option Bool} (hf : ∀ {a b : V} {c : Bool} {x y : Value}, f a b = some c → VR ρ a x → VR ρ b y → (c = true ↔ x = y)) :
    ∀ {l m : List V} {xs ys : List Value} {c : Bool}, eqLW f l m = some c → LR ρ l xs → LR ρ m ys → (c = true ↔ xs = ys) := by
  intro l
  induction l with
  | nil =>
    intro m xs ys c h hl hm
    have hx : xs = [] := List.eq_nil_of_length_eq_zero (by rw [← hl.1]; rfl)
    subst hx
    cases m with
    | nil =>
      have hy : ys = [] := List.eq_nil_of_length_eq_zero (by rw [← hm.1]; rfl)
      injection h with h
      simp [← h, hy]
    | cons b m =>
      injection h with h
      cases ys with
      | nil => have := hm.1; simp at this
      | cons y ys => simp [← h]
  | cons a l ih =>
    intro m xs ys c h hl hm
    cases xs with
    | nil => have := hl.1; simp at this
    | cons x xs =>
      have hx : VR ρ a x := hl.2 0 a x rfl rfl
      have hl' : LR ρ l xs := ⟨by have := hl.1; simpa using this, fun i v z hv hz => hl.2 (i + 1) v z (by simpa using hv) (by simpa using hz)⟩
      cases m with
      | nil =>
        have hy : ys = [] := List.eq_nil_of_length_eq_zero (by rw [← hm.1]; rfl)
        injection h with h
        simp [← h, hy]
      | cons b m =>
        cases ys with
        | nil => have := hm.1; simp at this
        | cons y ys =>
          have hy : VR ρ b y := hm.2 0 b y rfl rfl
          have hm' : LR ρ m ys := ⟨by have := hm.1; simpa using this, fun i v z hv hz => hm.2 (i + 1) v z (by simpa using hv) (by simpa using hz)⟩
          have h' : (match f a b with | some true => eqLW f l m | r => r) = some c := h
          cases hab : f a b with
          | none => rw [hab] at h'; cases h'
          | some d =>
            have hd := hf hab hx hy
            rw [hab] at h'
            cases d with
            | true =>
              have := ih h' hl' hm'
              rw [this]
              simp [hd.1 rfl]
            | false =>
              injection h' with h'
              subst h'
              have : ¬ x = y := fun e => by have := hd.2 e; cases this
              simp [this]
/-- A text's bytes. -/
theorem VR.s_inv {l : List V} {x : Value} (h : VR ρ (.s l) x) : ∃ s : ByteArray, x = .string s ∧ LR ρ l (s.data.toList.map fun c => .int .u8 c.toNat) := by
  cases h with
  | s hn hh =>
    rename_i s'
    refine ⟨_, rfl, ?_, fun i v x hv hx => ?_⟩
    · rw [hn, List.length_map]
      cases s'; exact (Array.length_toList).symm
    · rw [List.getElem?_map, Array.getElem?_toList] at hx
      obtain ⟨c, hc, rfl⟩ := Option.map_eq_some_iff.1 hx
      exact hh i v c hv hc
theorem VR.s' {l : List V} {s : ByteArray} (h : LR ρ l (s.data.toList.map fun c => .int .u8 c.toNat)) : VR ρ (.s l) (.string s) := by
  refine .s ?_ (fun i v c hv hc => h.2 i v _ hv (by rw [List.getElem?_map, Array.getElem?_toList, hc]; rfl))
  have := h.1
  rw [List.length_map] at this
  rw [this]
  cases s; exact Array.length_toList
theorem bytes_inj {s t : ByteArray} (h : (s.data.toList.map fun c => Value.int .u8 (c.toNat : Int)) = t.data.toList.map fun c => Value.int .u8 (c.toNat : Int)) : s = t := by
  have : s.data.toList = t.data.toList := by
    refine List.map_inj_right (f := fun c : UInt8 => Value.int .u8 (c.toNat : Int)) (fun a b e => ?_) |>.1 h
    injection e with _ e
    exact UInt8.toNat_inj.1 (by exact_mod_cast e)
  cases s; cases t
  congr 1
  exact Array.toList_inj.1 this
theorem eqS_ok {l m : List V} {s t : ByteArray} {c : Bool} (h : eqLW eqV l m = some c) (hl : LR ρ l (s.data.toList.map fun c => .int .u8 c.toNat)) (hm : LR ρ m (t.data.toList.map fun c => .int .u8 c.toNat)) : c = true ↔ s = t := by
  rw [eqLW_ok eqV_ok h hl hm]
  exact ⟨bytes_inj, fun e => by rw [e]⟩
theorem eqV1_ok {a b : V} {c : Bool} {x y : Value} (h : eqV1 a b = some c) (hx : VR ρ a x) (hy : VR ρ b y) : c = true ↔ x = y := by
  unfold eqV1 at h
  split at h
  · split at h <;> first | (cases h; done) | skip
    obtain ⟨s, rfl, hl⟩ := hx.s_inv
    obtain ⟨t, rfl, hm⟩ := hy.s_inv
    rw [eqS_ok h hl hm]
    simp
  · exact eqV_ok h hx hy
theorem keyEq_ok {a b : V} {c : Bool} {x y : Value} (h : keyEq a b = some c) (hx : VR ρ a x) (hy : VR ρ b y) : c = true ↔ x = y := by
  unfold keyEq at h
  split at h
  · split at h <;> first | (cases h; done) | skip
    obtain ⟨s, rfl, hl⟩ := hx.agg_inv
    obtain ⟨t, rfl, hm⟩ := hy.agg_inv
    rw [eqLW_ok eqV1_ok h hl hm]
    simp
  · exact eqV1_ok h hx hy
theorem toList_beq (s t : ByteArray) : (s.toList == t.toList) = decide (s = t) := by
  rw [ByteArray.toList_eq, ByteArray.toList_eq]
  cases s; cases t
  rw [Bool.eq_iff_iff]
  simp
theorem fit1_inv {u : UD} {v : V} {x : Value} (h : fit1 u v = true) (hv : VR ρ v x) : (∃ k n, u = .int k ∧ ∃ j, x = .int j n ∧ (v = .i j n ∨ ∃ a c, v = .x j a c)) ∨ (∃ n, u = .bool ∧ x = .bool n ∧ v = .b n) ∨ (∃ n l, u = .str ∧ x = .string n ∧ v = .s l) := by
  unfold fit1 at h
  split at h <;> first | (cases h; done) | skip
  · exact .inl ⟨_, _, rfl, _, hv.i_inv, .inl rfl⟩
  · cases hv; exact .inl ⟨_, _, rfl, _, rfl, .inr ⟨_, _, rfl⟩⟩
  · exact .inr (.inl ⟨_, rfl, hv.b_inv, rfl⟩)
  · obtain ⟨s, e, _⟩ := hv.s_inv
    exact .inr (.inr ⟨_, _, rfl, e, rfl⟩)
theorem udAt_und {t : TypeId} {u : UD} (hu' : udAt P t = u) (hne : u ≠ .oth) : ∃ dd, P.underlying t = some dd ∧ udOf dd = u := by
  unfold udAt at hu'
  cases hi : P.types[t]? with
  | none => rw [hi] at hu'; exact absurd hu'.symm hne
  | some i =>
    rw [hi] at hu'
    have hlt : t < P.types.size := (Array.getElem?_eq_some_iff.1 hi).1
    have hinfo : P.info? t = some i := by unfold Tables.info?; rw [if_pos hlt, hi]
    have : (tiOf P t i).und = u := hu'
    obtain ⟨dd, h1, h2⟩ := udOf_und hinfo (by rw [this]; exact hne)
    exact ⟨dd, h1, h2.trans this⟩
/-- Plain fields that fit compare. -/
theorem simple_eq {t : TypeId} (d : Nat) {c : Bool} {a b : V} {x y : Value} (h : eqV1 a b = some c) (hx : VR ρ a x) (hy : VR ρ b y) (fa : fit1 (udAt P t) a = true) (fb : fit1 (udAt P t) b = true) :
    (Op.equalIn (d + 1) t x y).run P w = .ok c w := by
  have hc := eqV1_ok h hx hy
  rcases fit1_inv fa hx with ⟨k, n, e, j, rfl, hva⟩ | ⟨n, e, rfl, rfl⟩ | ⟨n, l, e, rfl, rfl⟩
  · rcases fit1_inv fb hy with ⟨k', n', e', j', rfl, hvb⟩ | ⟨n', e', _⟩ | ⟨n', l', e', _⟩ <;> first | (rw [e] at e'; cases e'; done) | skip
    have hjj : j = j' := by
      by_cases hj : j = j'
      · exact hj
      · rcases hva with rfl | ⟨a1, c1, rfl⟩ <;> rcases hvb with rfl | ⟨a2, c2, rfl⟩ <;> first | (cases h; done) | skip
        · have h' : (match decide (j = j') with | true => some (decide (n = n')) | false => none) = some c := h
          rw [decide_eq_false hj] at h'
          cases h'
        · have h' : (match decide (j = j') && Nat.beq a1 a2 && decide (c1 = c2) with | true => some true | false => none) = some c := h
          rw [decide_eq_false hj] at h'
          cases h'
    subst hjj
    obtain ⟨dd, h1, h2⟩ := udAt_und e (by simp)
    cases dd <;> simp only [udOf, reduceCtorEq, UD.int.injEq] at h2
    rw [run_equalIn_int w d t j _ n n' h1]
    congr 1
    rw [Bool.eq_iff_iff]
    simp at hc ⊢
    exact hc.symm
  · rcases fit1_inv fb hy with ⟨k', n', e', j', _⟩ | ⟨n', e', rfl, rfl⟩ | ⟨n', l', e', _⟩ <;> first | (rw [e] at e'; cases e'; done) | skip
    obtain ⟨dd, h1, h2⟩ := udAt_und e (by simp)
    cases dd <;> simp only [udOf, reduceCtorEq] at h2
    rw [run_equalIn_bool' w d t n n' h1]
    congr 1
    rw [Bool.eq_iff_iff]
    simp at hc ⊢
    exact hc.symm
  · rcases fit1_inv fb hy with ⟨k', n', e', j', _⟩ | ⟨n', e', _⟩ | ⟨n', l', e', rfl, rfl⟩ <;> first | (rw [e] at e'; cases e'; done) | skip
    obtain ⟨dd, h1, h2⟩ := udAt_und e (by simp)
    cases dd <;> simp only [udOf, reduceCtorEq] at h2
    rw [run_equalIn_string w d t n n' h1, toList_beq]
    congr 1
    rw [Bool.eq_iff_iff]
    simp at hc ⊢
    exact hc.symm
theorem fit1_agg {u : UD} {v : V} {x : Value} (h : fit1 u v = true) (hv : VR ρ v x) : u.isAgg = false := by
  rcases fit1_inv h hv with ⟨_, _, e, _⟩ | ⟨_, e, _⟩ | ⟨_, _, e, _⟩ <;> rw [e] <;> rfl
/-- A plain part of a struct. -/
theorem part_plain {t : TypeId} {cs : Array Value} {j : Nat} {v : V} {x : Value} (hf : fit1 (udAt P t) v = true) (hv : VR ρ v x) (hx : cs[j]? = some x) : (part t cs j).run P w = .ok x w := by
  have hne : udAt P t ≠ .oth := by
    rcases fit1_inv hf hv with ⟨_, _, e, _⟩ | ⟨_, e, _⟩ | ⟨_, _, e, _⟩ <;> rw [e] <;> simp
  obtain ⟨dd, h1, h2⟩ := udAt_und rfl hne
  have ha := fit1_agg hf hv
  rw [← h2] at ha
  have e1 : (isAgg t).run P w = .ok false w := by
    simp only [isAgg, Sem.run_bind, run_und h1, Result.andThen_ok]
    cases dd <;> first | rfl | (cases ha; done)
  simp [part, e1, hx]
theorem eqFields_ok (d : Nat) : ∀ (fs : List Field) (k : Nat) (l m : List V) (cs ds : Array Value) (c : Bool), (∀ (j : Nat) (f : Field), fs[j]? = some f → f.offset = k + j ∧ (f.name != "_") = true) →
    LR ρ l (cs.toList.drop k) → LR ρ m (ds.toList.drop k) → fs.length = l.length → fs.length = m.length →
    (∀ (j : Nat) (f : Field) (v : V), fs[j]? = some f → l[j]? = some v → fit1 (udAt P f.type) v = true) → (∀ (j : Nat) (f : Field) (v : V), fs[j]? = some f → m[j]? = some v → fit1 (udAt P f.type) v = true) →
    eqLW eqV1 l m = some c → (Op.eqFields (d + 1) cs ds fs).run P w = .ok c w := by
  intro fs
  induction fs with
  | nil =>
    intro k l m cs ds c _ _ _ hll hlm _ _ he
    have e1 : l = [] := List.eq_nil_of_length_eq_zero hll.symm
    have e2 : m = [] := List.eq_nil_of_length_eq_zero hlm.symm
    subst e1 e2
    injection he with he
    subst he
    rfl
  | cons f fs ih =>
    intro k l m cs ds c hf hl hm hll hlm fl fm he
    obtain ⟨v, l, rfl⟩ : ∃ v l', l = v :: l' := by cases l with | nil => simp at hll | cons v l => exact ⟨v, l, rfl⟩
    obtain ⟨v2, m, rfl⟩ : ∃ v l', m = v :: l' := by cases m with | nil => simp at hlm | cons v l => exact ⟨v, l, rfl⟩
    obtain ⟨x, hx, hvx⟩ := hl.at_ (i := 0) rfl
    obtain ⟨y, hy, hvy⟩ := hm.at_ (i := 0) rfl
    rw [List.getElem?_drop, Nat.add_zero, Array.getElem?_toList] at hx hy
    have f0 := hf 0 f rfl
    have g1 := fl 0 f v rfl rfl
    have g2 := fm 0 f v2 rfl rfl
    have h' : (match eqV1 v v2 with | some true => eqLW eqV1 l m | r => r) = some c := he
    have hn : f.name ≠ "_" := by have := f0.2; simpa using this
    rw [Nat.add_zero] at f0
    cases hq : eqV1 v v2 with
    | none => rw [hq] at h'; cases h'
    | some q =>
      rw [hq] at h'
      have e3 := simple_eq (w := w) d hq hvx hvy g1 g2
      simp only [Op.eqFields, hn, ne_eq, not_false_eq_true, if_true, Sem.run_bind, f0.1, part_plain g1 hvx hx, part_plain g2 hvy hy, Result.andThen_ok, e3, Sem.run_ite]
      cases q with
      | false =>
        injection h' with h'
        subst h'
        simp
      | true =>
        simp only [Bool.not_true, Bool.false_eq_true, if_false]
        refine ih (k + 1) l m cs ds c (fun j f' hj => ?_) ?_ ?_ (by simpa using hll) (by simpa using hlm) (fun j f' v' hj hv' => fl (j + 1) f' v' (by simpa using hj) (by simpa using hv')) (fun j f' v' hj hv' => fm (j + 1) f' v' (by simpa using hj) (by simpa using hv')) h'
        · have := hf (j + 1) f' (by simpa using hj)
          exact ⟨by rw [this.1]; omega, this.2⟩
        · have := hl.drop 1
          rwa [List.drop_drop, show k + 1 = k + 1 from rfl] at this
        · have := hm.drop 1
          rwa [List.drop_drop] at this
end
end Go.Proofs.YtphfekkllibphaaGreatDoor.Ev
namespace Go.Proofs.YtphfekkllibphaaGreatDoor.Ev
open Go Go.RowKit

section
variable {P : Program} {ρ : Ren} {fr : Fr} {a : Act} {h : H} {K : KT} {w : World}
theorem onO_inv {o : Option Bool} {K : Bool → Bool} (h : onO o K = true) : ∃ x, o = some x ∧ K x = true := by
  cases o with
  | none => cases h
  | some x => exact ⟨x, rfl, h⟩
/-- A struct type of plain things. -/
theorem seq_und {t : TypeId} (h : (ti P t).seq = true) : ∃ fields : Array Field, P.underlying t = some (.struct fields) ∧ (ti P t).und = .struct (fields.toList.map fun f => (f.offset, f.type)) ∧ P.stoodInHeld t = false ∧ P.eqGuardType P.depth t = false ∧
    (∀ (j : Nat) (f : Field), fields.toList[j]? = some f → f.offset = j ∧ (f.name != "_") = true) := by
  rcases ti_cases P t with e | ⟨i, hi, e⟩
  · rw [e] at h; cases h
  · rw [e] at h ⊢
    have h' : seqOf P t (descOf P i) = true := h
    unfold seqOf at h'
    split at h' <;> first | (cases h'; done) | skip
    rename_i fs hd
    obtain ⟨h', h3⟩ := and2 h'
    obtain ⟨h1, h2⟩ := and2 h'
    have hu : (tiOf P t i).und = .struct (fs.toList.map fun f => (f.offset, f.type)) := by show udOf (descOf P i) = _; rw [hd]; rfl
    refine ⟨fs, ?_, hu, by simpa using h2, by simpa using h3, fun j f hj => ?_⟩
    · rw [und_desc hi (by rw [hd]; simp [udOf]), hd]
    · have := List.all_eq_true.1 h1 (f, j) (List.mem_of_getElem? (i := j) (by rw [List.getElem?_zipIdx, hj]; simp))
      obtain ⟨k1, k2⟩ := and2 this
      obtain ⟨k1, k3⟩ := and2 k1
      exact ⟨beq_eq k1, k3⟩
theorem eqT_inv {t : TypeId} {v : V} (h : eqT P (ti P t) v = true) :
    ((ti P t).und = .bool ∧ ∃ x, v = .b x) ∨ ((∃ e, (ti P t).und = .ptr e) ∧ (v = .pn ∨ ∃ b o, v = .p b o)) ∨ ((ti P t).und = .ifc ∧ (v = .nic ∨ ∃ d y, v = .ic d y)) ∨
    ((∃ e, (ti P t).und = .sl e) ∧ (v = .sn ∨ v = .se ∨ ∃ b o l c, v = .sl b o l c)) ∨ ((∃ k e, (ti P t).und = .map k e) ∧ (v = .mn ∨ ∃ b, v = .m b)) ∨ ((ti P t).und = .func ∧ (v = .nf ∨ ∃ f l k, v = .f f l k)) ∨
    (∃ fs l, (ti P t).und = .struct fs ∧ v = .agg l ∧ (ti P t).seq = true ∧ fs.length = l.length ∧ ((fs.zip l).all fun q => fit1 (udAt P q.1.2) q.2) = true) := by
  unfold eqT at h
  split at h <;> first | (cases h; done) | skip
  · rename_i e1; exact .inl ⟨e1, _, rfl⟩
  · rename_i e1; exact .inr (.inl ⟨⟨_, e1⟩, .inl rfl⟩)
  · rename_i e1; exact .inr (.inl ⟨⟨_, e1⟩, .inr ⟨_, _, rfl⟩⟩)
  · rename_i e1; exact .inr (.inr (.inl ⟨e1, .inl rfl⟩))
  · rename_i e1; exact .inr (.inr (.inl ⟨e1, .inr ⟨_, _, rfl⟩⟩))
  · rename_i e1; exact .inr (.inr (.inr (.inl ⟨⟨_, e1⟩, .inl rfl⟩)))
  · rename_i e1; exact .inr (.inr (.inr (.inl ⟨⟨_, e1⟩, .inr (.inl rfl)⟩)))
  · rename_i e1; exact .inr (.inr (.inr (.inl ⟨⟨_, e1⟩, .inr (.inr ⟨_, _, _, _, rfl⟩)⟩)))
  · rename_i e1; exact .inr (.inr (.inr (.inr (.inl ⟨⟨_, _, e1⟩, .inl rfl⟩))))
  · rename_i e1; exact .inr (.inr (.inr (.inr (.inl ⟨⟨_, _, e1⟩, .inr ⟨_, rfl⟩⟩))))
  · rename_i e1; exact .inr (.inr (.inr (.inr (.inr (.inl ⟨e1, .inl rfl⟩)))))
  · rename_i e1; exact .inr (.inr (.inr (.inr (.inr (.inl ⟨e1, .inr ⟨_, _, _, rfl⟩⟩)))))
  · rename_i fs l e1
    obtain ⟨h1, h3⟩ := and2 h
    obtain ⟨h1, h2⟩ := and2 h1
    exact .inr (.inr (.inr (.inr (.inr (.inr ⟨_, _, e1, rfl, h1, beq_eq h2, h3⟩)))))
/-- Structs of plain things compare. -/
theorem struct_eq {t : TypeId} {fs gs : List (Nat × TypeId)} {l m : List V} {c : Bool} {cs ds : Array Value} (d : Nat) (hu : (ti P t).und = .struct fs) (hs : (ti P t).seq = true) (hfl : fs.length = l.length) (hfm : fs.length = m.length)
    (fl : ((fs.zip l).all fun q => fit1 (udAt P q.1.2) q.2) = true) (fm : ((fs.zip m).all fun q => fit1 (udAt P q.1.2) q.2) = true) (he : eqLW eqV1 l m = some c) (hl : LR ρ l cs.toList) (hm : LR ρ m ds.toList) :
    (Op.equalIn (d + 2) t (.agg cs) (.agg ds)).run P w = .ok c w := by
  obtain ⟨fields, h1, h2, h3, h4, h5⟩ := seq_und hs
  rw [hu] at h2
  injection h2 with h2
  have hfo : P.fieldsOf t = fields := by unfold Program.fieldsOf; rw [h1]
  rw [run_equalIn_struct w (d + 1) t cs ds (by rw [hfo]; exact h1) h3, hfo]
  have hlen : fields.toList.length = fs.length := by rw [h2]; simp
  have fit : ∀ {m : List V}, fs.length = m.length → ((fs.zip m).all fun q => fit1 (udAt P q.1.2) q.2) = true → ∀ (j : Nat) (f : Field) (v : V), fields.toList[j]? = some f → m[j]? = some v → fit1 (udAt P f.type) v = true := by
    intro m hfm fm j f v hj hv
    have hj' : fs[j]? = some (f.offset, f.type) := by rw [h2, List.getElem?_map, hj]; rfl
    exact List.all_eq_true.1 fm ((f.offset, f.type), v) (List.mem_of_getElem? (i := j) (by rw [List.getElem?_zip_eq_some]; exact ⟨hj', hv⟩))
  exact eqFields_ok d fields.toList 0 l m cs ds c (fun j f hj => ⟨by rw [(h5 j f hj).1]; omega, (h5 j f hj).2⟩) (by simpa using hl) (by simpa using hm) (by omega) (by omega) (fit hfl fl) (fit hfm fm) he
set_option maxRecDepth 100000 in
set_option maxHeartbeats 4000000 in
/-- Comparisons of what fits its type. -/
theorem equalIn_ok (d' : Nat) {t : TypeId} {a b : V} {c : Bool} {x y : Value} (ha : eqT P (ti P t) a = true) (hb : eqT P (ti P t) b = true) (hk : keyEq a b = some c) (hx : VR ρ a x) (hy : VR ρ b y) : (Op.equalIn (d' + 2) t x y).run P w = .ok c w := by
  have hc := keyEq_ok hk hx hy
  rcases eqT_inv ha with ⟨e1, q, rfl⟩ | ⟨⟨e, e1⟩, ha⟩ | ⟨e1, ha⟩ | ⟨⟨e, e1⟩, ha⟩ | ⟨⟨k, e, e1⟩, ha⟩ | ⟨e1, ha⟩ | ⟨fs, l, e1, rfl, s1, s2, s3⟩
  · rcases eqT_inv hb with ⟨e2, q', rfl⟩ | ⟨⟨e, e2⟩, _⟩ | ⟨e2, _⟩ | ⟨⟨e, e2⟩, _⟩ | ⟨⟨k, e, e2⟩, _⟩ | ⟨e2, _⟩ | ⟨fs, l, e2, _⟩ <;> first | (rw [e1] at e2; cases e2; done) | skip
    obtain ⟨i, d, _, _, hd, hu⟩ := ti_und e1 (by simp)
    cases d <;> simp only [udOf, reduceCtorEq] at hu
    rw [hx.b_inv, hy.b_inv] at hc ⊢
    rw [run_equalIn_bool' w _ t _ _ hd]
    congr 1
    rw [Bool.eq_iff_iff]
    simp at hc ⊢
    exact hc.symm
  · rcases eqT_inv hb with ⟨e2, _⟩ | ⟨⟨e', e2⟩, hb⟩ | ⟨e2, _⟩ | ⟨⟨e, e2⟩, _⟩ | ⟨⟨k, e, e2⟩, _⟩ | ⟨e2, _⟩ | ⟨fs, l, e2, _⟩ <;> first | (rw [e1] at e2; cases e2; done) | skip
    have hd := und_ptr e1
    rcases ha with rfl | ⟨b1, o1, rfl⟩ <;> rcases hb with rfl | ⟨b2, o2, rfl⟩ <;> first | (cases hk; done) | skip
    all_goals (cases hx; cases hy; (injection hk with hk); subst hk; (simp only [Op.equalIn, Sem.run_bind, run_und hd, Result.andThen_ok]; rfl))
  · rcases eqT_inv hb with ⟨e2, _⟩ | ⟨⟨e', e2⟩, _⟩ | ⟨e2, hb⟩ | ⟨⟨e, e2⟩, _⟩ | ⟨⟨k, e, e2⟩, _⟩ | ⟨e2, _⟩ | ⟨fs, l, e2, _⟩ <;> first | (rw [e1] at e2; cases e2; done) | skip
    obtain ⟨i, d, _, _, hd, hu⟩ := ti_und e1 (by simp)
    cases d <;> simp only [udOf, reduceCtorEq] at hu
    rcases ha with rfl | ⟨b1, o1, rfl⟩ <;> rcases hb with rfl | ⟨b2, o2, rfl⟩ <;> first | (cases hk; done) | skip
    all_goals (cases hx; cases hy; (injection hk with hk); subst hk; (simp only [Op.equalIn, Sem.run_bind, run_und hd, Result.andThen_ok]; rfl))
  · rcases eqT_inv hb with ⟨e2, _⟩ | ⟨⟨e', e2⟩, _⟩ | ⟨e2, _⟩ | ⟨⟨e', e2⟩, hb⟩ | ⟨⟨k, e, e2⟩, _⟩ | ⟨e2, _⟩ | ⟨fs, l, e2, _⟩ <;> first | (rw [e1] at e2; cases e2; done) | skip
    have hd := und_slice e1
    rcases ha with rfl | rfl | ⟨b1, o1, l1, c1, rfl⟩ <;> rcases hb with rfl | rfl | ⟨b2, o2, l2, c2, rfl⟩ <;> first | (cases hk; done) | skip
    all_goals (cases hx <;> cases hy <;> ((injection hk with hk); subst hk; (simp only [Op.equalIn, Sem.run_bind, run_und hd, Result.andThen_ok]; rfl)))
  · rcases eqT_inv hb with ⟨e2, _⟩ | ⟨⟨e', e2⟩, _⟩ | ⟨e2, _⟩ | ⟨⟨e', e2⟩, _⟩ | ⟨⟨k', e', e2⟩, hb⟩ | ⟨e2, _⟩ | ⟨fs, l, e2, _⟩ <;> first | (rw [e1] at e2; cases e2; done) | skip
    have hd := und_map e1
    rcases ha with rfl | ⟨b1, rfl⟩ <;> rcases hb with rfl | ⟨b2, rfl⟩ <;> first | (cases hk; done) | skip
    all_goals (cases hx; cases hy; (injection hk with hk); subst hk; (simp only [Op.equalIn, Sem.run_bind, run_und hd, Result.andThen_ok]; rfl))
  · rcases eqT_inv hb with ⟨e2, _⟩ | ⟨⟨e', e2⟩, _⟩ | ⟨e2, _⟩ | ⟨⟨e', e2⟩, _⟩ | ⟨⟨k', e', e2⟩, _⟩ | ⟨e2, hb⟩ | ⟨fs, l, e2, _⟩ <;> first | (rw [e1] at e2; cases e2; done) | skip
    obtain ⟨i, d, _, _, hd, hu⟩ := ti_und e1 (by simp)
    cases d <;> simp only [udOf, reduceCtorEq] at hu
    rcases ha with rfl | ⟨b1, o1, l1, rfl⟩ <;> rcases hb with rfl | ⟨b2, o2, l2, rfl⟩ <;> first | (cases hk; done) | skip
    all_goals (cases hx; cases hy; (injection hk with hk); subst hk; (simp only [Op.equalIn, Sem.run_bind, run_und hd, Result.andThen_ok]; rfl))
  · rcases eqT_inv hb with ⟨e2, _⟩ | ⟨⟨e', e2⟩, _⟩ | ⟨e2, _⟩ | ⟨⟨e', e2⟩, _⟩ | ⟨⟨k', e', e2⟩, _⟩ | ⟨e2, _⟩ | ⟨fs', m, e2, rfl, t1, t2, t3⟩ <;> first | (rw [e1] at e2; cases e2; done) | skip
    rw [e1] at e2
    injection e2 with e2
    subst e2
    obtain ⟨cs, rfl, hl⟩ := hx.agg_inv
    obtain ⟨ds, rfl, hm⟩ := hy.agg_inv
    exact struct_eq (gs := fs) d' e1 s1 s2 t2 s3 t3 hk hl hm
theorem equal_ok {t : TypeId} {a b : V} {c : Bool} {x y : Value} (ha : eqT P (ti P t) a = true) (hb : eqT P (ti P t) b = true) (hk : keyEq a b = some c) (hx : VR ρ a x) (hy : VR ρ b y) : (Op.equal t x y).run P w = .ok c w :=
  equalIn_ok 9998 ha hb hk hx hy
/-- The guard asks nothing. -/
theorem eqGuard_ok {o : BinOp} {t : TypeId} {p q : Operand} {a b : V} {x y : Value} {c : Bool} (ha : eqT P (ti P t) a = true) (hb : eqT P (ti P t) b = true) (hk : keyEq a b = some c) (hx : VR ρ a x) (hy : VR ρ b y) : (eqGuard o t p q x y).run P w = .ok () w := by
  have main : ∀ (c : Bool) (body : Sem Unit), body.run P w = .ok () w → (if (!c) = true then (pure () : Sem Unit) else body).run P w = .ok () w := by
    intro c body hb
    cases c
    · rfl
    · exact hb
  unfold eqGuard
  refine main _ _ ?_
  · rcases eqT_inv ha with ⟨e1, q, rfl⟩ | ⟨⟨e, e1⟩, ha⟩ | ⟨e1, ha⟩ | ⟨⟨e, e1⟩, ha⟩ | ⟨⟨k, e, e1⟩, ha⟩ | ⟨e1, ha⟩ | ⟨fs, l, e1, rfl, s1, s2, s3⟩
    · rw [hx.b_inv]; rfl
    · rcases ha with rfl | ⟨b1, o1, rfl⟩ <;> cases hx <;> rfl
    · rcases eqT_inv hb with ⟨e2, _⟩ | ⟨⟨e', e2⟩, _⟩ | ⟨e2, hb⟩ | ⟨⟨e, e2⟩, _⟩ | ⟨⟨k, e, e2⟩, _⟩ | ⟨e2, _⟩ | ⟨fs, l, e2, _⟩ <;> first | (rw [e1] at e2; cases e2; done) | skip
      rcases ha with rfl | ⟨b1, o1, rfl⟩ <;> rcases hb with rfl | ⟨b2, o2, rfl⟩ <;> first | (cases hk; done) | skip
      all_goals (cases hx; cases hy; rfl)
    · rcases ha with rfl | rfl | ⟨b1, o1, l1, c1, rfl⟩ <;> cases hx <;> rfl
    · rcases ha with rfl | ⟨b1, rfl⟩ <;> cases hx <;> rfl
    · rcases ha with rfl | ⟨b1, o1, l1, rfl⟩ <;> cases hx <;> rfl
    · obtain ⟨fields, h1, h2, h3, h4, h5⟩ := seq_und s1
      obtain ⟨cs, rfl, hl⟩ := hx.agg_inv
      rcases eqT_inv hb with ⟨e2, _⟩ | ⟨⟨e', e2⟩, _⟩ | ⟨e2, _⟩ | ⟨⟨e', e2⟩, _⟩ | ⟨⟨k', e', e2⟩, _⟩ | ⟨e2, _⟩ | ⟨fs', m, e2, rfl, _⟩ <;> first | (rw [e1] at e2; cases e2; done) | skip
      obtain ⟨ds, rfl, hm⟩ := hy.agg_inv
      simp [h4]
theorem binV_ok {o : BinOp} {t : TypeId} {p q : Operand} (hk : binV P o t (opd p fr) (opd q fr) h K = true) (u : TypeId) : OpOK P (.binOp o t p q u) fr h K := by
  unfold binV at hk
  obtain ⟨g0, hk⟩ := recB_false hk
  obtain ⟨g1, g2⟩ := and2 g0
  clear g0
  have run : ∀ (o : BinOp) (ρ : Ren) (a : Act) (w : World) (c : Bool), FR ρ fr a → keyEq (opd p fr) (opd q fr) = some c → (o = .eql ∨ o = .neq) →
      (do eqGuard o t p q (a.eval p) (a.eval q); binOp o t (a.eval p) (a.eval q) : Sem Value).run P w = .ok (.bool (if o = .eql then c else !c)) w := by
    intro o ρ a w c f he ho
    have e1 := eqGuard_ok (o := o) (p := p) (q := q) (w := w) g1 g2 he (f.opd p) (f.opd q)
    have e2 := equal_ok (w := w) g1 g2 he (f.opd p) (f.opd q)
    have hx := f.opd p
    have hy := f.opd q
    rw [Sem.run_bind, e1, Result.andThen_ok]
    generalize a.eval p = x at *
    generalize a.eval q = y at *
    generalize opd p fr = v at *
    generalize opd q fr = v2 at *
    have e3 : ∀ o, o = .eql ∨ o = .neq → binOp o t x y = if o = .eql then (do pure (.bool (← Op.equal t x y))) else (do pure (.bool (!(← Op.equal t x y)))) := by
      intro o ho
      rcases eqT_inv g1 with ⟨_, q, rfl⟩ | ⟨_, rfl | ⟨_, _, rfl⟩⟩ | ⟨_, rfl | ⟨_, _, rfl⟩⟩ | ⟨_, rfl | rfl | ⟨_, _, _, _, rfl⟩⟩ | ⟨_, rfl | ⟨_, rfl⟩⟩ | ⟨_, rfl | ⟨_, _, _, rfl⟩⟩ | ⟨fs, l, _, rfl, _⟩ <;> rcases ho with rfl | rfl <;> cases hx <;> simp [binOp]
    rw [e3 o ho]
    rcases ho with rfl | rfl
    · rw [if_pos rfl, if_pos rfl]; simp [e2]
    · rw [if_neg (by decide), if_neg (by decide)]; simp [e2]
  split at hk <;> first | (cases hk; done) | skip
  · obtain ⟨c, hc, hk⟩ := onO_inv hk
    refine ⟨_, _, hk, fun ρ a w o next Q ho f s kn => wp_val (x := .bool c) (w' := w) ?_ (kn _ _ _ (.b c) s (.refl _ _ _))⟩
    have := run .eql ρ a w c f hc (.inl rfl)
    simp only [execOp, ho]
    rw [Sem.run_bind, this]
    rfl
  · obtain ⟨c, hc, hk⟩ := onO_inv hk
    refine ⟨_, _, hk, fun ρ a w o next Q ho f s kn => wp_val (x := .bool (!c)) (w' := w) ?_ (kn _ _ _ (.b _) s (.refl _ _ _))⟩
    have := run .neq ρ a w c f hc (.inr rfl)
    simp only [execOp, ho]
    rw [Sem.run_bind, this]
    rfl
end
end Go.Proofs.YtphfekkllibphaaGreatDoor.Ev
