/- The reckoner: memory.  The reckoner: operations (1).  The reckoner: operations (2).  The reckoner: operations (3): numbers, texts, comparisons. -/
import Derived.Test.YtphfekkllibphaaGreatDoorEvR
import Derived.Laws.IdiomCopy
import Derived.Laws.World
namespace Go.Proofs.YtphfekkllibphaaGreatDoor.Ev
open Go Go.RowKit

section
variable {P : Program}
/-- What is told of a type is so. -/
theorem ti_cases (P : Program) (t : TypeId) : ti P t = TI.none ∨ ∃ i, P.info? t = some i ∧ ti P t = tiOf P t i := by
  unfold ti ttab
  rw [T.layK_eq]
  rcases T.get_lay (d := TI.none) (P.types.toList.zipIdx.map fun q => tiOf P q.2 q.1) (t := full TI.none (depth P.types.size)) (j := Nat.succ t) (k := 1) (by omega) (by omega) with ⟨_, _, h | h⟩ | ⟨_, h⟩
  · rw [List.getElem?_map] at h
    obtain ⟨⟨i, j⟩, hi, he⟩ := Option.map_eq_some_iff.1 h
    rw [show Nat.succ t - 1 = t from rfl, List.getElem?_zipIdx] at hi
    obtain ⟨i', hi', e9⟩ := Option.map_eq_some_iff.1 hi
    injection e9 with e8 e9
    subst e8
    rw [Nat.zero_add] at e9
    subst e9
    have hi' : P.types[t]? = some i' := by simpa using hi'
    refine .inr ⟨i', ?_, he.symm⟩
    unfold Tables.info?
    have : t < P.types.size := (Array.getElem?_eq_some_iff.1 hi').1
    rw [if_pos this, hi']
  · exact .inl h
  · rw [h]
    rcases T.get_full TI.none TI.none (depth P.types.size) (Nat.succ t) with h | h <;> exact .inl h
theorem und_desc {P : Program} {t : TypeId} {i : TypeInfo} (hi : P.info? t = some i) (hu : udOf (descOf P i) ≠ .oth) : P.underlying t = some (descOf P i) := by
  unfold Program.underlying
  rw [hi]
  obtain ⟨desc, str, size, bytes, hp, al, fa, zero, cmp, ms⟩ := i
  cases desc with
  | named nm u =>
    simp only [descOf] at hu ⊢
    cases hx : P.types[u]? with
    | none => rw [hx] at hu; exact absurd rfl hu
    | some j =>
      have : u < P.types.size := (Array.getElem?_eq_some_iff.1 hx).1
      have e9 : P.info? u = some j := by unfold Tables.info?; rw [if_pos this, hx]
      simp [e9]
  | _ => rfl
theorem udOf_und {P : Program} {t : TypeId} {i : TypeInfo} (hi : P.info? t = some i) (hu : (tiOf P t i).und ≠ .oth) : ∃ d, P.underlying t = some d ∧ udOf d = (tiOf P t i).und :=
  ⟨_, und_desc hi hu, rfl⟩
theorem ti_und {t : TypeId} {u : UD} (h : (ti P t).und = u) (hu : u ≠ .oth) : ∃ i d, P.info? t = some i ∧ ti P t = tiOf P t i ∧ P.underlying t = some d ∧ udOf d = u := by
  rcases ti_cases P t with e | ⟨i, hi, e⟩
  · rw [e] at h
    exact absurd h.symm hu
  · rw [e] at h
    obtain ⟨d, hd, he⟩ := udOf_und hi (by rw [h]; exact hu)
    exact ⟨i, d, hi, e, hd, he.trans h⟩
theorem ti_size {t : TypeId} (h : 1 ≤ (ti P t).size) : ∃ i, P.info? t = some i ∧ ti P t = tiOf P t i := by
  rcases ti_cases P t with e | h'
  · rw [e] at h; exact absurd h (by decide)
  · exact h'
variable {w : World}
theorem run_typeInfo {t : TypeId} {i : TypeInfo} (h : P.info? t = some i) : (typeInfo t).run P w = .ok i w := by simp [typeInfo, h]
theorem run_und {t : TypeId} {d : TypeDesc} (h : P.underlying t = some d) : (underlying t).run P w = .ok d w := by simp [underlying, h]
theorem run_sizeOf {t : TypeId} {i : TypeInfo} (h : P.info? t = some i) : (sizeOf t).run P w = .ok i.size w := by simp [sizeOf, run_typeInfo h]
theorem run_size {t : TypeId} (h : 1 ≤ (ti P t).size) : (sizeOf t).run P w = .ok (ti P t).size w := by
  obtain ⟨i, hi, e⟩ := ti_size h
  rw [run_sizeOf hi, e]
  rfl
theorem tiOf_agg (P : Program) (t : TypeId) (i : TypeInfo) : (tiOf P t i).agg = (tiOf P t i).und.isAgg := rfl
/-- A struct or an array. -/
theorem run_isAgg_true {t : TypeId} (h : (ti P t).agg = true) : (isAgg t).run P w = .ok true w ∧ (sizeOf t).run P w = .ok (ti P t).size w := by
  rcases ti_cases P t with e | ⟨i, hi, e⟩
  · rw [e] at h; cases h
  · rw [e, tiOf_agg] at h
    obtain ⟨d, hd, hu⟩ := udOf_und (P := P) hi (by intro e; rw [e] at h; cases h)
    rw [← hu] at h
    refine ⟨?_, by rw [run_sizeOf hi, e]; rfl⟩
    simp only [isAgg, Sem.run_bind, run_und hd, Result.andThen_ok]
    cases d <;> first | rfl | (cases h; done)
/-- A type of one cell is no struct. -/
theorem run_isAgg_false {t : TypeId} (h : (ti P t).one = true) : (isAgg t).run P w = .ok false w ∧ (sizeOf t).run P w = .ok 1 w := by
  rcases ti_cases P t with e | ⟨i, hi, e⟩
  · rw [e] at h; cases h
  · rw [e] at h
    have h' : (Nat.beq i.size 1 && (tiOf P t i).und.isOne) = true := h
    rw [Bool.and_eq_true] at h'
    have h2 := h'.2
    obtain ⟨d, hd, hu⟩ := udOf_und (P := P) hi (by intro e; rw [e] at h2; cases h2)
    rw [← hu] at h2
    refine ⟨?_, by rw [run_sizeOf hi, Nat.eq_of_beq_eq_true h'.1]⟩
    simp only [isAgg, Sem.run_bind, run_und hd, Result.andThen_ok]
    cases d <;> first | rfl | (cases h2; done)
theorem and2 {a b : Bool} (h : (a && b) = true) : a = true ∧ b = true := by simpa using h
theorem ble_le {a b : Nat} (h : Nat.ble a b = true) : a ≤ b := Nat.le_of_ble_eq_true h
theorem beq_eq {a b : Nat} (h : Nat.beq a b = true) : a = b := Nat.eq_of_beq_eq_true h
theorem O.c_inv {o : O} {K : Nat → T V → TypeId → Option Nat → Bool} (h : onC o K = true) : ∃ n t e g, o = .c n t e g ∧ K n t e g = true := by
  cases o with
  | c n t e g => exact ⟨n, t, e, g, rfl, h⟩
  | _ => cases h
theorem O.m_inv {o : O} {K : List (V × V × Nat) → Nat → Bool} (h : onM o K = true) : ∃ es cl, o = .mp es cl ∧ K es cl = true := by
  cases o with
  | mp es cl => exact ⟨es, cl, rfl, h⟩
  | _ => cases h
/-- The cells of a block that is known. -/
theorem Sat.cells {ρ : Ren} {h : H} {w : World} {b n : Nat} {t : T V} {e : TypeId} {g : Option Nat} (s : Sat ρ h w) (hb : h.get b = .c n t e g) :
    ρ.d b ∧ ∃ cs fz, w.heap[ρ.π b]? = some (.cells cs e fz) ∧ n ≤ cs.size ∧ (g = none → cs.size = n) ∧ (∀ s, g = some s → cs.size = ρ.γ b * s) ∧
      (∀ i, i < n → ∃ x, cs[i]? = some x ∧ VR ρ (t.get .u (i + 1)) x) ∧ (∀ i, i < cs.size → ¬ (fz.1 ≤ i ∧ i < fz.2)) := by
  have := s.o b
  rw [hb] at this
  exact this
theorem cell_of {w : World} {b : Nat} {cs : Array Value} {e : TypeId} {fz : Nat × Nat} (h : w.heap[b]? = some (.cells cs e fz)) (i : Nat) : w.cell? ⟨b, i, none⟩ = cs[i]? := by
  simp [World.cell?, h]
theorem frozen_of {w : World} {b : Nat} {cs : Array Value} {e : TypeId} {fz : Nat × Nat} (h : w.heap[b]? = some (.cells cs e fz)) {i : Nat} (hi : ¬ (fz.1 ≤ i ∧ i < fz.2)) : w.frozen? ⟨b, i, none⟩ = false := by
  simp only [World.frozen?, h]
  simpa using hi
theorem add_at (b o i : Nat) : (⟨b, o, none⟩ : Addr).add i = ⟨b, o + i, none⟩ := by unfold Addr.add; split <;> simp_all
theorem Sat.take {ρ : Ren} {h : H} {w : World} {b n : Nat} {t : T V} {e : TypeId} {g : Option Nat} (s : Sat ρ h w) (hb : h.get b = .c n t e g) {o m : Nat} (hm : o + m ≤ n) :
    ∃ cs : List Value, LR ρ (t.take m (o + 1)) cs ∧ ∀ j v, cs[j]? = some v → w.cell? ((⟨ρ.π b, o, none⟩ : Addr).add j) = some v := by
  obtain ⟨_, cs, fz, h2, h3, _, _, h6, _⟩ := s.cells hb
  refine ⟨(cs.toList.drop o).take m, ⟨?_, fun i v x hv hx => ?_⟩, fun j v hv => ?_⟩
  · rw [T.take_length, List.length_take, List.length_drop, Array.length_toList]; omega
  · have hi : i < m := by
      have := (List.getElem?_eq_some_iff.1 hv).1
      rwa [T.take_length] at this
    rw [T.take_at t hi] at hv
    rw [List.getElem?_take, if_pos hi, List.getElem?_drop, Array.getElem?_toList] at hx
    obtain ⟨y, hy, hvy⟩ := h6 (o + i) (by omega)
    rw [hy] at hx
    injection hx with hx
    injection hv with hv
    rw [← hx, ← hv, show o + 1 + i = o + i + 1 from by omega]
    exact hvy
  · have hj : j < m := by
      have := (List.getElem?_eq_some_iff.1 hv).1
      rw [List.length_take] at this
      omega
    rw [List.getElem?_take, if_pos hj, List.getElem?_drop, Array.getElem?_toList] at hv
    rw [add_at, cell_of h2, hv]
/-- A variable is read. -/
theorem loadV_ok {t : TypeId} {b o : Nat} {h : H} {K : KT} (hk : loadV P t b o h K = true) :
    ∃ v, K v h = true ∧ ∀ (ρ : Ren) (w : World), Sat ρ h w → ∃ x, (loadVar t ⟨ρ.π b, o, none⟩).run P w = .ok x w ∧ VR ρ v x := by
  obtain ⟨n, tr, e, g, hb, hk⟩ := O.c_inv hk
  cases ha : (ti P t).agg with
  | true =>
    rw [ha] at hk
    dsimp only at hk
    rw [forceN_eq] at hk
    obtain ⟨h1, hk⟩ := recB_false hk
    rw [T.takeK_eq] at hk
    refine ⟨_, hk, fun ρ w s => ?_⟩
    obtain ⟨cs, hl, hc⟩ := s.take hb (ble_le h1)
    obtain ⟨e1, e2⟩ := run_isAgg_true (w := w) ha
    have e3 := run_loadCells_list (P := P) w ⟨ρ.π b, o, none⟩ cs hc
    rw [show cs.length = (ti P t).size from by rw [← hl.1, T.take_length]] at e3
    refine ⟨.agg cs.toArray, ?_, VR.agg' (by simpa using hl)⟩
    simp [loadVar, e1, e2, e3]
  | false =>
    rw [ha] at hk
    dsimp only at hk
    obtain ⟨h1, hk⟩ := recB_false hk
    obtain ⟨h1, h2⟩ := and2 h1
    refine ⟨_, hk, fun ρ w s => ?_⟩
    obtain ⟨_, cs, fz, c2, c3, _, _, c6, _⟩ := s.cells hb
    obtain ⟨e1, e2⟩ := run_isAgg_false (w := w) h2
    obtain ⟨x, hx, hv⟩ := c6 o (ble_le h1)
    refine ⟨x, ?_, hv⟩
    simp [loadVar, e1, cell_of c2, hx]
/-- The parts of a value. -/
def V.cells : V → Option (List V)
  | .u => none
  | .agg l => some l
  | .tup _ => none
  | v => some [v]
theorem cellsK_ok {v : V} {K : List V → Bool} (h : cellsK v K = true) : ∃ l, v.cells = some l ∧ K l = true := by
  cases v <;> first | exact ⟨_, rfl, h⟩ | (cases h; done)
theorem VR.one {ρ : Ren} {v : V} {x : Value} (h : VR ρ v x) (h1 : v.one = true) : x.oneCell' = true := by
  cases h <;> first | rfl | (cases h1; done)
theorem VR.cells {ρ : Ren} {v : V} {x : Value} (h : VR ρ v x) {l : List V} (hl : v.cells = some l) : LR ρ l x.cells.toList := by
  have key : ∀ {v : V} {x : Value}, VR ρ v x → LR ρ [v] [x] := fun h => .cons h .nil
  cases h <;> first
    | (cases hl; done)
    | (injection hl with hl; subst hl; first
        | (refine key ?_; constructor <;> assumption)
        | (rename_i hn hh; exact VR.lr hn hh))
/-- Cells are written. -/
theorem setCells_at {b : Nat} {e : TypeId} {fz : Nat × Nat} : ∀ (vs : List Value) (o : Nat) (w : World) (cs : Array Value), w.heap[b]? = some (.cells cs e fz) → o + vs.length ≤ cs.size →
    ∃ cs', (w.setCells b o vs).heap[b]? = some (.cells cs' e fz) ∧ cs'.size = cs.size ∧ ∀ i, cs'[i]? = if o ≤ i ∧ i < o + vs.length then vs[i - o]? else cs[i]?
  | [], o, w, cs, h, _ => ⟨cs, h, rfl, fun i => by rw [if_neg (by simp only [List.length_nil]; omega)]⟩
  | v :: vs, o, w, cs, h, hl => by
    simp only [List.length_cons] at hl
    have h1 : (w.setCell ⟨b, o, none⟩ v).heap[b]? = some (.cells (cs.setIfInBounds o v) e fz) := by
      simp [World.setCell, Array.getElem?_modify, h]
    obtain ⟨cs', a1, a2, a3⟩ := setCells_at vs (o + 1) _ _ h1 (by simp; omega)
    refine ⟨cs', a1, by rw [a2]; simp, fun i => ?_⟩
    rw [a3]
    simp only [List.length_cons]
    by_cases hi : i = o
    · subst hi
      rw [if_neg (by omega), if_pos (by omega), Nat.sub_self]
      rw [Array.getElem?_setIfInBounds, if_pos rfl, if_pos (by omega)]
      rfl
    · by_cases h2 : o + 1 ≤ i ∧ i < o + 1 + vs.length
      · rw [if_pos h2, if_pos (by omega), show i - o = (i - (o + 1)) + 1 from by omega, List.getElem?_cons_succ]
      · rw [if_neg h2, if_neg (by omega), Array.getElem?_setIfInBounds, if_neg (by omega)]
theorem setCells_far {b r : Nat} (hr : r ≠ b) : ∀ (vs : List Value) (o : Nat) (w : World), (w.setCells b o vs).heap[r]? = w.heap[r]?
  | [], _, _ => rfl
  | v :: vs, o, w => by
    show ((w.setCell ⟨b, o, none⟩ v).setCells b (o + 1) vs).heap[r]? = _
    rw [setCells_far hr vs, Below.heap_setCell _ _ _ _ hr]
theorem setCells_rest {b : Nat} : ∀ (vs : List Value) (o : Nat) (w : World), (w.setCells b o vs).heap.size = w.heap.size ∧ (w.setCells b o vs).os = w.os ∧ (w.setCells b o vs).tape = w.tape ∧ (w.setCells b o vs).output = w.output
  | [], _, _ => ⟨rfl, rfl, rfl, rfl⟩
  | v :: vs, o, w => by
    obtain ⟨h1, h2, h3, h4⟩ := setCells_rest (b := b) vs (o + 1) (w.setCell ⟨b, o, none⟩ v)
    exact ⟨h1.trans (by simp [World.setCell]), h2, h3, h4⟩
theorem storeL_ok {l : List V} {b o : Nat} {h : H} {K : KT} (hk : storeL l b o h K = true) :
    ∃ h', K .u h' = true ∧ ∀ (ρ : Ren) (w : World) (cs : List Value), Sat ρ h w → LR ρ l cs → ∃ w', (storeCells ⟨ρ.π b, o, none⟩ cs).run P w = .ok () w' ∧ Sat ρ h' w' ∧ Step ρ h w ρ h' w' := by
  obtain ⟨n, tr, e, g, hb, hk⟩ := O.c_inv hk
  rw [forceN_eq] at hk
  obtain ⟨h1, hk⟩ := recB_false hk
  obtain ⟨h2, hk⟩ := recB_false hk
  rw [T.layK_eq, H.put_eq] at hk
  refine ⟨_, hk, fun ρ w cs s hl => ?_⟩
  have h1 : o + l.length ≤ n := ble_le h1
  have hlen := hl.1
  obtain ⟨c1, ds, fz, c2, c3, c4, c5, c6, c7⟩ := s.cells hb
  have e1 := run_storeCells_cells (P := P) (ρ.π b) o cs 0 w (fun j hj => by
      obtain ⟨x, hx, _⟩ := c6 (o + 0 + j) (by omega)
      rw [cell_of c2, hx]; rfl) (fun j hj => frozen_of c2 (c7 _ (by omega))) (fun v hv => by
      obtain ⟨i, hi⟩ := List.getElem?_of_mem hv
      have hi' := (List.getElem?_eq_some_iff.1 hi).1
      obtain ⟨q, hq⟩ : ∃ q, l[i]? = some q := ⟨_, List.getElem?_eq_getElem (by omega)⟩
      exact (hl.2 i q v hq hi).one (List.all_eq_true.1 h2 q (List.mem_of_getElem? hq)))
  rw [Nat.add_zero] at e1
  obtain ⟨ds', d1, d2, d3⟩ := setCells_at cs o w ds c2 (by omega)
  obtain ⟨r1, r2, r3, r4⟩ := setCells_rest (b := ρ.π b) cs o w
  refine ⟨_, e1, s.upd (c := b) (by rw [hb]; simp) ⟨c1, ds', fz, d1, by omega, fun e => by rw [d2]; exact c4 e, fun s e => by rw [d2]; exact c5 s e, fun i hi => ?_, fun i hi => c7 i (by omega)⟩ r1 r2 r3 r4 (fun r hr => setCells_far hr cs o w)⟩
  rw [d3]
  rcases T.get_lay (d := V.u) l (t := tr) (j := i + 1) (k := o + 1) (by omega) (by omega) with ⟨g1, g2, g3⟩ | ⟨g1, g2⟩
  · rw [if_pos (by omega)]
    have ho : i + 1 - (o + 1) = i - o := by omega
    rw [ho] at g3
    obtain ⟨q, hq⟩ : ∃ q, l[i - o]? = some q := ⟨_, List.getElem?_eq_getElem (by omega)⟩
    obtain ⟨x, hx, hv⟩ := hl.at_ hq
    refine ⟨x, hx, ?_⟩
    rcases g3 with g3 | g3
    · rw [hq] at g3
      injection g3 with g3
      rw [← g3]; exact hv
    · rw [g3]; exact .u x
  · rw [if_neg (by omega), g2]
    exact c6 i hi
/-- A new row of cells. -/
theorem newRow_sat {ρ : Ren} {h : H} {w : World} (s : Sat ρ h w) {cs : Array Value} {tr : T V} {n g : Nat} {e : TypeId} {gg : Option Nat} (hn : n ≤ cs.size) (h0 : gg = none → cs.size = n) (h1 : ∀ z, gg = some z → cs.size = g * z)
    (hv : ∀ i, i < n → ∃ x, cs[i]? = some x ∧ VR ρ (tr.get .u (i + 1)) x) :
    Sat (ρ.add w.heap.size g) (h.add (.c n tr e gg)) (w.alloc (.cells cs e (0, 0))) ∧ Step ρ h w (ρ.add w.heap.size g) (h.add (.c n tr e gg)) (w.alloc (.cells cs e (0, 0))) := by
  refine s.alloc g ⟨.inl rfl, cs, (0, 0), ?_, hn, h0, fun z hz => by rw [ρ.add_γ]; exact h1 z hz, fun i hi => ?_, fun i _ h => by have := h.2; simp at this⟩
  · rw [ρ.add_π]
    show (w.heap.push _)[w.heap.size]? = _
    simp
  · obtain ⟨x, hx, hxv⟩ := hv i hi
    exact ⟨x, hx, hxv.mono (ρ.add_le _ _)⟩
theorem lay_vr {ρ : Ren} {l : List V} {cs : List Value} (hl : LR ρ l cs) {t : T V} (i : Nat) (hi : i < l.length) : ∃ x, cs[i]? = some x ∧ VR ρ ((T.lay l t 1).get .u (i + 1)) x := by
  obtain ⟨q, hq⟩ : ∃ q, l[i]? = some q := ⟨_, List.getElem?_eq_getElem hi⟩
  obtain ⟨x, hx, hv⟩ := hl.at_ hq
  refine ⟨x, hx, ?_⟩
  rcases T.get_lay (d := V.u) l (t := t) (j := i + 1) (k := 1) (by omega) (by omega) with ⟨_, _, g3 | g3⟩ | ⟨g1, g2⟩
  · rw [show i + 1 - 1 = i from rfl, hq] at g3
    injection g3 with g3
    rw [← g3]; exact hv
  · rw [g3]; exact .u x
  · omega
theorem newVar_ok {l : List V} {e : TypeId} {h : H} {K : KT} (hk : newVar l e h K = true) :
    ∃ h', K (.p h.nx 0) h' = true ∧ ∀ (ρ : Ren) (w : World) (cs : Array Value), Sat ρ h w → LR ρ l cs.toList →
      ∃ ρ', VR ρ' (.p h.nx 0) (.pointer (some ⟨w.heap.size, 0, none⟩)) ∧ Sat ρ' h' (w.alloc (.cells cs e (0, 0))) ∧ Step ρ h w ρ' h' (w.alloc (.cells cs e (0, 0))) := by
  unfold newVar at hk
  rw [forceN_eq, T.layK_eq, H.new_eq] at hk
  refine ⟨_, hk, fun ρ w cs s hl => ?_⟩
  have hs : cs.size = l.length := by rw [hl.1]; simp
  obtain ⟨a1, a2⟩ := newRow_sat s (cs := cs) (tr := T.lay l (full .u (depth l.length)) 1) (n := l.length) (g := 0) (e := e) (gg := none) (by omega) (fun _ => hs) (fun z e => by cases e)
    (fun i hi => by
      obtain ⟨x, hx, hv⟩ := lay_vr hl (t := full .u (depth l.length)) i hi
      exact ⟨x, by simpa using hx, hv⟩)
  refine ⟨_, ?_, a1, a2⟩
  rw [← s.n]
  have : VR (ρ.add w.heap.size 0) (.p ρ.n 0) (.pointer (some ⟨(ρ.add w.heap.size 0).π ρ.n, 0, none⟩)) := .p (.inl rfl)
  rwa [ρ.add_π] at this
end
end Go.Proofs.YtphfekkllibphaaGreatDoor.Ev
namespace Go.Proofs.YtphfekkllibphaaGreatDoor.Ev
open Go Go.RowKit

/-- The slots are as known. -/
def FR (ρ : Ren) (fr : Fr) (a : Act) : Prop := ∀ t, VR ρ (fr.get .u (t + 1)) (a.tmps.getD t undef)
theorem FR.mono {ρ ρ' : Ren} {fr : Fr} {a : Act} (h : FR ρ fr a) (hle : ρ.le ρ') : FR ρ' fr a := fun t => (h t).mono hle
theorem ofVal1_ok (ρ : Ren) (v : Value) : VR ρ (ofVal1 v) v := by
  unfold ofVal1
  split
  · exact .b _
  · exact .i _ _
  · rename_i s
    refine .s (by unfold bytesV ByteArray.size; rw [List.length_map, Array.length_toList]) (fun i v c hv hc => ?_)
    simp only [bytesV, List.getElem?_map, Array.getElem?_toList, hc, Option.map_some, Option.some.injEq] at hv
    rw [← hv]
    exact .i _ _
  · exact .pn
  · exact .sn
  · exact .mn
  · exact .nf
  · exact .nic
  · exact .u _
theorem map1_lr (ρ : Ren) (cs : List Value) : LR ρ (cs.map ofVal1) cs := by
  refine ⟨by simp, fun i v x hv hx => ?_⟩
  rw [List.getElem?_map, hx] at hv
  injection hv with hv
  rw [← hv]
  exact ofVal1_ok ρ x
theorem ofVal_ok (ρ : Ren) (v : Value) : VR ρ (ofVal v) v := by
  unfold ofVal
  split
  · exact VR.agg' (map1_lr ρ _)
  · exact .ic (ofVal1_ok ρ _)
  · rename_i fn first cap
    split
    · rename_i h1 h2
      have e1 : first.size = 0 := by rw [← Array.length_toList, h1]; rfl
      have e2 : cap.size = 0 := by rw [← Array.length_toList, h2]; rfl
      exact .f (by rw [e1]; rfl) (fun i v x hv => by simp at hv) (by rw [e2]; rfl) (fun i v x hv => by simp at hv)
    · exact .u _
  · exact ofVal1_ok ρ _
theorem cellsV_ok (ρ : Ren) (v : Value) : LR ρ (cellsV v) v.cells.toList := by
  unfold cellsV
  split
  · exact map1_lr ρ _
  · rename_i h
    rw [show v.cells = #[v] from by unfold Value.cells; split <;> first | rfl | (rename_i e; exact absurd rfl (h _))]
    exact .cons (ofVal1_ok ρ v) .nil
theorem cellsV_len (v : Value) : (cellsV v).length = v.cells.toList.length := by
  unfold cellsV
  split
  · simp [Value.cells]
  · rename_i h
    rw [show v.cells = #[v] from by unfold Value.cells; split <;> first | rfl | (rename_i e; exact absurd rfl (h _))]
    rfl
section
variable {P : Program} {ρ : Ren} {fr : Fr} {a : Act} {h : H} {K : KT} {w : World}
theorem FR.opd (f : FR ρ fr a) (x : Operand) : VR ρ (opd x fr) (a.eval x) := by
  cases x with
  | tmp t => exact f t
  | const v => exact ofVal_ok ρ v
  | global g => exact .u _
  | func g => exact .f rfl (fun i v x hv => by simp at hv) rfl (fun i v x hv => by simp at hv)
theorem FR.opds (f : FR ρ fr a) (l : List Operand) : LR ρ (opds l fr) (l.map a.eval) := by
  induction l with
  | nil => exact .nil
  | cons x l ih => exact .cons (f.opd x) ih
theorem onP_inv {v : V} {K : Nat → Nat → Bool} (h : onP v K = true) : ∃ b o, v = .p b o ∧ K b o = true := by
  cases v <;> first | exact ⟨_, _, rfl, h⟩ | (cases h; done)
theorem onB_inv {v : V} {K : Bool → Bool} (h : onB v K = true) : ∃ x, v = .b x ∧ K x = true := by
  cases v <;> first | exact ⟨_, rfl, h⟩ | (cases h; done)
theorem onI_inv {v : V} {K : IntKind → Int → Bool} (h : onI v K = true) : ∃ k n, v = .i k n ∧ K k n = true := by
  cases v <;> first | exact ⟨_, _, rfl, h⟩ | (cases h; done)
theorem onAgg_inv {v : V} {K : List V → Bool} (h : onAgg v K = true) : ∃ l, v = .agg l ∧ K l = true := by
  cases v <;> first | exact ⟨_, rfl, h⟩ | (cases h; done)
theorem onNat_inv {v : V} {K : Nat → Bool} (h : onNat v K = true) : ∃ k n, v = .i k (.ofNat n) ∧ K n = true := by
  cases v with
  | i k n => cases n with
    | ofNat n => exact ⟨k, n, rfl, h⟩
    | negSucc n => cases h
  | _ => cases h
theorem FR.p (f : FR ρ fr a) {x : Operand} {b o : Nat} (e : Ev.opd x fr = .p b o) : ρ.d b ∧ a.eval x = .pointer (some ⟨ρ.π b, o, none⟩) := (e ▸ f.opd x).p_inv
theorem FR.i (f : FR ρ fr a) {x : Operand} {k : IntKind} {n : Int} (e : Ev.opd x fr = .i k n) : a.eval x = .int k n := (e ▸ f.opd x).i_inv
theorem FR.bo (f : FR ρ fr a) {x : Operand} {y : Bool} (e : Ev.opd x fr = .b y) : a.eval x = .bool y := (e ▸ f.opd x).b_inv
/-- The operation does what was reckoned. -/
def OpOK (P : Program) (op : Op) (fr : Fr) (h : H) (K : KT) : Prop :=
  ∃ v h', K v h' = true ∧ ∀ (ρ : Ren) (a : Act) (w : World) (o : Oper) (next : Act → World → Prop) (Q : Exit → Act → World → Prop), o.op = op → FR ρ fr a → Sat ρ h w →
    (∀ ρ' w' x, VR ρ' v x → Sat ρ' h' w' → Step ρ h w ρ' h' w' → next (a.put o.dst x) w') → o.wp P a w next Q
theorem wp_val {o : Oper} {next : Act → World → Prop} {Q : Exit → Act → World → Prop} {x : Value} {w' : World} (h : (execOp a.eval o).run P w = .ok (.value x) w') (hn : next (a.put o.dst x) w') : o.wp P a w next Q := by
  unfold Oper.wp
  rw [h]
  exact hn
theorem wp_skp {o : Oper} {next : Act → World → Prop} {Q : Exit → Act → World → Prop} {w' : World} (h : (execOp a.eval o).run P w = .ok .skip w') (hn : next (a.put o.dst undef) w') : o.wp P a w next Q := by
  unfold Oper.wp
  rw [h]
  exact hn
theorem bnd {α : Type} {s : Sem Value} {x : Value} {w' : World} (h : s.run P w = .ok x w') (f : Value → Next) : (do pure (f (← s)) : Sem Next).run P w = .ok (f x) w' := by simp [h]
theorem oMove_ok {x : Operand} (hk : oMove x fr h K = true) : OpOK P (.move x) fr h K :=
  ⟨_, _, hk, fun ρ a w o next Q ho f s kn => wp_val (x := a.eval x) (w' := w) (by simp [execOp, ho]) (kn _ _ _ (f.opd x) s (.refl _ _ _))⟩
theorem oAssign_ok {x : Operand} (hk : oMove x fr h K = true) : OpOK P (.assign x) fr h K :=
  ⟨_, _, hk, fun ρ a w o next Q ho f s kn => wp_val (x := a.eval x) (w' := w) (by simp [execOp, ho]) (kn _ _ _ (f.opd x) s (.refl _ _ _))⟩
theorem oPick_ok {c x y : Operand} (hk : oPick c x y fr h K = true) : OpOK P (.pick c x y) fr h K := by
  obtain ⟨b, hb, hk⟩ := onB_inv hk
  cases b with
  | true => exact ⟨_, _, hk, fun ρ a w o next Q ho f s kn => wp_val (x := a.eval x) (w' := w) (by simp [execOp, ho, f.bo hb, asBool]) (kn _ _ _ (f.opd x) s (.refl _ _ _))⟩
  | false => exact ⟨_, _, hk, fun ρ a w o next Q ho f s kn => wp_val (x := a.eval y) (w' := w) (by simp [execOp, ho, f.bo hb, asBool]) (kn _ _ _ (f.opd y) s (.refl _ _ _))⟩
theorem run_newVar {e : TypeId} {v : Value} : (Go.newVar e v).run P w = .ok ⟨w.heap.size, 0, none⟩ (w.alloc (.cells v.cells e (0, 0))) := rfl
theorem run_newRow {e : TypeId} {cs : Array Value} : (newRow e cs).run P w = .ok ⟨w.heap.size, 0, none⟩ (w.alloc (.cells cs e (0, 0))) := rfl
theorem oAlloc_ok {e : TypeId} (hk : oAlloc P e fr h K = true) : OpOK P (.alloc e) fr h K := by
  obtain ⟨h1, hk⟩ := recB_false hk
  obtain ⟨h', hk, hn⟩ := newVar_ok hk
  refine ⟨_, _, hk, fun ρ a w o next Q ho f s kn => ?_⟩
  rcases ti_cases P e with e1 | ⟨i, hi, e1⟩
  · rw [e1] at h1; cases h1
  · have hz : ∃ v, i.zero = some v ∧ (ti P e).zero = cellsV v := by
      rw [e1]
      cases hz : i.zero with
      | some v => exact ⟨v, rfl, by simp [tiOf, hz]⟩
      | none =>
        rw [e1] at h1
        simp [tiOf, hz] at h1
    obtain ⟨v, hz, e2⟩ := hz
    obtain ⟨ρ', a1, a2, a3⟩ := hn ρ w v.cells s (by rw [e2]; exact cellsV_ok ρ v)
    refine wp_val (x := .pointer (some ⟨w.heap.size, 0, none⟩)) (w' := w.alloc (.cells v.cells e (0, 0))) ?_ (kn _ _ _ a1 a2 a3)
    have hzv : (zeroValue e).run P w = .ok v w := by simp only [zeroValue, Sem.run_bind, run_typeInfo hi, Result.andThen_ok, hz, Sem.run_pure]
    simp only [execOp, ho, Instr.alloc, Sem.run_bind, hzv, Result.andThen_ok, Sem.run_pure, run_newVar]
theorem oBox_ok {e : TypeId} {x : Operand} (hk : oBox e x fr h K = true) : OpOK P (.box e x) fr h K := by
  obtain ⟨l, hl, hk⟩ := cellsK_ok hk
  obtain ⟨h', hk, hn⟩ := newVar_ok hk
  refine ⟨_, _, hk, fun ρ a w o next Q ho f s kn => ?_⟩
  obtain ⟨ρ', a1, a2, a3⟩ := hn ρ w (a.eval x).cells s ((f.opd x).cells hl)
  refine wp_val (x := .pointer (some ⟨w.heap.size, 0, none⟩)) (w' := w.alloc (.cells (a.eval x).cells e (0, 0))) ?_ (kn _ _ _ a1 a2 a3)
  simp only [execOp, ho, Instr.box, Sem.run_bind, Result.andThen_ok, Sem.run_pure, run_newVar]
theorem oLoad_ok {t : TypeId} {x : Operand} (hk : oLoad P t x fr h K = true) : OpOK P (.load t x) fr h K := by
  obtain ⟨b, o', hx, hk⟩ := onP_inv hk
  obtain ⟨v, hk, hl⟩ := loadV_ok hk
  refine ⟨_, _, hk, fun ρ a w o next Q ho f s kn => ?_⟩
  obtain ⟨y, hy, hv⟩ := hl ρ w s
  refine wp_val (x := y) (w' := w) ?_ (kn _ _ _ hv s (.refl _ _ _))
  simp only [execOp, ho, (f.p hx).2, Instr.loadAt, Instr.sureAddr, Sem.run_bind, Result.andThen_ok, Sem.run_pure, hy]
theorem storeV_ok {t : TypeId} {b o' : Nat} {v : V} (hk : storeV P t b o' v h K = true) :
    ∃ h', K .u h' = true ∧ ∀ (ρ : Ren) (w : World) (x : Value), Sat ρ h w → VR ρ v x → ∃ w', (storeVar t ⟨ρ.π b, o', none⟩ x).run P w = .ok () w' ∧ Sat ρ h' w' ∧ Step ρ h w ρ h' w' := by
  obtain ⟨l, hl, hk⟩ := cellsK_ok hk
  obtain ⟨h1, hk⟩ := recB_false hk
  obtain ⟨h1, h2⟩ := and2 h1
  obtain ⟨h', hk, hs⟩ := storeL_ok (P := P) hk
  refine ⟨h', hk, fun ρ w x s hv => ?_⟩
  have hc := hv.cells hl
  obtain ⟨w', e1, e2, e3⟩ := hs ρ w _ s hc
  refine ⟨w', ?_, e2, e3⟩
  have hz : x.cells.size = (ti P t).size := by rw [← Array.length_toList, ← hc.1]; exact beq_eq h1
  simp only [storeVar, Sem.run_bind, run_size (ble_le h2), Result.andThen_ok, hz, ne_eq, not_true_eq_false, if_false, e1, Sem.run_pure]
theorem oStore_ok {t : TypeId} {x y : Operand} (hk : oStore P t x y fr h K = true) : OpOK P (.store t x y) fr h K := by
  obtain ⟨b, o', hx, hk⟩ := onP_inv hk
  obtain ⟨h', hk, hl⟩ := storeV_ok hk
  refine ⟨_, _, hk, fun ρ a w o next Q ho f s kn => ?_⟩
  obtain ⟨w', e1, e2, e3⟩ := hl ρ w _ s (f.opd y)
  refine wp_skp (w' := w') ?_ (kn _ _ _ (.u _) e2 e3)
  simp only [execOp, ho, (f.p hx).2, Instr.storeAt, Instr.sureAddr, Sem.run_bind, Result.andThen_ok, Sem.run_pure, e1]
theorem oNil_ok {x : Operand} (hk : oNil x fr h K = true) : OpOK P (.nilCheck x) fr h K := by
  unfold oNil at hk
  refine ⟨opd x fr, h, ?_, fun ρ a w o next Q ho f s kn => wp_val (x := a.eval x) (w' := w) ?_ (kn _ _ _ (f.opd x) s (.refl _ _ _))⟩
  · split at hk <;> first | (cases hk; done) | skip
    · split at hk <;> first | (cases hk; done) | (rename_i e _ _; rw [e]; exact hk)
    · exact hk
  · have hv := f.opd x
    simp only [execOp, ho]
    split at hk <;> first | (cases hk; done) | skip
    · split at hk <;> first | (cases hk; done) | skip
      rename_i e _ hne
      rw [e] at hv
      generalize a.eval x = y at hv
      cases hv
      split <;> first | rfl | (rename_i e; cases e; done) | skip
      rename_i e2
      injection e2 with e2
      exact absurd e2 (hne _)
    · rename_i h1 h2 h3 h4 h5
      generalize a.eval x = y at hv
      generalize opd x fr = v at hv h1 h2 h3 h4 h5
      cases hv <;> first | rfl | (exact absurd rfl h1) | (exact absurd rfl h2) | (exact absurd rfl h3) | (exact absurd rfl h4) | (exact absurd rfl (h5 _ _ _))
theorem oIface_ok {t : TypeId} {x : Operand} (hk : oIface P t x fr h K = true) : OpOK P (.makeInterface t x) fr h K := by
  obtain ⟨h1, hk⟩ := recB_false hk
  refine ⟨_, _, hk, fun ρ a w o next Q ho f s kn => ?_⟩
  refine wp_val (x := .iface t (a.eval x)) (w' := w) ?_ (kn _ _ _ (.ic (f.opd x)) s (.refl _ _ _))
  unfold UD.isIfc at h1
  have hu : (ti P t).und ≠ .oth ∧ (ti P t).und ≠ .ifc := by split at h1 <;> first | (cases h1; done) | (rename_i h2 h3; exact ⟨h3, h2⟩)
  obtain ⟨i, d, hi, e1, hd, hu2⟩ := ti_und (P := P) rfl hu.1
  simp only [execOp, ho, Instr.makeInterface, Sem.run_bind, run_und hd, Result.andThen_ok]
  cases d <;> first | rfl | (exact absurd hu2.symm hu.2)
theorem oFunc_ok {fn : Fn} {x y : Array Operand} (hk : oFunc fn x y fr h K = true) : OpOK P (.makeFunc fn x y) fr h K := by
  refine ⟨_, _, hk, fun ρ a w o next Q ho f s kn => ?_⟩
  have e1 := f.opds x.toList
  have e2 := f.opds y.toList
  refine wp_val (x := .func fn (x.map a.eval) (y.map a.eval)) (w' := w) ?_ (kn _ _ _ (.f ?_ ?_ ?_ ?_) s (.refl _ _ _))
  · simp only [execOp, ho, Instr.makeFunc, Sem.run_bind, Sem.run_pure, Result.andThen_ok]
  · rw [e1.1]; simp
  · intro i v z hv hz; exact e1.2 i v z hv (by rw [← hz]; simp)
  · rw [e2.1]; simp
  · intro i v z hv hz; exact e2.2 i v z hv (by rw [← hz]; simp)
theorem oExtract_ok {x : Operand} {i : Nat} (hk : oExtract x i fr h K = true) : OpOK P (.extract x i) fr h K := by
  unfold oExtract at hk
  split at hk <;> first | (cases hk; done) | skip
  rename_i l e
  split at hk <;> first | (cases hk; done) | skip
  rename_i v hv
  refine ⟨_, _, hk, fun ρ a w o next Q ho f s kn => ?_⟩
  have hx := f.opd x
  rw [e] at hx
  obtain ⟨as, e2, hl⟩ := hx.tup_inv
  obtain ⟨y, hy, hvy⟩ := hl.at_ hv
  refine wp_val (x := y) (w' := w) ?_ (kn _ _ _ hvy s (.refl _ _ _))
  have hy' : as[i]? = some y := by simpa using hy
  simp only [execOp, ho, e2, Instr.extract, hy', Sem.run_bind, Sem.run_pure, Result.andThen_ok]
end
end Go.Proofs.YtphfekkllibphaaGreatDoor.Ev
namespace Go.Proofs.YtphfekkllibphaaGreatDoor.Ev
open Go Go.RowKit

section
variable {P : Program} {ρ : Ren} {fr : Fr} {a : Act} {h : H} {K : KT} {w : World}
theorem und_struct {t : TypeId} {fs : List (Nat × TypeId)} (hu : (ti P t).und = .struct fs) : ∃ fields : Array Field, P.underlying t = some (.struct fields) ∧ fs = fields.toList.map fun f => (f.offset, f.type) := by
  obtain ⟨i, d, _, _, hd, he⟩ := ti_und hu (by simp)
  cases d <;> simp only [udOf, reduceCtorEq, UD.struct.injEq] at he
  exact ⟨_, hd, he.symm⟩
theorem und_slice {t e : TypeId} (hu : (ti P t).und = .sl e) : P.underlying t = some (.slice e) := by
  obtain ⟨i, d, _, _, hd, he⟩ := ti_und hu (by simp)
  cases d <;> simp only [udOf, reduceCtorEq, UD.sl.injEq] at he
  rw [hd, he]
theorem und_arr {t e : TypeId} {n : Nat} (hu : (ti P t).und = .arr n e) : P.underlying t = some (.array n e) := by
  obtain ⟨i, d, _, _, hd, he⟩ := ti_und hu (by simp)
  cases d <;> simp only [udOf, reduceCtorEq, UD.arr.injEq] at he
  rw [hd, he.1, he.2]
theorem und_map {t k e : TypeId} (hu : (ti P t).und = .map k e) : P.underlying t = some (.map k e) := by
  obtain ⟨i, d, _, _, hd, he⟩ := ti_und hu (by simp)
  cases d <;> simp only [udOf, reduceCtorEq, UD.map.injEq] at he
  rw [hd, he.1, he.2]
theorem und_ptr {t e : TypeId} (hu : (ti P t).und = .ptr e) : P.underlying t = some (.pointer e) := by
  obtain ⟨i, d, _, _, hd, he⟩ := ti_und hu (by simp)
  cases d <;> simp only [udOf, reduceCtorEq, UD.ptr.injEq] at he
  rw [hd, he]
theorem und_int {t : TypeId} {k : IntKind} (hu : (ti P t).und = .int k) : P.underlying t = some (.int k) := by
  obtain ⟨i, d, _, _, hd, he⟩ := ti_und hu (by simp)
  cases d <;> simp only [udOf, reduceCtorEq, UD.int.injEq] at he
  rw [hd, he]
theorem und_str {t : TypeId} (hu : (ti P t).und = .str) : P.underlying t = some .string := by
  obtain ⟨i, d, _, _, hd, he⟩ := ti_und hu (by simp)
  cases d <;> simp only [udOf, reduceCtorEq] at he
  rw [hd]
theorem fields_at {fields : Array Field} {fs : List (Nat × TypeId)} (e : fs = fields.toList.map fun f => (f.offset, f.type)) {i : Nat} {f : Nat × TypeId} (hf : fs[i]? = some f) : ∃ g, fields[i]? = some g ∧ g.offset = f.1 ∧ g.type = f.2 := by
  subst e
  rw [List.getElem?_map] at hf
  obtain ⟨g, hg, he⟩ := Option.map_eq_some_iff.1 hf
  refine ⟨g, by simpa using hg, ?_, ?_⟩ <;> rw [← he]
theorem oFieldAddr_ok {t : TypeId} {x : Operand} {i : Nat} (hk : oFieldAddr P t x i fr h K = true) : OpOK P (.fieldAddr t x i) fr h K := by
  obtain ⟨b, o', hx, hk⟩ := onP_inv hk
  split at hk <;> first | (cases hk; done) | skip
  rename_i fs hu
  split at hk <;> first | (cases hk; done) | skip
  rename_i f hf
  obtain ⟨h1, hk⟩ := recB_true hk
  rw [forceN_eq] at hk
  refine ⟨_, _, hk, fun ρ a w o next Q ho fr' s kn => ?_⟩
  obtain ⟨fields, hd, he⟩ := und_struct hu
  obtain ⟨g, hg, hg1, hg2⟩ := fields_at he hf
  obtain ⟨hb, ev⟩ := fr'.p hx
  refine wp_val (x := .pointer (some ⟨ρ.π b, o' + f.1, none⟩)) (w' := w) ?_ (kn _ _ _ (.p hb) s (.refl _ _ _))
  have hsz : (ti P f.2).size ≠ 0 := by intro e; rw [e] at h1; cases h1
  simp only [execOp, ho, ev, Instr.fieldAt, Instr.sureAddr, Sem.run_bind, Result.andThen_ok, Sem.run_pure, run_und hd, hg, fieldPlace, hg2, run_size (show 1 ≤ (ti P f.2).size from by omega), hsz, if_false, hg1, add_at]
theorem partK_ok {t : TypeId} {l : List V} {off : Nat} (hk : partK P t l off h K = true) :
    ∃ v, K v h = true ∧ ∀ (ρ : Ren) (w : World) (cs : Array Value), LR ρ l cs.toList → ∃ x, (part t cs off).run P w = .ok x w ∧ VR ρ v x := by
  unfold partK at hk
  cases ha : (ti P t).agg with
  | true =>
    rw [ha] at hk
    refine ⟨_, hk, fun ρ w cs hl => ?_⟩
    obtain ⟨e1, e2⟩ := run_isAgg_true (w := w) ha
    refine ⟨.agg (cs.extract off (off + (ti P t).size)), by simp [part, e1, e2], VR.agg' ?_⟩
    have := (hl.drop off).take (ti P t).size
    rwa [show (cs.extract off (off + (ti P t).size)).toList = (cs.toList.drop off).take (ti P t).size from by rw [Array.toList_extract, List.extract_eq_take_drop]; congr 1; omega]
  | false =>
    rw [ha] at hk
    dsimp only at hk
    split at hk <;> first | (cases hk; done) | skip
    rename_i h1 h2
    refine ⟨_, hk, fun ρ w cs hl => ?_⟩
    obtain ⟨e1, _⟩ := run_isAgg_false (w := w) h1
    obtain ⟨x, hx, hv⟩ := hl.at_ h2
    exact ⟨x, by simp [part, e1, show cs[off]? = some x from by simpa using hx], hv⟩
theorem oField_ok {t : TypeId} {x : Operand} {i : Nat} (hk : oField P t x i fr h K = true) : OpOK P (.field t x i) fr h K := by
  obtain ⟨l, hx, hk⟩ := onAgg_inv hk
  split at hk <;> first | (cases hk; done) | skip
  rename_i fs hu
  split at hk <;> first | (cases hk; done) | skip
  rename_i f hf
  obtain ⟨v, hk, hp⟩ := partK_ok hk
  refine ⟨_, _, hk, fun ρ a w o next Q ho fr' s kn => ?_⟩
  obtain ⟨fields, hd, he⟩ := und_struct hu
  obtain ⟨g, hg, hg1, hg2⟩ := fields_at he hf
  have hv := fr'.opd x
  rw [hx] at hv
  obtain ⟨as, ev, hl⟩ := hv.agg_inv
  obtain ⟨y, hy, hvy⟩ := hp ρ w as hl
  refine wp_val (x := y) (w' := w) ?_ (kn _ _ _ hvy s (.refl _ _ _))
  simp only [execOp, ho, ev, Instr.field, asAgg, Sem.run_bind, Result.andThen_ok, Sem.run_pure, run_und hd, hg, hg1, hg2, hy]
theorem nat_lt {i n : Nat} (h : Nat.ble (Nat.succ i) n = true) : i < n := ble_le h
theorem int_range {i n : Nat} (h : i < n) : (0 : Int) ≤ Int.ofNat i ∧ Int.ofNat i < (n : Int) := by constructor <;> simp <;> omega
theorem oIndexAddr_ok {t : TypeId} {x y : Operand} (hk : oIndexAddr P t x y fr h K = true) : OpOK P (.indexAddr t x y) fr h K := by
  unfold oIndexAddr at hk
  split at hk <;> first | (cases hk; done) | skip
  · rename_i e b o' len c hu hx
    obtain ⟨k, n, hy, hk⟩ := onNat_inv hk
    obtain ⟨h1, hk⟩ := recB_false hk
    obtain ⟨h1, h2⟩ := and2 h1
    rw [forceN_eq] at hk
    refine ⟨_, _, hk, fun ρ a w o next Q ho fr' s kn => ?_⟩
    have hv := fr'.opd x
    rw [hx] at hv
    obtain ⟨c', ev, hb, _⟩ := hv.sl_inv
    refine wp_val (x := .pointer (some ⟨ρ.π b, o' + n * (ti P e).size, none⟩)) (w' := w) ?_ (kn _ _ _ (.p hb) s (.refl _ _ _))
    have hr := int_range (nat_lt h1)
    have hn : (Int.ofNat n).toNat = n := rfl
    simp only [execOp, ho, ev, fr'.i hy, Instr.indexAt, asIntOf, Sem.run_bind, Result.andThen_ok, Sem.run_pure, run_und (und_slice hu), hr, and_self, if_true, run_size (ble_le h2), hn, add_at]
  · rename_i n e b o' hu hx
    obtain ⟨k, i, hy, hk⟩ := onNat_inv hk
    obtain ⟨h1, hk⟩ := recB_false hk
    obtain ⟨h1, h2⟩ := and2 h1
    rw [forceN_eq] at hk
    refine ⟨_, _, hk, fun ρ a w o next Q ho fr' s kn => ?_⟩
    obtain ⟨hb, ev⟩ := fr'.p hx
    refine wp_val (x := .pointer (some ⟨ρ.π b, o' + i * (ti P e).size, none⟩)) (w' := w) ?_ (kn _ _ _ (.p hb) s (.refl _ _ _))
    have hr := int_range (nat_lt h1)
    have hn : (Int.ofNat i).toNat = i := rfl
    simp only [execOp, ho, ev, fr'.i hy, Instr.indexAt, asIntOf, Instr.sureAddr, Sem.run_bind, Result.andThen_ok, Sem.run_pure, run_und (und_arr hu), hr, and_self, if_true, run_size (ble_le h2), hn, add_at]
theorem oIndex_ok {t : TypeId} {x y : Operand} (hk : oIndex P t x y fr h K = true) : OpOK P (.index t x y) fr h K := by
  unfold oIndex at hk
  split at hk <;> first | (cases hk; done) | skip
  · rename_i l hu hx
    obtain ⟨k, n, hy, hk⟩ := onNat_inv hk
    split at hk <;> first | (cases hk; done) | skip
    rename_i v hv
    refine ⟨_, _, hk, fun ρ a w o next Q ho fr' s kn => ?_⟩
    have hvx := fr'.opd x
    rw [hx] at hvx
    generalize ea : a.eval x = q at hvx
    cases hvx with
    | s hn hl =>
      rename_i s'
      have hlt := (List.getElem?_eq_some_iff.1 hv).1
      have h9 : s'.size = s'.data.size := by cases s'; rfl
      have hlt' : n < s'.data.size := by omega
      have hvr := hl n v _ hv (Array.getElem?_eq_getElem hlt')
      refine wp_val (x := .int .u8 (s'.data[n]).toNat) (w' := w) ?_ (kn _ _ _ hvr s (.refl _ _ _))
      have e9 : s'[(Int.ofNat n).toNat]? = some (s'.data[n]) := by
        show s'[n]? = _
        rw [getElem?_pos s' n hlt']
        rfl
      have h0 : (0 : Int) ≤ Int.ofNat n := (int_range hlt').1
      simp only [execOp, ho, ea, fr'.i hy, Instr.index, asIntOf, Sem.run_bind, Result.andThen_ok, Sem.run_pure, run_und (und_str hu), h0, if_true, e9]
  · rename_i n e l hu hx
    obtain ⟨k, i, hy, hk⟩ := onNat_inv hk
    obtain ⟨h1, hk⟩ := recB_false hk
    obtain ⟨h1, h2⟩ := and2 h1
    obtain ⟨v, hk, hp⟩ := partK_ok hk
    refine ⟨_, _, hk, fun ρ a w o next Q ho fr' s kn => ?_⟩
    have hv := fr'.opd x
    rw [hx] at hv
    obtain ⟨as, ev, hl⟩ := hv.agg_inv
    obtain ⟨z, hz, hvz⟩ := hp ρ w as hl
    refine wp_val (x := z) (w' := w) ?_ (kn _ _ _ hvz s (.refl _ _ _))
    have hr := int_range (nat_lt h1)
    have hn : (Int.ofNat i).toNat = i := rfl
    simp only [execOp, ho, ev, fr'.i hy, Instr.index, asIntOf, Sem.run_bind, Result.andThen_ok, Sem.run_pure, run_und (und_arr hu), hr, and_self, if_true, run_size (ble_le h2), hn, hz]
end
end Go.Proofs.YtphfekkllibphaaGreatDoor.Ev
namespace Go.Proofs.YtphfekkllibphaaGreatDoor.Ev
open Go Go.RowKit

theorem wrapK_eq (k : IntKind) (n : Int) : wrapK k n = k.wrap n := by
  cases n with
  | negSucc m => rfl
  | ofNat m =>
    show Bool.rec (motive := fun _ => Int) _ _ (Nat.ble 9223372036854775808 m) = _
    cases hb : Nat.ble 9223372036854775808 m with
    | true => rfl
    | false =>
      have hm : m < 9223372036854775808 := by
        apply Classical.byContradiction
        intro h
        rw [Nat.ble_eq_true_of_le (by omega)] at hb
        cases hb
      cases k <;> first
        | rfl
        | (show Int.ofNat _ = IntKind.wrap _ _; unfold IntKind.wrap IntKind.bits IntKind.signed; simp; omega)
section
variable {P : Program} {ρ : Ren} {fr : Fr} {a : Act} {h : H} {K : KT} {w : World}
theorem retI_eq (k : IntKind) (n : Int) (h : H) (K : KT) : retI k n h K = K (.i k n) h := forceI_eq n _
theorem onNN_inv {x y : Int} {K : Nat → Nat → Bool} (h : onNN x y K = true) : ∃ m n, x = .ofNat m ∧ y = .ofNat n ∧ K m n = true := by
  cases x with
  | negSucc m => cases h
  | ofNat m => cases y with
    | negSucc n => cases h
    | ofNat n => exact ⟨m, n, rfl, rfl, h⟩
theorem ltI_eq (x y : Int) : ltI x y = decide (x < y) := by
  cases x with
  | negSucc m => rfl
  | ofNat m => cases y with
    | negSucc n =>
      show false = _
      rw [eq_comm, decide_eq_false_iff_not]
      intro hlt
      have h1 : (0 : Int) ≤ Int.ofNat m := Int.natCast_nonneg m
      have h2 := Int.negSucc_lt_zero n
      exact absurd (Int.lt_trans hlt h2) (Int.not_lt.2 h1)
    | ofNat n =>
      show Nat.ble (m + 1) n = _
      by_cases hc : m < n
      · rw [Nat.ble_eq_true_of_le hc, eq_comm, decide_eq_true_iff]; exact Int.ofNat_lt.2 hc
      · rw [show Nat.ble (m + 1) n = false from by cases hb : Nat.ble (m + 1) n with | true => exact absurd (ble_le hb) hc | false => rfl, eq_comm, decide_eq_false_iff_not]
        exact fun h => hc (Int.ofNat_lt.1 h)
theorem wrap_mod (k : IntKind) (m : Nat) : k.wrap ((m % 2 ^ k.bits : Nat) : Int) = k.wrap (m : Int) := by
  have : ((m % 2 ^ k.bits : Nat) : Int) % (2 ^ k.bits : Int) = (m : Int) % (2 ^ k.bits : Int) := by
    rw [show (2 ^ k.bits : Int) = ((2 ^ k.bits : Nat) : Int) from by simp, ← Int.natCast_emod, ← Int.natCast_emod, Nat.mod_mod]
  unfold IntKind.wrap
  rw [this]
/-- What an operation on two numbers answers. -/
def BinR (o : BinOp) (k j : IntKind) (m n : Int) (v : V) : Prop := ∀ (P : Program) (t : TypeId) (w : World) (ρ : Nat × (Nat → Int)), ∃ x, (binOp o t (.int k m) (.int j n)).run P w = .ok x w ∧ RV ρ.1 ρ.2 v x
theorem bitsOf (k : IntKind) (m : Nat) : (BitVec.ofInt k.bits (Int.ofNat m)).toNat = m % 2 ^ k.bits := by
  rw [BitVec.toNat_ofInt]
  show (((m : Int) % ((2 ^ k.bits : Nat) : Int)).toNat) = _
  rw [← Int.natCast_emod, Int.toNat_natCast]
theorem binI_ok {o : BinOp} {k j : IntKind} {m n : Int} (hs : isShift o = false → k = j) (hk : binI o k m n h K = true) : ∃ v, K v h = true ∧ BinR o k j m n v := by
  cases o with
  | add => cases hs rfl; rw [show binI .add k m n h K = retI k (wrapK k (m + n)) h K from rfl, retI_eq, wrapK_eq] at hk; exact ⟨_, hk, fun P t w ρ => ⟨_, by simp [binOp, Op.intArith], .i _ _⟩⟩
  | sub => cases hs rfl; rw [show binI .sub k m n h K = retI k (wrapK k (m - n)) h K from rfl, retI_eq, wrapK_eq] at hk; exact ⟨_, hk, fun P t w ρ => ⟨_, by simp [binOp, Op.intArith], .i _ _⟩⟩
  | mul => cases hs rfl; rw [show binI .mul k m n h K = retI k (wrapK k (m * n)) h K from rfl, retI_eq, wrapK_eq] at hk; exact ⟨_, hk, fun P t w ρ => ⟨_, by simp [binOp, Op.intArith], .i _ _⟩⟩
  | eql => cases hs rfl; exact ⟨_, hk, fun P t w ρ => ⟨.bool (m == n), by simp [binOp, Op.intCmp], by rw [show (m == n) = decide (m = n) from rfl]; exact .b _⟩⟩
  | neq => cases hs rfl; exact ⟨_, hk, fun P t w ρ => ⟨.bool (m != n), by simp [binOp, Op.intCmp], by rw [show (m != n) = !decide (m = n) from rfl]; exact .b _⟩⟩
  | lss => cases hs rfl; rw [show binI .lss k m n h K = K (.b (ltI m n)) h from rfl, ltI_eq] at hk; exact ⟨_, hk, fun P t w ρ => ⟨_, by simp [binOp, Op.intCmp], .b _⟩⟩
  | gtr => cases hs rfl; rw [show binI .gtr k m n h K = K (.b (ltI n m)) h from rfl, ltI_eq] at hk; exact ⟨_, hk, fun P t w ρ => ⟨.bool (decide (n < m)), by simp [binOp, Op.intCmp], .b _⟩⟩
  | leq =>
    cases hs rfl; rw [show binI .leq k m n h K = K (.b (!ltI n m)) h from rfl, ltI_eq] at hk
    refine ⟨_, hk, fun P t w ρ => ⟨.bool (decide (m ≤ n)), by simp [binOp, Op.intCmp], ?_⟩⟩
    rw [show (!decide (n < m)) = decide (m ≤ n) from by rw [← decide_not]; exact decide_eq_decide.2 Int.not_lt]
    exact .b _
  | geq =>
    cases hs rfl; rw [show binI .geq k m n h K = K (.b (!ltI m n)) h from rfl, ltI_eq] at hk
    refine ⟨_, hk, fun P t w ρ => ⟨.bool (decide (n ≤ m)), by simp [binOp, Op.intCmp], ?_⟩⟩
    rw [show (!decide (m < n)) = decide (n ≤ m) from by rw [← decide_not]; exact decide_eq_decide.2 Int.not_lt]
    exact .b _
  | and =>
    cases hs rfl
    obtain ⟨x, y, rfl, rfl, hk2⟩ := onNN_inv (show onNN m n (fun a b => retI k (wrapK k (.ofNat (Nat.land a b))) h K) = true from hk)
    replace hk := hk2
    rw [retI_eq, wrapK_eq] at hk
    refine ⟨_, hk, fun P t w ρ => ⟨.int k (k.wrap (((x &&& y : Nat) : Nat) : Int)), ?_, .i _ _⟩⟩
    have e : k.wrap ((((BitVec.ofInt k.bits (Int.ofNat x)) &&& (BitVec.ofInt k.bits (Int.ofNat y))).toNat : Nat) : Int) = k.wrap (((x &&& y : Nat) : Nat) : Int) := by
      rw [BitVec.toNat_and, bitsOf, bitsOf, ← Nat.and_mod_two_pow, wrap_mod]
    simp [binOp, Op.intBits] at e ⊢
    exact e
  | or =>
    cases hs rfl
    obtain ⟨x, y, rfl, rfl, hk2⟩ := onNN_inv (show onNN m n (fun a b => retI k (wrapK k (.ofNat (Nat.lor a b))) h K) = true from hk)
    replace hk := hk2
    rw [retI_eq, wrapK_eq] at hk
    refine ⟨_, hk, fun P t w ρ => ⟨.int k (k.wrap (((x ||| y : Nat) : Nat) : Int)), ?_, .i _ _⟩⟩
    have e : k.wrap ((((BitVec.ofInt k.bits (Int.ofNat x)) ||| (BitVec.ofInt k.bits (Int.ofNat y))).toNat : Nat) : Int) = k.wrap (((x ||| y : Nat) : Nat) : Int) := by
      rw [BitVec.toNat_or, bitsOf, bitsOf, ← Nat.or_mod_two_pow, wrap_mod]
    simp [binOp, Op.intBits] at e ⊢
    exact e
  | shl =>
    obtain ⟨x, y, rfl, rfl, hk2⟩ := onNN_inv (show onNN m n (fun a b => (Nat.ble b k.bits).rec false (retI k (wrapK k (.ofNat (Nat.shiftLeft a b))) h K)) = true from hk)
    replace hk := hk2
    obtain ⟨h1, hk⟩ := recB_false hk
    rw [retI_eq, wrapK_eq] at hk
    refine ⟨_, hk, fun P t w ρ => ⟨_, ?_, .i _ _⟩⟩
    have h1 := ble_le h1
    have e : (Int.ofNat (Nat.shiftLeft x y) : Int) = (x : Int) * 2 ^ y := by
      rw [show Nat.shiftLeft x y = x * 2 ^ y from Nat.shiftLeft_eq x y]
      simp
    rw [e]
    simp [binOp, Op.shift, Nat.min_eq_left h1, show ¬ ((y : Int) < 0) from by omega]
  | shr =>
    obtain ⟨x, y, rfl, rfl, hk2⟩ := onNN_inv (show onNN m n (fun a b => (Nat.ble b k.bits).rec false (retI k (.ofNat (Nat.shiftRight a b)) h K)) = true from hk)
    replace hk := hk2
    obtain ⟨h1, hk⟩ := recB_false hk
    rw [retI_eq] at hk
    refine ⟨_, hk, fun P t w ρ => ⟨_, ?_, .i _ _⟩⟩
    have h1 := ble_le h1
    have e : (Int.ofNat (Nat.shiftRight x y) : Int) = Int.fdiv (x : Int) (2 ^ y) := by
      rw [show Nat.shiftRight x y = x / 2 ^ y from Nat.shiftRight_eq_div_pow x y, Int.fdiv_eq_ediv_of_nonneg _ (by have : (0 : Int) < 2 ^ y := Int.pow_pos (by decide); omega)]
      simp
    rw [e]
    simp [binOp, Op.shift, Nat.min_eq_left h1, show ¬ ((y : Int) < 0) from by omega]
  | quo =>
    cases hs rfl
    cases n with
    | negSucc y => cases hk
    | ofNat y =>
      obtain ⟨h1, hk⟩ := recB_true (show ((Nat.beq y 0).rec (retI k (wrapK k (Int.tdiv m (.ofNat y))) h K) false : Bool) = true from hk)
      rw [retI_eq, wrapK_eq] at hk
      have h0 : y ≠ 0 := fun e => by rw [e] at h1; cases h1
      refine ⟨_, hk, fun P t w ρ => ⟨_, ?_, .i _ _⟩⟩
      simp [binOp, Op.intDiv, h0]
  | rem =>
    cases hs rfl
    obtain ⟨x, y, rfl, rfl, hk2⟩ := onNN_inv (show onNN m n (fun a b => (Nat.beq b 0).rec (retI k (.ofNat (Nat.mod a b)) h K) false) = true from hk)
    replace hk := hk2
    obtain ⟨h1, hk⟩ := recB_true hk
    rw [retI_eq] at hk
    have h0 : y ≠ 0 := fun e => by rw [e] at h1; cases h1
    refine ⟨_, hk, fun P t w ρ => ⟨_, ?_, .i _ _⟩⟩
    rw [show (Int.ofNat (Nat.mod x y) : Int) = Int.tmod (x : Int) (y : Int) from rfl]
    simp [binOp, Op.intDiv, h0]
  | _ => cases hk
end
end Go.Proofs.YtphfekkllibphaaGreatDoor.Ev
