/- The reckoner: operations (11): append.  The reckoner: operations (12): going through maps, rows of zeros, the other builtins.  The reckoner: operations (13): builtins whole.  The reckoner: calls.  The reckoner: regions. -/
import Derived.Test.YtphfekkllibphaaGreatDoorEvLM
import Derived.Laws.AppendOwn
namespace Go.Proofs.YtphfekkllibphaaGreatDoor.Ev
open Go Go.RowKit

section
variable {P : Program} {ρ : Ren} {fr : Fr} {a : Act} {h : H} {K : KT} {w : World}
theorem firstK_ok {size : Nat} {v : V} {K : List V → Nat → Bool} (hk : firstK size v h K = true) :
    ∃ l n, K l n = true ∧ l.length = n * size ∧ ∀ (ρ : Ren) (w : World) (x : Value), Sat ρ h w → VR ρ v x → ∃ cs : List Value, LR ρ l cs ∧ (∀ w' : World, (Builtin.lenOf x).run P w' = .ok n w') ∧ (∀ w' : World, w'.heap = w.heap → (Builtin.firstCells size n x).run P w' = .ok cs.toArray w') := by
  unfold firstK at hk
  split at hk <;> first | (cases hk; done) | skip
  · refine ⟨_, _, hk, by simp, fun ρ w x s hv => ⟨[], .nil, ?_, ?_⟩⟩
    · cases hv; intro w'; rfl
    · cases hv; intro w' _; rfl
  · refine ⟨_, _, hk, by simp, fun ρ w x s hv => ⟨[], .nil, ?_, ?_⟩⟩
    · cases hv; intro w'; rfl
    · cases hv; intro w' _; simp [Builtin.firstCells, loadCells, loadCellsFrom]
  · rename_i b o len c
    obtain ⟨n, tr, e, g, hb, hk⟩ := O.c_inv hk
    rw [forceN_eq] at hk
    obtain ⟨h1, hk⟩ := recB_false hk
    rw [T.takeK_eq] at hk
    refine ⟨_, _, hk, T.take_length _ _ _, fun ρ w x s hv => ?_⟩
    obtain ⟨c', rfl, hbn, _⟩ := hv.sl_inv
    obtain ⟨cs, hl, hc⟩ := s.take hb (show o + len * size ≤ n from ble_le h1)
    have hlen : cs.length = len * size := by rw [← hl.1]; exact T.take_length _ _ _
    refine ⟨cs, hl, fun w' => rfl, fun w' hw' => ?_⟩
    refine run_firstCells_some (P := P) w' size len ⟨ρ.π b, o, none⟩ len c' cs hlen (fun j v hj => ?_)
    have := hc j v hj
    unfold World.cell? at this ⊢
    rw [hw']
    exact this
/-- An append within the room. -/
theorem append_in {t e ty : TypeId} {i : TypeInfo} (ht : P.underlying t = some (.slice e)) (hi : P.info? e = some i) {base : Option Addr} {sLen sCap n : Nat} {xv : Value} {new : List Value} (hlen : (Builtin.lenOf xv).run P w = .ok n w) (hfc : (Builtin.firstCells i.size n xv).run P w = .ok new.toArray w) (hroom : sLen + n ≤ sCap) :
    (Builtin.append_ #[t, t] ty #[.slice base sLen sCap, xv]).run P w = (match base with | some b => (storeCells (b.add (sLen * i.size)) new).run P w | none => .ok () w).andThen fun _ w' => .ok (.slice base (sLen + n) sCap) w' := by
  simp [Builtin.append_, run_und ht, sizeOf, run_typeInfo hi, hlen, hroom, hfc]
  cases base with
  | none => rfl
  | some b => dsimp only; rw [Sem.run_map]
/-- An append beyond it. -/
theorem append_out {t e ty : TypeId} {i : TypeInfo} {z : Value} (ht : P.underlying t = some (.slice e)) (hi : P.info? e = some i) (hz : i.zero = some z) {base : Option Addr} {sLen sCap n : Nat} {xv : Value} {old new : List Value}
    (hlen : (Builtin.lenOf xv).run P w = .ok n w) (hfc : (Builtin.firstCells i.size n xv).run P w.drew = .ok new.toArray w.drew) (hfo : (Builtin.firstCells i.size sLen (.slice base sLen sCap)).run P w.drew = .ok old.toArray w.drew)
    (hg : sCap < sLen + n) (h63 : ((sLen + n : Nat) : Int) ≤ 9223372036854775807) (hfit : Builtin.nextslicecap (sLen + n) sCap * i.bytes ≤ 281474976710656) :
    (Builtin.append_ #[t, t] ty #[.slice base sLen sCap, xv]).run P w = .ok (.slice (some ⟨w.heap.size, 0, none⟩) (sLen + n) (grownCap w (sLen + n) sCap e)) (w.drew.alloc (.cells ((old ++ new).toArray ++ Builtin.zeroCells z.cells (grownCap w (sLen + n) sCap e - (sLen + n))) e)) := by
  have hn : ¬ (sLen + n ≤ sCap) := by omega
  have h63' : ¬ (9223372036854775807 < ((sLen : Int) + (n : Int))) := by omega
  have h48' : ¬ (281474976710656 < Builtin.nextslicecap (sLen + n) sCap * i.bytes) := by omega
  simp [Builtin.append_, run_und ht, sizeOf, run_typeInfo hi, zeroValue, hz, hlen, hn, h63', h48', Question.forced, hfc, hfo, newRow, grownCap]
  congr 2
  apply Array.ext'
  simp [List.append_assoc]
/-- A new row behind an append. -/
noncomputable def growO (l : List V) (e : TypeId) (size : Nat) : O := .c l.length (T.lay l (full .u (depth l.length)) 1) e (some size)
theorem growK_eq (l : List V) (e : TypeId) (size len : Nat) (h : H) (K : KT) : growK l e size len h K = K (.sl h.nx 0 len none) (h.add (growO l e size)) := by
  unfold growK
  rw [forceN_eq, T.layK_eq, H.new_eq]
  rfl
theorem grow_vr (ρ : Ren) (r cap len : Nat) (hl : len ≤ cap) : VR (ρ.add r cap) (.sl ρ.n 0 len none) (.slice (some ⟨r, 0, none⟩) len cap) := by
  have : VR (ρ.add r cap) (.sl ρ.n 0 len none) (.slice (some ⟨(ρ.add r cap).π ρ.n, 0, none⟩) len cap) := .slu (.inl rfl) hl (fun _ => (ρ.add_γ _ _).symm)
  rwa [ρ.add_π] at this
theorem grow_ok (l : List V) (e : TypeId) (size len : Nat) {cs : List Value} {z : Array Value} {need cap : Nat} (s : Sat ρ h w) (hl : LR ρ l cs) (hln : l.length = need * size) (hz : z.size = size) (hc : need ≤ cap) (hlen : len = need) :
    ∃ ρ', VR ρ' (.sl h.nx 0 len none) (.slice (some ⟨w.heap.size, 0, none⟩) len cap) ∧ Sat ρ' (h.add (growO l e size)) (w.alloc (.cells (cs.toArray ++ Builtin.zeroCells z (cap - need)) e (0, 0))) ∧ Step ρ h w ρ' (h.add (growO l e size)) (w.alloc (.cells (cs.toArray ++ Builtin.zeroCells z (cap - need)) e (0, 0))) := by
  have hsz : (cs.toArray ++ Builtin.zeroCells z (cap - need)).size = cap * size := by
    rw [Array.size_append, size_zeroCells, hz, List.size_toArray, ← hl.1, hln, ← Nat.add_mul]
    congr 1
    omega
  obtain ⟨a1, a2⟩ := newRow_sat s (cs := cs.toArray ++ Builtin.zeroCells z (cap - need)) (tr := T.lay l (full .u (depth l.length)) 1) (n := l.length) (g := cap) (e := e) (gg := some size)
    (by rw [hsz, hln]; exact Nat.mul_le_mul_right _ hc) (fun e => by cases e) (fun q e => by injection e with e; subst e; exact hsz)
    (fun i hi => by
      obtain ⟨x, hx, hv⟩ := lay_vr hl (t := full .u (depth l.length)) i hi
      refine ⟨x, ?_, hv⟩
      rw [Array.getElem?_append_left (by rw [List.size_toArray, ← hl.1]; exact hi)]
      simpa using hx)
  exact ⟨_, by rw [← s.n]; exact grow_vr ρ _ _ _ (by omega), a1, a2⟩
theorem h_hide (h : H) (c b : Nat) : (h.upd c .z).get b = if b = c then .z else h.get b := by
  rcases h.upd_get c .z b with ⟨h1, h2 | h2⟩ | ⟨h1, h2⟩
  · rw [if_pos h1, h2]
  · rw [if_pos h1, h2]
  · rw [if_neg h1, h2]
theorem Sat.hide (s : Sat ρ h w) (c : Nat) : Sat ρ (h.upd c .z) w := s.less rfl (fun b => by
  rw [h_hide]
  split
  · exact .inr rfl
  · exact .inl rfl)
theorem Step.hide (ρ : Ren) (h : H) (w : World) (c : Nat) : Step ρ h w ρ (h.upd c .z) w := by
  refine ⟨.refl _, rfl, rfl, rfl, Nat.le_refl _, fun _ _ _ => rfl, fun b hb => .inl ⟨b, ?_, rfl⟩, Nat.le_refl _, fun _ h => List.mem_cons_of_mem _ h, fun b _ hl => ?_, rfl, fun _ h => .inl h⟩
  · rw [h_hide] at hb
    split at hb
    · exact absurd rfl hb
    · exact hb
  · rw [h_hide, if_neg]
    intro e
    exact hl (e ▸ List.mem_cons_self)
/-- append. -/
theorem bAppend_ok {t : TypeId} {v x : V} (hk : bAppend P t v x h K = true) :
    ∃ r h', K r h' = true ∧ ∀ (ρ : Ren) (w : World) (av xv : Value) (ty : TypeId), Sat ρ h w → VR ρ v av → VR ρ x xv → ∃ ρ' w' y, (Builtin.append_ #[t, t] ty #[av, xv]).run P w = .ok y w' ∧ VR ρ' r y ∧ Sat ρ' h' w' ∧ Step ρ h w ρ' h' w' := by
  unfold bAppend at hk
  split at hk <;> first | (cases hk; done) | skip
  rename_i e hu
  obtain ⟨g1, hk⟩ := recB_false hk
  obtain ⟨g1, g3⟩ := and2 g1
  obtain ⟨g1, g2⟩ := and2 g1
  have g1 := ble_le g1
  have g2 := beq_eq g2
  have g3 := ble_le g3
  obtain ⟨new, n, hk, hnl, hnew⟩ := firstK_ok (P := P) hk
  obtain ⟨g4, hk⟩ := recB_false hk
  have g4 := ble_le g4
  have ht := und_slice hu
  obtain ⟨i, z, hi, e1, hzv, hzl, _⟩ := zero_ok (P := P) (t := e) (by omega)
  have hz : i.zero = some z := by
    have := hzv (default : World)
    simp only [zeroValue, Sem.run_bind, run_typeInfo hi, Result.andThen_ok] at this
    cases hiz : i.zero with
    | none => rw [hiz] at this; cases this
    | some z' => rw [hiz] at this; injection this with this; rw [this]
  have hsz : i.size = (ti P e).size := by rw [e1]; rfl
  have hby : i.bytes = (ti P e).bytes := by rw [e1]; rfl
  have hzs : z.cells.size = (ti P e).size := by
    have e9 : (ti P e).zero = cellsV z := by rw [e1]; simp [tiOf, hz]
    rw [← Array.length_toList, ← cellsV_len, ← e9, g2]
  have hfit : ∀ len c : Nat, len ≤ 100000 → c < len + n → Builtin.nextslicecap (len + n) c * i.bytes ≤ 281474976710656 := by
    intro len c hlen hc
    refine growslice_fits hc ?_
    rw [hby]
    calc (len + n) * (ti P e).bytes ≤ 110000 * 100000 := Nat.mul_le_mul (by omega) g3
      _ ≤ 140737488355328 := by decide
  cases v with
  | sn =>
    dsimp only at hk
    cases hn0 : Nat.beq n 0 with
    | true =>
      rw [hn0] at hk
      have hn0 := beq_eq hn0
      refine ⟨_, _, hk, fun ρ w av xv ty s hav hxv => ?_⟩
      cases hav
      obtain ⟨cs, c1, c2, c3⟩ := hnew ρ w xv s hxv
      have := append_in (w := w) (ty := ty) ht hi (base := none) (sLen := 0) (sCap := 0) (c2 w) (by rw [hsz]; exact c3 w rfl) (by omega)
      rw [hn0] at this
      exact ⟨ρ, w, _, this, .sn, s, .refl _ _ _⟩
    | false =>
      rw [hn0] at hk
      have hn0 : n ≠ 0 := fun e => by rw [e] at hn0; simp at hn0
      rw [growK_eq] at hk
      refine ⟨_, _, hk, fun ρ w av xv ty s hav hxv => ?_⟩
      cases hav
      obtain ⟨cs, c1, c2, c3⟩ := hnew ρ w xv s hxv
      have h0 : (Builtin.firstCells i.size 0 (.slice none 0 0)).run P w.drew = .ok ([] : List Value).toArray w.drew := rfl
      have := append_out (w := w) (ty := ty) ht hi hz (base := none) (sLen := 0) (sCap := 0) (c2 w) (by rw [hsz]; exact c3 w.drew rfl) h0 (by omega) (by omega) (hfit 0 0 (by omega) (by omega))
      obtain ⟨ρ', b1, b2, b3⟩ := grow_ok new e (ti P e).size n (cap := grownCap w (0 + n) 0 e) s.drew c1 hnl hzs (by have := grownCap_ge w (0 + n) 0 e; omega) rfl
      refine ⟨ρ', _, _, this, ?_, ?_, ?_⟩
      · rw [Nat.zero_add] at b1 ⊢; exact b1
      · rw [List.nil_append]; rw [Nat.zero_add] at b2 ⊢; exact b2
      · rw [List.nil_append]; rw [Nat.zero_add] at b3 ⊢; exact (Step.drew ρ h w).trans b3
  | sl b o len cap =>
    dsimp only at hk
    obtain ⟨g5, hk⟩ := recB_false hk
    have g5 := ble_le g5
    cases cap with
    | some c =>
      dsimp only at hk
      cases hroom : Nat.ble (Nat.add len n) c with
      | true =>
        rw [hroom] at hk
        dsimp only at hk
        have hroom : len + n ≤ c := ble_le hroom
        rw [forceN_eq] at hk
        obtain ⟨h', hk, hst⟩ := storeL_ok (P := P) hk
        refine ⟨_, _, hk, fun ρ w av xv ty s hav hxv => ?_⟩
        obtain ⟨c', rfl, hbn, hc1, _⟩ := hav.sl_inv
        have := hc1 c rfl
        subst this
        obtain ⟨cs, c1, c2, c3⟩ := hnew ρ w xv s hxv
        obtain ⟨w', d1, d2, d3⟩ := hst ρ w cs s c1
        have := append_in (w := w) (ty := ty) ht hi (base := some ⟨ρ.π b, o, none⟩) (sLen := len) (sCap := c') (c2 w) (by rw [hsz]; exact c3 w rfl) hroom
        have d1' : (storeCells ((⟨ρ.π b, o, none⟩ : Addr).add (len * i.size)) cs).run P w = .ok () w' := by rw [add_at, hsz]; exact d1
        dsimp only at this
        rw [d1'] at this
        exact ⟨ρ, w', _, this, .slc hbn, d2, d3⟩
      | false =>
        rw [hroom] at hk
        dsimp only at hk
        have hroom : c < len + n := by
          apply Classical.byContradiction
          intro hc
          rw [show Nat.ble (Nat.add len n) c = true from Nat.ble_eq_true_of_le (show len + n ≤ c by omega)] at hroom
          cases hroom
        obtain ⟨old, n0, hk, hol, hold⟩ := firstK_ok (P := P) hk
        rw [forceN_eq] at hk
        rw [growK_eq] at hk
        refine ⟨_, _, hk, fun ρ w av xv ty s hav hxv => ?_⟩
        obtain ⟨os, o1, o2, o3⟩ := hold ρ w av s hav
        obtain ⟨c', rfl, hbn, hc1, _⟩ := hav.sl_inv
        have := hc1 c rfl
        subst this
        have hn0 : n0 = len := by have := o2 w; injection this with this; exact this.symm
        subst hn0
        obtain ⟨cs, c1, c2, c3⟩ := hnew ρ w xv s hxv
        have := append_out (w := w) (ty := ty) ht hi hz (base := some ⟨ρ.π b, o, none⟩) (sLen := n0) (sCap := c') (c2 w) (by rw [hsz]; exact c3 w.drew rfl) (by rw [hsz]; exact o3 w.drew rfl) hroom (by omega) (hfit n0 c' g5 hroom)
        obtain ⟨ρ', b1, b2, b3⟩ := grow_ok (old ++ new) e (ti P e).size (n0 + n) (cap := grownCap w (n0 + n) c' e) s.drew (o1.append c1) (by rw [List.length_append, hol, hnl, Nat.add_mul]) hzs (grownCap_ge w (n0 + n) c' e) rfl
        exact ⟨ρ', _, _, this, b1, b2, (Step.drew ρ h w).trans b3⟩
    | none =>
      dsimp only at hk
      cases hn0 : Nat.beq n 0 with
      | true =>
        rw [hn0] at hk
        have hn0 := beq_eq hn0
        subst hn0
        refine ⟨_, _, hk, fun ρ w av xv ty s hav hxv => ?_⟩
        have hav' := hav
        obtain ⟨c', rfl, hbn, _, hc2⟩ := hav.sl_inv
        obtain ⟨cs, c1, c2, c3⟩ := hnew ρ w xv s hxv
        have hcs : cs = [] := List.eq_nil_of_length_eq_zero (by rw [← c1.1, hnl, Nat.zero_mul])
        subst hcs
        have := append_in (w := w) (ty := ty) ht hi (base := some ⟨ρ.π b, o, none⟩) (sLen := len) (sCap := c') (c2 w) (by rw [hsz]; exact c3 w rfl) (hc2 rfl).1
        exact ⟨ρ, w, _, this, hav', s, .refl _ _ _⟩
      | false =>
        rw [hn0] at hk
        have hn0 : n ≠ 0 := fun e => by rw [e] at hn0; simp at hn0
        obtain ⟨nn, tr, e', g, hb, hk⟩ := O.c_inv hk
        obtain ⟨k1, hk5⟩ := recB_false hk
        obtain ⟨k1, k4⟩ := and2 k1
        obtain ⟨k1, k3⟩ := and2 k1
        obtain ⟨k1, k2⟩ := and2 k1
        obtain rfl := beq_eq k1
        obtain rfl := beq_eq k2
        cases g with
        | none => cases k3
        | some g =>
          obtain rfl := beq_eq k3
          obtain ⟨old, n0, hk6, hol, hold⟩ := firstK_ok (P := P) hk5
          rw [forceN_eq, H.put_eq, growK_eq] at hk6
          refine ⟨_, _, hk6, fun ρ w av xv ty s hav hxv => ?_⟩
          obtain ⟨os, o1, o2, o3⟩ := hold ρ w av s hav
          obtain ⟨c', rfl, hbn, _, hc2⟩ := hav.sl_inv
          obtain ⟨hc2, hc3⟩ := hc2 rfl
          have hc3 := hc3 rfl
          have hn1 : n0 = len := by have := o2 w; injection this with this; exact this.symm
          subst hn1
          obtain ⟨cs, c1, c2, c3⟩ := hnew ρ w xv s hxv
          by_cases hroom : n0 + n ≤ c'
          · obtain ⟨_, ds, fz, q2, q3, q4, q5, q6, q7⟩ := s.cells hb
            have q5 := q5 _ rfl
            have hcl : cs.length = n * (ti P e').size := by rw [← c1.1, hnl]
            have hosl : os.length = n0 * (ti P e').size := by rw [← o1.1, hol]
            have hfit2 : n0 * (ti P e').size + cs.length ≤ ds.size := by
              rw [hcl, ← Nat.add_mul, q5, ← hc3]
              exact Nat.mul_le_mul_right _ hroom
            have hone : ∀ v ∈ cs, v.oneCell' = true := fun v hv => by
              obtain ⟨i, hi⟩ := List.getElem?_of_mem hv
              have hi' := (List.getElem?_eq_some_iff.1 hi).1
              obtain ⟨q, hq⟩ : ∃ q, new[i]? = some q := ⟨_, List.getElem?_eq_getElem (by rw [hnl, ← hcl]; exact hi')⟩
              exact (c1.2 i q v hq hi).one (List.all_eq_true.1 k4 q (List.mem_of_getElem? hq))
            have d1 := run_storeCells_cells (P := P) (ρ.π b) (n0 * (ti P e').size) cs 0 w (fun j hj => by
                rw [cell_of q2, Nat.add_zero, Array.getElem?_eq_getElem (by omega)]; rfl) (fun j hj => frozen_of q2 (q7 _ (by omega))) hone
            rw [Nat.add_zero] at d1
            obtain ⟨ds', e2, e3, e4⟩ := setCells_at cs (n0 * (ti P e').size) w ds q2 hfit2
            obtain ⟨r1, r2, r3, r4⟩ := setCells_rest (b := ρ.π b) cs (n0 * (ti P e').size) w
            have := append_in (w := w) (ty := ty) ht hi (base := some ⟨ρ.π b, 0, none⟩) (sLen := n0) (sCap := c') (c2 w) (by rw [hsz]; exact c3 w rfl) hroom
            have d1' : (storeCells ((⟨ρ.π b, 0, none⟩ : Addr).add (n0 * i.size)) cs).run P w = .ok () (w.setCells (ρ.π b) (n0 * (ti P e').size) cs) := by rw [add_at, hsz, Nat.zero_add]; exact d1
            dsimp only at this
            rw [d1'] at this
            have hhid := s.hide b
            have hinj : ∀ b', (h.upd b .z).get b' ≠ .z → ρ.π b' ≠ ρ.π b := fun b' hb' e9 => by
              rw [h_hide] at hb'
              split at hb'
              · exact hb' rfl
              · rename_i hne
                exact hne (s.inj b' b hb' (by rw [hb]; simp) e9)
            -- what the block holds now
            have hcont : ∀ j, j < (old ++ new).length → ∃ x, ds'[j]? = some x ∧ VR ρ ((T.lay (old ++ new) (full .u (depth (old ++ new).length)) 1).get .u (j + 1)) x := by
              intro j hj
              obtain ⟨x, hx, hv⟩ := lay_vr (o1.append c1) (t := full .u (depth (old ++ new).length)) j hj
              refine ⟨x, ?_, hv⟩
              rw [e4]
              rcases Nat.lt_or_ge j os.length with hj2 | hj2
              · rw [if_neg (by omega)]
                rw [List.getElem?_append_left hj2] at hx
                have hfc := o3 w rfl
                have hrf : (Builtin.firstCells (ti P e').size n0 (.slice (some ⟨ρ.π b, 0, none⟩) n0 c')).run P w = .ok ((ds.toList.take (n0 * (ti P e').size))).toArray w := by
                  refine run_firstCells_some (P := P) w (ti P e').size n0 ⟨ρ.π b, 0, none⟩ n0 c' _ (by rw [List.length_take, Array.length_toList]; omega) (fun k v hk => ?_)
                  rw [List.getElem?_take] at hk
                  split at hk
                  · rw [add_at, cell_of q2, Nat.zero_add]; simpa using hk
                  · cases hk
                rw [hrf] at hfc
                injection hfc with hfc
                have hos : os = ds.toList.take (n0 * (ti P e').size) := by
                  have := congrArg Array.toList hfc
                  simpa using this.symm
                rw [hos, List.getElem?_take, if_pos (by omega)] at hx
                simpa using hx
              · have hjl : j < os.length + cs.length := by
                  have := hj
                  rw [List.length_append, hol, hnl] at this
                  omega
                rw [if_pos (by omega)]
                rw [List.getElem?_append_right hj2, hosl] at hx
                exact hx
            have hadd := hhid.add (w' := w.setCells (ρ.π b) (n0 * (ti P e').size) cs) (o := growO (old ++ new) e' (ti P e').size) (r := ρ.π b) (g := ρ.γ b)
              ⟨.inl rfl, ds', fz, by rw [ρ.add_π]; exact e2, by rw [List.length_append, hol, hnl, e3]; omega, fun e => (by cases e), fun z9 hz9 => (by
                injection hz9 with hz9
                rw [ρ.add_γ, e3, q5, hz9]), fun j hj => (by
                obtain ⟨x, hx, hv⟩ := hcont j hj
                exact ⟨x, hx, hv.mono (ρ.add_le _ _)⟩), fun j hj => q7 j (by omega)⟩ hinj (fun b' hb' => setCells_far (hinj b' hb') cs _ w)
            refine ⟨_, _, _, this, ?_, hadd, ?_⟩
            · have hnx : (h.upd b .z).nx = h.nx := rfl
              rw [hnx, ← s.n, hc3]
              exact grow_vr ρ (ρ.π b) (ρ.γ b) (n0 + n) (by omega)
            · refine ⟨ρ.add_le _ _, r2, r3, r4, by omega, fun r hr hf => setCells_far (fun e9 => hf b (by rw [hb]; simp) e9.symm) cs _ w, fun b' hb' => ?_, Nat.le_succ _, fun _ h9 => List.mem_cons_of_mem _ h9, fun b' hb' hl' => ?_, rfl, fun b' hb' => ?_⟩
              rotate_left
              · rcases (h.upd b .z).add_get (growO (old ++ new) e' (ti P e').size) b' with ⟨e9, _⟩ | ⟨hne, e9⟩
                · have : (h.upd b .z).nx = h.nx := rfl
                  omega
                · rw [e9, h_hide, if_neg]
                  intro e
                  exact hl' (e ▸ List.mem_cons_self)
              · rcases hb' with e | h9
                · exact .inr ⟨by rw [e, s.n]; exact Nat.le_refl _, by rw [e, s.n]; exact Nat.lt_succ_self _⟩
                · exact .inl h9
              rcases (h.upd b .z).add_get (growO (old ++ new) e' (ti P e').size) b' with ⟨e9, _⟩ | ⟨hne, e9⟩
              · refine .inl ⟨b, by rw [hb]; simp, ?_⟩
                rw [e9, show (h.upd b .z).nx = ρ.n from s.n.symm, ρ.add_π]
              · rw [e9, h_hide] at hb'
                split at hb'
                · exact absurd rfl hb'
                · exact .inl ⟨b', hb', ((ρ.add_le (ρ.π b) (ρ.γ b)).π b' ((s.o b').lt hb').1).symm⟩
          · have hroom : c' < n0 + n := by omega
            have := append_out (w := w) (ty := ty) ht hi hz (base := some ⟨ρ.π b, 0, none⟩) (sLen := n0) (sCap := c') (c2 w) (by rw [hsz]; exact c3 w.drew rfl) (by rw [hsz]; exact o3 w.drew rfl) hroom (by omega) (hfit n0 c' g5 hroom)
            obtain ⟨ρ', b1, b2, b3⟩ := grow_ok (old ++ new) e' (ti P e').size (n0 + n) (cap := grownCap w (n0 + n) c' e') (s.hide b).drew (o1.append c1) (by rw [List.length_append, hol, hnl, Nat.add_mul]) hzs (grownCap_ge w (n0 + n) c' e') rfl
            exact ⟨ρ', _, _, this, b1, b2, (Step.hide ρ h w b).trans ((Step.drew ρ _ w).trans b3)⟩
  | _ => cases hk
end
end Go.Proofs.YtphfekkllibphaaGreatDoor.Ev
namespace Go.Proofs.YtphfekkllibphaaGreatDoor.Ev
open Go Go.RowKit

section
variable {P : Program} {ρ : Ren} {fr : Fr} {a : Act} {h : H} {K : KT} {w : World}
theorem iter_new (s : Sat ρ h w) {m : Option Nat} {since last : Nat} (hm : ∀ c, m = some c → ρ.d c) :
    Sat (ρ.add w.heap.size 0) (h.add (.it m since [] last)) (w.alloc (.mapIter (m.map ρ.π) since #[] last)) ∧ Step ρ h w (ρ.add w.heap.size 0) (h.add (.it m since [] last)) (w.alloc (.mapIter (m.map ρ.π) since #[] last)) := by
  refine s.alloc 0 ⟨.inl rfl, fun c hc => .inr (hm c hc), ?_⟩
  rw [ρ.add_π]
  show (w.heap.push _)[w.heap.size]? = _
  rw [Array.getElem?_push_size]
  cases m with
  | none => rfl
  | some c =>
    rw [Option.map_some, Option.map_some, (ρ.add_le w.heap.size 0).π c (hm c rfl)]
theorem new_p (ρ : Ren) (r g : Nat) : VR (ρ.add r g) (.p ρ.n 0) (.pointer (some ⟨r, 0, none⟩)) := by
  have : VR (ρ.add r g) (.p ρ.n 0) (.pointer (some ⟨(ρ.add r g).π ρ.n, 0, none⟩)) := .p (.inl rfl)
  rwa [ρ.add_π] at this
theorem oRange_ok {t : TypeId} {x : Operand} (hk : oRange P t x fr h K = true) : OpOK P (.range t x) fr h K := by
  unfold oRange at hk
  split at hk <;> first | (cases hk; done) | skip
  · rename_i k e hu hx
    rw [H.new_eq] at hk
    refine ⟨_, _, hk, fun ρ a w o' next Q ho f s kn => ?_⟩
    have hv := f.opd x
    rw [hx] at hv
    generalize ea : a.eval x = q at hv
    cases hv
    obtain ⟨a1, a2⟩ := iter_new s (m := none) (since := 0) (last := 0) (fun c e => by cases e)
    refine wp_val (x := .pointer (some ⟨w.heap.size, 0, none⟩)) (w' := w.alloc (.mapIter none 0 #[] 0)) ?_ (kn _ _ _ (by rw [← s.n]; exact new_p ρ _ _) a1 a2)
    simp only [execOp, ho, ea, Instr.range, Sem.run_bind, run_und (und_map hu), Result.andThen_ok, Sem.run_pure, run_newObj]
    rfl
  · rename_i k e m hu hx
    obtain ⟨es, cl, hb, hk⟩ := O.m_inv hk
    rw [H.new_eq] at hk
    refine ⟨_, _, hk, fun ρ a w o' next Q ho f s kn => ?_⟩
    have hv := f.opd x
    rw [hx] at hv
    obtain ⟨hbn, ev⟩ := hv.m_inv
    obtain ⟨_, es', hh, her⟩ := s.map hb
    obtain ⟨a1, a2⟩ := iter_new s (m := some m) (since := cl) (last := cl) (fun c e => by injection e with e; rw [← e]; exact hbn)
    refine wp_val (x := .pointer (some ⟨w.heap.size, 0, none⟩)) (w' := w.alloc (.mapIter (some (ρ.π m)) cl #[] cl)) ?_ (kn _ _ _ (by rw [← s.n]; exact new_p ρ _ _) a1 a2)
    simp only [execOp, ho, ev, Instr.range, Sem.run_bind, run_und (und_map hu), Result.andThen_ok, Sem.run_pure, run_getObj hh, run_newObj]
    rfl
theorem run_getIt {r : Nat} {m : Option Nat} {si la : Nat} {se : Array Nat} (hb : w.heap[r]? = some (.mapIter m si se la)) : (getObj r).run P w = .ok (.mapIter m si se la) w := by
  simp [getObj, Sem.run, hb]
theorem run_setIt {r : Nat} {m : Option Nat} {si la : Nat} {se : Array Nat} {o : Obj} (hb : w.heap[r]? = some (.mapIter m si se la)) : (setObj r o).run P w = .ok () { w with heap := w.heap.setIfInBounds r o } := by
  simp [setObj, Sem.run, hb]
theorem Sat.iter {b : Nat} {m : Option Nat} {si la : Nat} {se : List Nat} (s : Sat ρ h w) (hb : h.get b = .it m si se la) : ρ.d b ∧ (∀ c, m = some c → ρ.d c) ∧ w.heap[ρ.π b]? = some (.mapIter (m.map ρ.π) si se.toArray la) := by
  have := s.o b
  rw [hb] at this
  exact this
/-- What is left of a map's entries. -/
theorem ER.filter {es : List (V × V × Nat)} {l : List MapEntry} (he : ER ρ es l) (p : Nat → Bool) : ER ρ (es.filter fun e => p e.2.2) (l.filter fun e => p e.born) := by
  induction es generalizing l with
  | nil => rw [he.nil_inv]; exact ⟨rfl, fun i e e' h => by simp at h⟩
  | cons e es ih =>
    obtain ⟨e', l', rfl, ⟨h1, h2, h3⟩, h4⟩ := he.cons_inv
    have := ih h4
    rw [List.filter_cons, List.filter_cons, h3]
    split
    · refine ⟨by simp [this.1], fun i x y hx hy => ?_⟩
      cases i with
      | zero => simp at hx hy; subst hx hy; exact ⟨h1, h2, h3⟩
      | succ i => exact this.2 i x y (by simpa using hx) (by simpa using hy)
    · exact this
theorem ER.all {es : List (V × V × Nat)} {l : List MapEntry} (he : ER ρ es l) (p : Nat → Bool) : (l.all fun e => p e.born) = es.all fun e => p e.2.2 := by
  induction es generalizing l with
  | nil => rw [he.nil_inv]; rfl
  | cons e es ih =>
    obtain ⟨e', l', rfl, ⟨h1, h2, h3⟩, h4⟩ := he.cons_inv
    rw [List.all_cons, List.all_cons, h3, ih h4]
theorem ble_dec (m n : Nat) : Nat.ble m n = decide (m ≤ n) := by
  by_cases h : m ≤ n
  · rw [Nat.ble_eq_true_of_le h, decide_eq_true h]
  · rw [decide_eq_false h]; cases hb : Nat.ble m n with | true => exact absurd (ble_le hb) h | false => rfl
theorem oNext_ok {x : Operand} {st : Bool} (hk : oNext x st fr h K = true) : OpOK P (.next x st) fr h K := by
  unfold oNext at hk
  cases st with
  | true => cases hk
  | false =>
    dsimp only at hk
    obtain ⟨r, o, hx, hk⟩ := onP_inv hk
    obtain ⟨g1, hk⟩ := recB_false hk
    obtain rfl := beq_eq g1
    split at hk <;> first | (cases hk; done) | skip
    · rename_i si se la hb
      refine ⟨_, _, hk, fun ρ a w o' next Q ho f s kn => ?_⟩
      obtain ⟨hbn, ev⟩ := f.p hx
      obtain ⟨_, _, hh⟩ := s.iter hb
      refine wp_val (x := .tuple #[.bool false]) (w' := w) ?_ (kn _ _ _ (VR.tup' (.cons (.b _) .nil)) s (.refl _ _ _))
      simp only [execOp, ho, ev, Instr.next, Sem.run_bind, run_getIt hh, Option.map_none, Result.andThen_ok, Sem.run_pure]
    · rename_i m si se la hb
      obtain ⟨es, cl, hm, hk⟩ := O.m_inv hk
      obtain ⟨g2, hk⟩ := recB_true hk
      have head : ∀ (ρ : Ren) (w : World) (es' : Array MapEntry), ER ρ es es'.toList → (!se.toArray.isEmpty && !es'.isEmpty && es'.all fun e => decide (e.born ≥ la)) = false := by
        intro ρ w es' her
        have h1 : se.toArray.isEmpty = se.isEmpty := by simp
        have h2 : es'.isEmpty = es.isEmpty := by
          have := her.1
          cases es with
          | nil =>
            have : es'.toList = [] := her.nil_inv
            have : es' = #[] := by cases es'; simp at this; simp [this]
            subst this; rfl
          | cons e es =>
            cases hes : es' with
            | mk l =>
              subst hes
              cases l with
              | nil => simp at this
              | cons e' l => rfl
        have h3 : (es'.all fun e => decide (e.born ≥ la)) = es.all fun e => Nat.ble la e.2.2 := by
          rw [← Array.all_toList, her.all fun b => decide (b ≥ la)]
          congr 1
          funext e
          rw [ble_dec]
        rw [h1, h2, h3]
        exact g2
      have left : ∀ (ρ : Ren) (es' : Array MapEntry), ER ρ es es'.toList → ER ρ (es.filter fun e => !se.contains e.2.2) (es'.filter fun e => !se.toArray.contains e.born).toList := by
        intro ρ es' her
        rw [Array.toList_filter]
        have := her.filter fun b => !se.contains b
        simpa using this
      split at hk <;> first | (cases hk; done) | skip
      · rename_i hfl
        refine ⟨_, _, hk, fun ρ a w o' next Q ho f s kn => ?_⟩
        obtain ⟨hbn, ev⟩ := f.p hx
        obtain ⟨_, hmn, hh⟩ := s.iter hb
        obtain ⟨_, es', hh2, her⟩ := s.map hm
        have hl := left ρ es' her
        rw [hfl] at hl
        have hemp : (es'.filter fun e => !se.toArray.contains e.born) = #[] := by
          have := hl.nil_inv
          exact Array.toList_eq_nil_iff.1 this
        refine wp_val (x := .tuple #[.bool false]) (w' := w) ?_ (kn _ _ _ (VR.tup' (.cons (.b _) .nil)) s (.refl _ _ _))
        simp only [execOp, ho, ev, Instr.next, Sem.run_bind, run_getIt hh, Option.map_some, Result.andThen_ok, run_getObj hh2, Sem.run_ite, head ρ w es' her, Bool.false_eq_true, if_false, hemp]
        simp [Question.forced]
      · rename_i e hfl
        obtain ⟨g3, hk⟩ := recB_true hk
        rw [H.put_eq] at hk
        refine ⟨_, _, hk, fun ρ a w o' next Q ho f s kn => ?_⟩
        obtain ⟨hbn, ev⟩ := f.p hx
        obtain ⟨_, hmn, hh⟩ := s.iter hb
        obtain ⟨_, es', hh2, her⟩ := s.map hm
        have hl := left ρ es' her
        rw [hfl] at hl
        obtain ⟨e', l', hl1, ⟨k1, k2, k3⟩, hl2⟩ := hl.cons_inv
        have hl3 := hl2.nil_inv
        subst hl3
        have hone : (es'.filter fun e => !se.toArray.contains e.born) = #[e'] := by
          have : (es'.filter fun e => !se.toArray.contains e.born).toList = (#[e'] : Array MapEntry).toList := hl1
          exact Array.toList_inj.1 this
        have hlt : ρ.π r < w.heap.size := (Array.getElem?_eq_some_iff.1 hh).1
        have hbs : e'.born < si := by
          rw [k3]
          apply Classical.byContradiction
          intro hc
          rw [Nat.ble_eq_true_of_le (by omega)] at g3
          cases g3
        obtain ⟨a1, a2⟩ := s.setObj (c := r) (o := .it (some m) si (se ++ [e.2.2]) cl) (x := .mapIter (some (ρ.π m)) si (se.toArray.push e'.born) cl) (by rw [hb]; simp)
          ⟨hbn, hmn, by rw [set_heap w hlt, k3]; simp⟩
        refine wp_val (x := .tuple #[.bool true, e'.key, e'.val]) ?_ (kn _ _ _ (VR.tup' (.cons (.b _) (.cons k1 (.cons k2 .nil)))) a1 a2)
        have hold : (#[e'] : Array MapEntry).filter (fun e => decide (e.born < si)) = #[e'] := by simp [hbs]
        have hnew : (#[e'] : Array MapEntry).filter (fun e => decide (e.born ≥ si)) = #[] := by simp; omega
        simp only [execOp, ho, ev, Instr.next, Sem.run_bind, run_getIt hh, Option.map_some, Result.andThen_ok, run_getObj hh2, Sem.run_ite, head ρ w es' her, Bool.false_eq_true, if_false, hone, hold, hnew]
        simp [Question.forced, run_setIt hh]
theorem oEntry_ok {x : Operand} (hk : oEntry x fr h K = true) : OpOK P (.entry x) fr h K := by
  obtain ⟨r, o, hx, hk⟩ := onP_inv hk
  obtain ⟨g1, hk⟩ := recB_false hk
  obtain rfl := beq_eq g1
  split at hk <;> first | (cases hk; done) | skip
  rename_i m si se la hb
  obtain ⟨es, cl, hm, hk⟩ := O.m_inv hk
  obtain ⟨g2, hk⟩ := recB_false hk
  have g2 := beq_eq g2
  split at hk <;> first | (cases hk; done) | skip
  rename_i stp hst
  split at hk <;> first | (cases hk; done) | skip
  rename_i e he
  refine ⟨_, _, hk, fun ρ a w o' next Q ho f s kn => ?_⟩
  obtain ⟨hbn, ev⟩ := f.p hx
  obtain ⟨_, hmn, hh⟩ := s.iter hb
  obtain ⟨_, es', hh2, her⟩ := s.map hm
  have hf : ∀ (es : List (V × V × Nat)) (l : List MapEntry), ER ρ es l → ∀ e, es.find? (fun e => Nat.beq e.2.2 stp) = some e → ∃ e', l.find? (fun e => e.born == stp) = some e' ∧ VR ρ e.1 e'.key ∧ VR ρ e.2.1 e'.val := by
    intro es
    induction es with
    | nil => intro l _ e h; cases h
    | cons e0 es ih =>
      intro l he e h
      obtain ⟨e', l', rfl, ⟨h1, h2, h3⟩, h4⟩ := he.cons_inv
      rw [List.find?_cons] at h ⊢
      rw [h3]
      cases hq : Nat.beq e0.2.2 stp with
      | true =>
        rw [hq] at h
        injection h with h
        subst h
        rw [show (e0.2.2 == stp) = true from by rw [beq_eq hq]; simp]
        exact ⟨e', rfl, h1, h2⟩
      | false =>
        rw [hq] at h
        rw [show (e0.2.2 == stp) = false from by
          rw [beq_eq_false_iff_ne]
          intro e9
          rw [e9] at hq
          simp at hq]
        exact ih l' h4 e h
  obtain ⟨e', he', k1, k2⟩ := hf es es'.toList her e he
  refine wp_val (x := .tuple #[e'.key, e'.val]) (w' := w) ?_ (kn _ _ _ (VR.tup' (.cons k1 (.cons k2 .nil))) s (.refl _ _ _))
  have hback : se.toArray.back? = some stp := by simpa using hst
  have hfind : es'.find? (fun e => e.born == stp) = some e' := by rw [← Array.find?_toList]; exact he'
  simp only [execOp, ho, ev, Instr.entry, Sem.run_bind, run_getIt hh, Option.map_some, Result.andThen_ok, hback, run_getObj hh2, g2, bne_self_eq_false, Sem.run_ite, Bool.false_eq_true, if_false, hfind, Sem.run_pure]
theorem zeroOne_ok {l : List V} {z : V} (hz : zeroOne l = some z) {cs : List Value} (hl : LR ρ l cs) : ∀ x ∈ cs, VR ρ z x := by
  unfold zeroOne at hz
  split at hz
  · injection hz with hz
    subst hz
    intro x hx
    obtain ⟨i, hi⟩ := List.getElem?_of_mem hx
    have hlt := (List.getElem?_eq_some_iff.1 hi).1
    have h1 := hl.1
    have hi0 : i = 0 := by simp at h1; omega
    subst hi0
    exact hl.2 0 _ x rfl hi
  · rename_i zs _
    have hz' : (Bool.rec none (some (V.i .u8 0)) (l.all fun z => match z with | .i .u8 0 => true | _ => false) : Option V) = some z := hz
    cases hq : (l.all fun z => match z with | .i .u8 0 => true | _ => false) with
    | false => rw [hq] at hz'; cases hz'
    | true =>
      rw [hq] at hz'
      injection hz' with hz'
      subst hz'
      intro x hx
      obtain ⟨i, hi⟩ := List.getElem?_of_mem hx
      have hlt := (List.getElem?_eq_some_iff.1 hi).1
      have h1 := hl.1
      obtain ⟨v, hv⟩ : ∃ v, l[i]? = some v := ⟨_, List.getElem?_eq_getElem (by omega)⟩
      have h2 := hl.2 i v x hv hi
      have h3 := List.all_eq_true.1 hq v (List.mem_of_getElem? hv)
      split at h3 <;> first | (cases h3; done) | exact h2
theorem oMakeSlice_ok {t : TypeId} {x y : Operand} (hk : oMakeSlice P t x y fr h K = true) : OpOK P (.makeSlice t x y) fr h K := by
  unfold oMakeSlice at hk
  split at hk <;> first | (cases hk; done) | skip
  rename_i e hu
  obtain ⟨k1, l, hx, hk⟩ := onNat_inv hk
  obtain ⟨k2, c, hy, hk⟩ := onNat_inv hk
  obtain ⟨g1, hk⟩ := recB_false hk
  obtain ⟨g1, g5⟩ := and2 g1
  obtain ⟨g1, g4⟩ := and2 g1
  obtain ⟨g1, g3⟩ := and2 g1
  obtain ⟨g1, g2⟩ := and2 g1
  have g1 := ble_le g1
  have g2 := ble_le g2
  have g3 : (ti P e).bytes * c ≤ 1000000000 := ble_le g3
  have g4 := ble_le g4
  have g5 := beq_eq g5
  rw [forceN_eq] at hk
  split at hk <;> first | (cases hk; done) | skip
  rename_i z hz
  rw [H.new_eq] at hk
  obtain ⟨i, v, hi, e1, hzv, hzl, _⟩ := zero_ok (P := P) (t := e) (by omega)
  refine ⟨_, _, hk, fun ρ a w o' next Q ho f s kn => ?_⟩
  have hvs : v.cells.size = (ti P e).size := by have := (hzl ρ).1; rw [← Array.length_toList, ← this, g5]
  have hall := zeroOne_ok hz (hzl ρ)
  have hby : i.bytes = (ti P e).bytes := by rw [e1]; rfl
  obtain ⟨cs, hcs⟩ : ∃ cs : Array Value, cs = (Array.range (c * (ti P e).size)).map (((if c * (ti P e).size = 0 then #[] else v.cells) : Array Value)[· % ((if c * (ti P e).size = 0 then #[] else v.cells) : Array Value).size]!) := ⟨_, rfl⟩
  have hsz : cs.size = c * (ti P e).size := by rw [hcs]; simp
  have hcell : ∀ j, j < c * (ti P e).size → ∃ x, cs[j]? = some x ∧ VR ρ z x := by
    intro j hj
    have hne : c * (ti P e).size ≠ 0 := by omega
    refine ⟨v.cells[j % v.cells.size]!, by rw [hcs]; simp [hj, hne], ?_⟩
    have hlt : j % v.cells.size < v.cells.size := Nat.mod_lt _ (by omega)
    rw [getElem!_pos v.cells _ hlt]
    exact hall _ (by simp)
  obtain ⟨a1, a2⟩ := newRow_sat s (cs := cs) (tr := full z (depth (c.mul (ti P e).size))) (n := c * (ti P e).size) (g := 0) (e := e) (gg := none) (Nat.le_of_eq hsz.symm) (fun _ => hsz) (fun q e => by cases e) (fun j hj => by
    obtain ⟨q, hq, hv⟩ := hcell j hj
    refine ⟨q, hq, ?_⟩
    rcases T.get_full z V.u (depth (c.mul (ti P e).size)) (j + 1) with h9 | h9 <;> rw [h9]
    · exact hv
    · exact .u _)
  refine wp_val (x := .slice (some ⟨w.heap.size, 0, none⟩) l c) (w' := w.alloc (.cells cs e (0, 0))) ?_ (kn _ _ _ ?_ a1 a2)
  · have hw : ∀ n : Nat, n ≤ 100000 → IntKind.i64.wrap (Int.ofNat n) = (n : Int) := by
      intro n hn
      unfold IntKind.wrap IntKind.bits IntKind.signed
      simp
      omega
    have hl := hw l (by omega)
    have hc := hw c g2
    have t1 : (decide ((c : Int) < 0) || decide (((ti P e).bytes : Int) * (c : Int) > 2 ^ 48)) = false := by
      have e48 : (2 : Int) ^ 48 = 281474976710656 := rfl
      rw [e48, Bool.or_eq_false_iff, ← Int.natCast_mul]
      generalize (ti P e).bytes * c = p at g3
      exact ⟨decide_eq_false (by omega), decide_eq_false (by omega)⟩
    have t2 : ¬ ((l : Int) < 0) ∧ ¬ ((l : Int) > (c : Int)) := by omega
    have hzero : (if c * (ti P e).size = 0 then pure #[] else do pure (← zeroValue e).cells : Sem (Array Value)).run P w = .ok (if c * (ti P e).size = 0 then #[] else v.cells) w := by
      split
      · rfl
      · simp [hzv]
    simp only [execOp, ho, f.i hx, f.i hy, Instr.makeSlice, Sem.run_bind, run_und (und_slice hu), Result.andThen_ok, asInt, asIntOf, Sem.run_pure, run_typeInfo hi, hl, hc, hby, t1, t2, decide_false, Bool.or_self, Bool.false_eq_true, if_false, Sem.run_ite, run_askRoom, run_size g4, Int.toNat_natCast]
    by_cases h0 : c * (ti P e).size = 0
    · simp only [h0, if_true] at hcs ⊢
      rw [hcs]
      rfl
    · simp only [h0, if_false, hzv, Result.andThen_ok, run_newRow] at hcs ⊢
      rw [hcs]
  · rw [← s.n]
    have : VR (ρ.add w.heap.size 0) (.sl ρ.n 0 l (some c)) (.slice (some ⟨(ρ.add w.heap.size 0).π ρ.n, 0, none⟩) l c) := .slc (.inl rfl)
    rwa [ρ.add_π] at this
/-- What a builtin does. -/
def BI (P : Program) (b : Builtin) (ts : List TypeId) (args : List V) (h : H) (K : KT) : Prop :=
  ∃ v h', K v h' = true ∧ ∀ (ρ : Ren) (w : World) (as : List Value) (ty : TypeId) (cs : Array Bool), Sat ρ h w → LR ρ args as → ∃ ρ' w' x, (builtin b ts.toArray ty cs as.toArray).run P w = .ok (.value x) w' ∧ VR ρ' v x ∧ Sat ρ' h' w' ∧ Step ρ h w ρ' h' w'
theorem LR.one_inv {v : V} {as : List Value} (h : LR ρ [v] as) : ∃ x, as = [x] ∧ VR ρ v x := by
  cases as with
  | nil => have := h.1; simp at this
  | cons x as =>
    cases as with
    | nil => exact ⟨x, rfl, h.2 0 v x rfl rfl⟩
    | cons y as => have := h.1; simp at this
theorem LR.two_inv {v z : V} {as : List Value} (h : LR ρ [v, z] as) : ∃ x y, as = [x, y] ∧ VR ρ v x ∧ VR ρ z y := by
  cases as with
  | nil => have := h.1; simp at this
  | cons x as =>
    cases as with
    | nil => have := h.1; simp at this
    | cons y as =>
      cases as with
      | nil => exact ⟨x, y, rfl, h.2 0 v x rfl rfl, h.2 1 z y rfl rfl⟩
      | cons z as => have := h.1; simp at this
/-- A builtin that answers a value. -/
theorem BI.of {b : Builtin} {ts : List TypeId} {args : List V} {v : V} {h' : H} (hk : K v h' = true) (f : Array TypeId → TypeId → Array Value → Sem Value) (hb : ∀ ty cs as, builtin b ts.toArray ty cs as = (do pure (.value (← f ts.toArray ty as))))
    (hr : ∀ (ρ : Ren) (w : World) (as : List Value) (ty : TypeId), Sat ρ h w → LR ρ args as → ∃ ρ' w' x, (f ts.toArray ty as.toArray).run P w = .ok x w' ∧ VR ρ' v x ∧ Sat ρ' h' w' ∧ Step ρ h w ρ' h' w') : BI P b ts args h K := by
  refine ⟨v, h', hk, fun ρ w as ty cs s hl => ?_⟩
  obtain ⟨ρ', w', x, h1, h2, h3, h4⟩ := hr ρ w as ty s hl
  exact ⟨ρ', w', x, by rw [hb, Sem.run_bind, h1]; rfl, h2, h3, h4⟩
theorem append_bi {t : TypeId} {v x : V} (hk : bAppend P t v x h K = true) : BI P .append [t, t] [v, x] h K := by
  obtain ⟨_, h', hk, hr⟩ := bAppend_ok hk
  refine BI.of hk Builtin.append_ (fun _ _ _ => rfl) (fun ρ w as ty s hl => ?_)
  obtain ⟨p, q, rfl, hp, hq⟩ := hl.two_inv
  exact hr ρ w p q ty s hp hq
/-- len: the types' makes. -/
theorem len_bi {t : TypeId} {v : V} (hk : (match (ti P t).und with
    | .arr n _ => K (.i .i64 (natI n)) h
    | .ptr u => (match (ti P u).und with | .arr n _ => K (.i .i64 (natI n)) h | _ => false)
    | .str => (match v with | .s l => K (.i .i64 (natI l.length)) h | _ => false)
    | .sl _ => (match v with | .sn => K (.i .i64 (natI 0)) h | .se => K (.i .i64 (natI 0)) h | .sl _ _ n _ => K (.i .i64 (natI n)) h | _ => false)
    | .map _ _ => (match v with | .mn => K (.i .i64 (natI 0)) h | .m b => onM (h.get b) fun es _ => K (.i .i64 (natI es.length)) h | _ => false)
    | _ => false) = true) : BI P .len [t] [v] h K := by
  have go : ∀ (n : Nat), K (.i .i64 (natI n)) h = true → (∀ (ρ : Ren) (w : World) (x : Value) (ty : TypeId), Sat ρ h w → VR ρ v x → (Builtin.len_ #[t] ty #[x]).run P w = .ok (goInt n) w) → BI P .len [t] [v] h K := by
    intro n hk hr
    refine BI.of hk Builtin.len_ (fun _ _ _ => rfl) (fun ρ w as ty s hl => ?_)
    obtain ⟨p, rfl, hp⟩ := hl.one_inv
    exact ⟨ρ, w, _, hr ρ w p ty s hp, .i _ _, s, .refl _ _ _⟩
  split at hk <;> first | (cases hk; done) | skip
  · rename_i n e hu
    refine go n hk (fun ρ w x ty s hv => ?_)
    simp [Builtin.len_, run_und (und_arr hu)]
  · rename_i u hu
    split at hk <;> first | (cases hk; done) | skip
    rename_i n e hu2
    refine go n hk (fun ρ w x ty s hv => ?_)
    simp [Builtin.len_, run_und (und_ptr hu), run_und (und_arr hu2)]
  · rename_i hu
    split at hk <;> first | (cases hk; done) | skip
    rename_i l
    refine go _ hk (fun ρ w x ty s hv => ?_)
    obtain ⟨s1, rfl, l1⟩ := hv.s_inv
    have : s1.size = l.length := by
      have := l1.1
      rw [List.length_map] at this
      rw [this]; cases s1; exact (Array.length_toList).symm
    rw [← this]
    simp [Builtin.len_, run_und (und_str hu)]
  · rename_i e hu
    split at hk <;> first | (cases hk; done) | skip
    · refine go _ hk (fun ρ w x ty s hv => ?_)
      cases hv
      simp [Builtin.len_, run_und (und_slice hu)]
    · refine go _ hk (fun ρ w x ty s hv => ?_)
      cases hv
      simp [Builtin.len_, run_und (und_slice hu)]
    · refine go _ hk (fun ρ w x ty s hv => ?_)
      obtain ⟨c', rfl, _⟩ := hv.sl_inv
      simp [Builtin.len_, run_und (und_slice hu)]
  · rename_i k e hu
    split at hk <;> first | (cases hk; done) | skip
    · refine go _ hk (fun ρ w x ty s hv => ?_)
      cases hv
      simp [Builtin.len_, run_und (und_map hu)]
    · obtain ⟨es, cl, hb, hk⟩ := O.m_inv hk
      refine go _ hk (fun ρ w x ty s hv => ?_)
      obtain ⟨_, rfl⟩ := hv.m_inv
      obtain ⟨_, es', hh, her⟩ := s.map hb
      have hsz : es.length = es'.size := by rw [her.1]; simp
      rw [hsz]
      simp [Builtin.len_, run_und (und_map hu), run_getObj hh]
end
end Go.Proofs.YtphfekkllibphaaGreatDoor.Ev
namespace Go.Proofs.YtphfekkllibphaaGreatDoor.Ev
open Go Go.RowKit

section
variable {P : Program} {ρ : Ren} {fr : Fr} {a : Act} {h : H} {K : KT} {w : World}
theorem copy_bi {t : TypeId} {ts : List TypeId} {v x : V} (hk : bCopy P t v x h K = true) : BI P .copy (t :: ts) [v, x] h K := by
  unfold bCopy at hk
  split at hk <;> first | (cases hk; done) | skip
  rename_i e b o len c hu
  obtain ⟨g1, hk⟩ := recB_false hk
  obtain ⟨l, n, hk2, hln, hf⟩ := firstK_ok (P := P) hk
  obtain ⟨g2, hk3⟩ := recB_false hk2
  obtain ⟨h', hk4, hst⟩ := storeL_ok (P := P) hk3
  refine BI.of hk4 Builtin.copy_ (fun _ _ _ => rfl) (fun ρ w as ty s hl => ?_)
  obtain ⟨p, q, rfl, hp, hq⟩ := hl.two_inv
  obtain ⟨c', rfl, hbn, _⟩ := hp.sl_inv
  obtain ⟨cs, c1, c2, c3⟩ := hf ρ w q s hq
  obtain ⟨w', d1, d2, d3⟩ := hst ρ w cs s c1
  refine ⟨ρ, w', goInt n, ?_, .i _ _, d2, d3⟩
  have hmin : Nat.min n len = n := Nat.min_eq_left (ble_le g2)
  simp [Builtin.copy_, run_und (und_slice hu), c2, hmin, run_size (ble_le g1), c3 w rfl, d1]
theorem delete_bi {t : TypeId} {ts : List TypeId} {v x : V} (hk : bDelete P t v x h K = true) : BI P .delete (t :: ts) [v, x] h K := by
  unfold bDelete at hk
  split at hk <;> first | (cases hk; done) | skip
  rename_i kt e hu
  obtain ⟨g1, hk⟩ := recB_false hk
  have hm := und_map hu
  split at hk <;> first | (cases hk; done) | skip
  · refine BI.of hk Builtin.delete_ (fun _ _ _ => rfl) (fun ρ w as ty s hl => ?_)
    obtain ⟨p, q, rfl, hp, hq⟩ := hl.two_inv
    cases hp
    exact ⟨ρ, w, .tuple #[], by simp [Builtin.delete_, run_und hm, checkKey_ok g1 hq true], VR.tup' .nil, s, .refl _ _ _⟩
  · rename_i b _
    obtain ⟨es, cl, hb, hk⟩ := O.m_inv hk
    obtain ⟨r, hk2, hb2, hf⟩ := findKey_ok g1 hk
    have hnz : h.get b ≠ .z := by rw [hb]; simp
    cases r with
    | none =>
      dsimp only at hk2
      rw [H.put_eq] at hk2
      refine BI.of hk2 Builtin.delete_ (fun _ _ _ => rfl) (fun ρ w as ty s hl => ?_)
      obtain ⟨p, q, rfl, hp, hq⟩ := hl.two_inv
      obtain ⟨hbn, rfl⟩ := hp.m_inv
      obtain ⟨_, es', hh, her⟩ := s.map hb
      have hlt : ρ.π b < w.heap.size := (Array.getElem?_eq_some_iff.1 hh).1
      obtain ⟨r', fr', hfk⟩ := hf ρ w es'.toList _ her hq
      rcases fr' with ⟨_, rfl⟩ | ⟨i, v, x', e', _⟩
      · obtain ⟨a1, a2⟩ := s.setObj hnz (OR.mp_of (es' := es') (cl := cl) hbn hlt her)
        refine ⟨ρ, _, .tuple #[], ?_, VR.tup' .nil, a1, a2⟩
        simp [Builtin.delete_, run_und hm, run_getObj hh, checkKey_ok g1 hq, hfk, run_setObj hh]
      · cases e'
    | some y =>
      obtain ⟨j, y⟩ := y
      dsimp only at hk2
      rw [H.put_eq] at hk2
      refine BI.of hk2 Builtin.delete_ (fun _ _ _ => rfl) (fun ρ w as ty s hl => ?_)
      obtain ⟨p, q, rfl, hp, hq⟩ := hl.two_inv
      obtain ⟨hbn, rfl⟩ := hp.m_inv
      obtain ⟨_, es', hh, her⟩ := s.map hb
      have hlt : ρ.π b < w.heap.size := (Array.getElem?_eq_some_iff.1 hh).1
      obtain ⟨r', fr', hfk⟩ := hf ρ w es'.toList _ her hq
      rcases fr' with ⟨e', _⟩ | ⟨i, v, x', e', rfl, _⟩
      · cases e'
      · injection e' with e'
        injection e' with e1 e2
        subst e1
        obtain ⟨a1, a2⟩ := s.setObj hnz (OR.mp_of (es' := es'.eraseIdxIfInBounds j) (cl := cl) (es := es.eraseIdx j) hbn hlt (by
          have := her.erase j
          rwa [show (es'.eraseIdxIfInBounds j).toList = es'.toList.eraseIdx j from by simp]))
        refine ⟨ρ, _, .tuple #[], ?_, VR.tup' .nil, a1, a2⟩
        simp [Builtin.delete_, run_und hm, run_getObj hh, checkKey_ok g1 hq, hfk, run_setObj hh]
theorem sameX_int {a b : V} {ρ : Ren} {x : Value} (h : sameX a b = true) (hv : VR ρ b x) : ∃ k n, x = .int k n := by
  unfold sameX at h
  split at h <;> first | (cases h; done) | skip
  · cases hv; exact ⟨_, _, rfl⟩
  · cases hv; exact ⟨_, _, rfl⟩
theorem findMx_ok {mx : Bool} {a b r : V} (h : findMx mx a b = some r) : ∃ f ∈ tab.mx, f.mx = mx ∧ sameX f.a a = true ∧ sameX f.b b = true ∧ f.r = r := by
  unfold findMx at h
  obtain ⟨f, hf, hr⟩ := Option.map_eq_some_iff.1 h
  have h1 := List.find?_some hf
  simp only [Bool.and_eq_true] at h1
  exact ⟨f, List.mem_of_find?_eq_some hf, eq_of_beq h1.1.1, h1.1.2, h1.2, hr⟩
theorem minmax_bi {mx : Bool} {ts : List TypeId} {l : List V} (hk : bMinMax mx l h K = true) : BI P (if mx then .max else .min) ts l h K := by
  unfold bMinMax at hk
  split at hk <;> first | (cases hk; done) | skip
  · rename_i k m j n
    cases mx with
    | true =>
      refine BI.of hk Builtin.max_ (fun _ _ _ => rfl) (fun ρ w as ty s hl => ?_)
      obtain ⟨p, q, rfl, hp, hq⟩ := hl.two_inv
      rw [hp.i_inv, hq.i_inv]
      exact ⟨ρ, w, _, by simp [Builtin.max_, Builtin.max2, List.foldlM], .i _ _, s, .refl _ _ _⟩
    | false =>
      refine BI.of hk Builtin.min_ (fun _ _ _ => rfl) (fun ρ w as ty s hl => ?_)
      obtain ⟨p, q, rfl, hp, hq⟩ := hl.two_inv
      rw [hp.i_inv, hq.i_inv]
      exact ⟨ρ, w, _, by simp [Builtin.min_, Builtin.min2, List.foldlM], .i _ _, s, .refl _ _ _⟩
  · rename_i a b _
    split at hk <;> first | (cases hk; done) | skip
    rename_i r hf
    obtain ⟨f, hm, h1, h2, h3, h4⟩ := findMx_ok hf
    subst h1
    subst h4
    have key : ∀ (ρ : Ren) (w : World) (as : List Value), LR ρ [a, b] as → ∃ k m j n, as = [.int k m, .int j n] ∧ VR ρ f.r (.int k (if f.mx then (if n > m then n else m) else (if n < m then n else m))) := by
      intro ρ w as hl
      obtain ⟨p, q, rfl, hp, hq⟩ := hl.two_inv
      obtain ⟨k, m, e1⟩ := sameX_int h2 hp
      obtain ⟨j, n, e2⟩ := sameX_int h3 hq
      subst e1 e2
      exact ⟨k, m, j, n, rfl, (ρ.ok.mx f hm k j m n (sameX_rv h2 hp) (sameX_rv h3 hq)).vr⟩
    cases hmx : f.mx with
    | true =>
      refine BI.of hk Builtin.max_ (fun _ _ _ => rfl) (fun ρ w as ty s hl => ?_)
      obtain ⟨k, m, j, n, rfl, hv⟩ := key ρ w as hl
      rw [hmx] at hv
      exact ⟨ρ, w, _, by simp [Builtin.max_, Builtin.max2, List.foldlM], hv, s, .refl _ _ _⟩
    | false =>
      refine BI.of hk Builtin.min_ (fun _ _ _ => rfl) (fun ρ w as ty s hl => ?_)
      obtain ⟨k, m, j, n, rfl, hv⟩ := key ρ w as hl
      rw [hmx] at hv
      exact ⟨ρ, w, _, by simp [Builtin.min_, Builtin.min2, List.foldlM], hv, s, .refl _ _ _⟩
theorem blanks_get (n j : Nat) : (blanks n)[j]? = some .u ∨ (blanks n)[j]? = none := by
  induction n generalizing j with
  | zero => exact .inr rfl
  | succ n ih =>
    cases j with
    | zero => exact .inl rfl
    | succ j => exact ih j
theorem blanks_len (n : Nat) : (blanks n).length = n := by
  induction n with
  | zero => rfl
  | succ n ih => show (blanks n).length + 1 = _; rw [ih]
theorem clear_bi {t : TypeId} {ts : List TypeId} {v : V} (hk : bClear P t v h K = true) : BI P .clear (t :: ts) [v] h K := by
  unfold bClear at hk
  split at hk <;> first | (cases hk; done) | skip
  · rename_i e hu
    refine BI.of hk Builtin.clear_ (fun _ _ _ => rfl) (fun ρ w as ty s hl => ?_)
    obtain ⟨p, rfl, hp⟩ := hl.one_inv
    cases hp
    exact ⟨ρ, w, .tuple #[], by simp [Builtin.clear_, run_und (und_slice hu)], VR.tup' .nil, s, .refl _ _ _⟩
  · rename_i e hu
    refine BI.of hk Builtin.clear_ (fun _ _ _ => rfl) (fun ρ w as ty s hl => ?_)
    obtain ⟨p, rfl, hp⟩ := hl.one_inv
    cases hp
    exact ⟨ρ, w, .tuple #[], by simp [Builtin.clear_, run_und (und_slice hu)], VR.tup' .nil, s, .refl _ _ _⟩
  · rename_i e b o len c hu
    obtain ⟨g1, hk⟩ := recB_false hk
    obtain ⟨g1, g9⟩ := and2 g1
    obtain ⟨g1, g2⟩ := and2 g1
    obtain ⟨n, tr, e', g, hb, hk2⟩ := O.c_inv hk
    rw [forceN_eq] at hk2
    obtain ⟨g3, hk3⟩ := recB_false hk2
    rw [T.layK_eq, H.put_eq] at hk3
    obtain ⟨i, z, hi, e1, hz, hzl, _⟩ := zero_ok (P := P) (t := e) (ble_le g1)
    refine BI.of hk3 Builtin.clear_ (fun _ _ _ => rfl) (fun ρ w as ty s hl => ?_)
    obtain ⟨p, rfl, hp⟩ := hl.one_inv
    obtain ⟨c', rfl, hbn, _⟩ := hp.sl_inv
    have hzs : z.cells.size = (ti P e).size := by have := (hzl ρ).1; rw [← Array.length_toList, ← this, beq_eq g2]
    obtain ⟨c1, ds, fz, c2, c3, c4, c5, c6, c7⟩ := s.cells hb
    have g3 : o + len * (ti P e).size ≤ n := ble_le g3
    cases hlen : len with
    | zero =>
      -- nothing is cleared: what is known may be forgotten
      refine ⟨ρ, w, .tuple #[], by simp [Builtin.clear_, run_und (und_slice hu)], VR.tup' .nil, ?_⟩
      have ho : OR ρ w b (.c n (T.lay (blanks (len.mul (ti P e).size)) tr (o + 1)) e' g) := by
        refine ⟨c1, ds, fz, c2, c3, c4, c5, fun j hj => ?_, c7⟩
        rcases T.get_lay (d := V.u) (blanks (len.mul (ti P e).size)) (t := tr) (j := j + 1) (k := o + 1) (by omega) (by omega) with ⟨_, g5, _⟩ | ⟨_, g5⟩
        · rw [blanks_len, hlen] at g5
          simp at g5
          omega
        · rw [g5]; exact c6 j hj
      rw [hlen] at ho
      exact s.upd (by rw [hb]; simp) ho rfl rfl rfl rfl (fun _ _ => rfl)
    | succ m =>
      rw [← hlen]
      have hzc : (Builtin.zeroCells z.cells len).toList.length = len * (ti P e).size := by rw [Array.length_toList, size_zeroCells, hzs]
      have hzone : ∀ q ∈ z.cells, q.oneCell' = true := fun q hq => by
        obtain ⟨j, hj⟩ := List.getElem?_of_mem (Array.mem_toList_iff.2 hq)
        have hll := (hzl ρ).1
        have hj' := (List.getElem?_eq_some_iff.1 hj).1
        obtain ⟨v, hv⟩ : ∃ v, (ti P e).zero[j]? = some v := ⟨_, List.getElem?_eq_getElem (by omega)⟩
        exact ((hzl ρ).2 j v q hv hj).one (List.all_eq_true.1 g9 v (List.mem_of_getElem? hv))
      have hone : ∀ v ∈ (Builtin.zeroCells z.cells len).toList, v.oneCell' = true := by
        intro v hv
        simp only [Builtin.zeroCells, Array.toList_map, List.mem_map] at hv
        obtain ⟨j, _, rfl⟩ := hv
        have hlt : j % z.cells.size < z.cells.size := Nat.mod_lt _ (by have := (hzl ρ).1; have := ble_le g1; rw [Array.length_toList] at *; omega)
        rw [getElem!_pos z.cells _ hlt]
        exact hzone _ (by simp)
      have d1 := run_storeCells_cells (P := P) (ρ.π b) o (Builtin.zeroCells z.cells len).toList 0 w (fun j hj => by
          rw [cell_of c2, Nat.add_zero, Array.getElem?_eq_getElem (by omega)]; rfl) (fun j hj => frozen_of c2 (c7 _ (by omega))) hone
      rw [Nat.add_zero] at d1
      obtain ⟨ds', q1, q2, q3⟩ := setCells_at (Builtin.zeroCells z.cells len).toList o w ds c2 (by omega)
      obtain ⟨r1, r2, r3, r4⟩ := setCells_rest (b := ρ.π b) (Builtin.zeroCells z.cells len).toList o w
      have ho : OR ρ (w.setCells (ρ.π b) o (Builtin.zeroCells z.cells len).toList) b (.c n (T.lay (blanks (len.mul (ti P e).size)) tr (o + 1)) e' g) := by
        refine ⟨c1, ds', fz, q1, by omega, fun e => by rw [q2]; exact c4 e, fun s e => by rw [q2]; exact c5 s e, fun j hj => ?_, fun j hj => c7 j (by omega)⟩
        rw [q3]
        rcases T.get_lay (d := V.u) (blanks (len.mul (ti P e).size)) (t := tr) (j := j + 1) (k := o + 1) (by omega) (by omega) with ⟨g4, g5, g6⟩ | ⟨g4, g5⟩
        · have hu9 : (T.lay (blanks (len.mul (ti P e).size)) tr (o + 1)).get .u (j + 1) = .u := by
            rcases g6 with g6 | g6
            · rcases blanks_get (len.mul (ti P e).size) (j + 1 - (o + 1)) with h9 | h9 <;> rw [h9] at g6
              · injection g6 with g6; exact g6.symm
              · cases g6
            · exact g6
          rw [hu9]
          rw [blanks_len] at g5
          have g5 : j + 1 < o + 1 + len * (ti P e).size := g5
          rw [if_pos (by omega)]
          obtain ⟨y, hy⟩ : ∃ y, (Builtin.zeroCells z.cells len).toList[j - o]? = some y := ⟨_, List.getElem?_eq_getElem (by omega)⟩
          exact ⟨y, hy, .u y⟩
        · rw [blanks_len] at g4
          have g4 : j + 1 < o + 1 ∨ o + 1 + len * (ti P e).size ≤ j + 1 := g4
          rw [if_neg (by omega), g5]
          exact c6 j hj
      obtain ⟨a1, a2⟩ := s.upd (by rw [hb]; simp) ho r1 r2 r3 r4 (fun r hr => setCells_far hr _ o w)
      refine ⟨ρ, _, .tuple #[], ?_, VR.tup' .nil, a1, a2⟩
      have hne : len ≠ 0 := by omega
      simp [Builtin.clear_, run_und (und_slice hu), hz]
      rw [d1]
      rfl
  · rename_i k e hu
    refine BI.of hk Builtin.clear_ (fun _ _ _ => rfl) (fun ρ w as ty s hl => ?_)
    obtain ⟨p, rfl, hp⟩ := hl.one_inv
    cases hp
    exact ⟨ρ, w, .tuple #[], by simp [Builtin.clear_, run_und (und_map hu)], VR.tup' .nil, s, .refl _ _ _⟩
  · rename_i k e b hu
    obtain ⟨es, cl, hb, hk2⟩ := O.m_inv hk
    rw [H.put_eq] at hk2
    refine BI.of hk2 Builtin.clear_ (fun _ _ _ => rfl) (fun ρ w as ty s hl => ?_)
    obtain ⟨p, rfl, hp⟩ := hl.one_inv
    obtain ⟨hbn, rfl⟩ := hp.m_inv
    obtain ⟨_, es', hh, her⟩ := s.map hb
    have hlt : ρ.π b < w.heap.size := (Array.getElem?_eq_some_iff.1 hh).1
    obtain ⟨a1, a2⟩ := s.setObj (by rw [hb]; simp) (OR.mp_of (es := []) (es' := #[]) (cl := cl) hbn hlt ⟨rfl, fun i e e' h => by simp at h⟩)
    refine ⟨ρ, _, .tuple #[], ?_, VR.tup' .nil, a1, a2⟩
    simp [Builtin.clear_, run_und (und_map hu), run_getObj hh, run_setObj hh]
theorem builtinK_ok {b : Builtin} {ts : List TypeId} {args : List V} (hk : builtinK P b ts args h K = true) : BI P b ts args h K := by
  unfold builtinK at hk
  split at hk <;> first | (cases hk; done) | skip
  · exact len_bi hk
  · obtain ⟨g1, hk⟩ := recB_false hk
    obtain rfl := beq_eq g1
    exact append_bi (by assumption)
  · exact copy_bi hk
  · exact delete_bi hk
  · exact clear_bi hk
  · exact minmax_bi (mx := true) hk
  · exact minmax_bi (mx := false) hk
end
end Go.Proofs.YtphfekkllibphaaGreatDoor.Ev
namespace Go.Proofs.YtphfekkllibphaaGreatDoor.Ev
open Go Go.RowKit

/-- The call does R. -/
def Does (P : Program) (D : FuncId → Bool) (f : FuncId) (as : List Value) (w : World) (R : Value → World → Prop) : Prop :=
  (∀ (o : Oper) (a : Act) (next : Act → World → Prop) (Q : Exit → Act → World → Prop), (∀ x w', R x w' → next (a.put o.dst x) w') → o.upon P a next Q ((callFunc f as.toArray).run P w)) ∧
  (D f = true → (callFunc f as.toArray).run P w = .ok (.enter f as.toArray) w ∧ ∀ u, CallsD P f as.toArray u w fun e u' w' => ∃ x, e = .returned x ∧ u' = u ∧ R x w')
/-- What plays calls does so. -/
def CallOK (P : Program) (D : FuncId → Bool) (C : CT) : Prop :=
  ∀ (f : FuncId) (args : List V) (h : H) (K : KT), C f args h K = true → ∃ v h', K v h' = true ∧
    ∀ (ρ : Ren) (w : World) (as : List Value), Sat ρ h w → LR ρ args as → Does P D f as w fun x w' => ∃ ρ', VR ρ' v x ∧ Sat ρ' h' w' ∧ Step ρ h w ρ' h' w'
section
variable {P : Program} {D : FuncId → Bool} {C : CT} {ρ : Ren} {fr : Fr} {a : Act} {h : H} {K : KT} {w : World}
theorem VR.f_inv {fn : Fn} {l k : List V} {x : Value} (hv : VR ρ (.f fn l k) x) : ∃ l' k' : Array Value, x = .func fn l' k' ∧ LR ρ l l'.toList ∧ LR ρ k k'.toList := by
  cases hv with
  | f hl h hk g => exact ⟨_, _, rfl, VR.lr hl h, VR.lr hk g⟩
theorem VR.ic_inv {t : TypeId} {v : V} {x : Value} (hv : VR ρ (.ic t v) x) : ∃ y, x = .iface t y ∧ VR ρ v y := by
  cases hv with
  | ic h => exact ⟨_, rfl, h⟩
theorem three (x y z : Array Value) : x ++ y ++ z = (x.toList ++ y.toList ++ z.toList).toArray := by
  apply Array.ext'
  simp
/-- A call of a function's value. -/
theorem callV_ok {c : Call} {f : Operand} (hC : CallOK P D C) (hc : c.callee = .value f) (hk : callV (opd f fr) (opds c.args.toList fr) C h K = true) : OpOK P (.call c) fr h K := by
  unfold callV at hk
  split at hk <;> first | (cases hk; done) | skip
  rename_i g first cap hf
  obtain ⟨v, h', hk, hr⟩ := hC _ _ _ _ hk
  refine ⟨v, h', hk, fun ρ a w o next Q ho fr' s kn => ?_⟩
  have hv := fr'.opd f
  rw [hf] at hv
  obtain ⟨l', k', he, h1, h2⟩ := hv.f_inv
  have hl : LR ρ (first ++ opds c.args.toList fr ++ cap) (l'.toList ++ c.args.toList.map a.eval ++ k'.toList) := (h1.append (fr'.opds _)).append h2
  have hd := (hr ρ w _ s hl).1 o a next Q (fun x w' ⟨ρ', b1, b2, b3⟩ => kn ρ' w' x b1 b2 b3)
  unfold Oper.wp
  have he2 : (execOp a.eval o).run P w = (callFunc g (l'.toList ++ c.args.toList.map a.eval ++ k'.toList).toArray).run P w := by
    simp only [execOp, ho, resolve, hc, he, Deferred.ofValue, Sem.run_bind, Sem.run_pure, Result.andThen_ok, invoke]
    rw [three, Array.toList_map]
  rw [he2]
  exact hd
theorem builtin_ok {c : Call} {b : Builtin} (hc : c.callee = .builtin b) (hk : builtinK P b c.argTypes.toList (opds c.args.toList fr) h K = true) : OpOK P (.call c) fr h K := by
  obtain ⟨v, h', hk, hr⟩ := builtinK_ok hk
  refine ⟨v, h', hk, fun ρ a w o next Q ho fr' s kn => ?_⟩
  obtain ⟨ρ', w', x, e1, e2, e3, e4⟩ := hr ρ w _ o.type (c.args.map fun | .const _ => true | _ => false) s (fr'.opds c.args.toList)
  refine wp_val (x := x) (w' := w') ?_ (kn ρ' w' x e2 e3 e4)
  simp only [execOp, ho, resolve, hc, Sem.run_bind, Sem.run_pure, Result.andThen_ok, invoke]
  rw [Array.toArray_toList, ← Array.toList_map, Array.toArray_toList] at e1
  exact e1
theorem info_types {t : TypeId} {i : TypeInfo} (h : P.types[t]? = some i) : P.info? t = some i := by
  unfold Tables.info?
  rw [if_pos (Array.getElem?_eq_some_iff.1 h).1, h]
theorem wrap_run {ts : Array TypeId} {ty : TypeId} {a : Addr} {s m : String} : (Builtin.ssaWrapNilChk_ ts ty #[.pointer (some a), strVal s, strVal m]).run P w = .ok (.pointer (some a)) w := rfl
theorem run_program : (program).run P w = .ok P w := rfl
/-- A method that is called. -/
theorem methK_ok {t : TypeId} {v : V} {name : String} {K : FuncId → V → H → Bool} (hk : methK P t v name h K = true) :
    ∃ f z, K f z h = true ∧ ∀ (ρ : Ren) (w : World) (x : Value) (n : Nat), Sat ρ h w → VR ρ v x → ∃ y, (method (n + 1) t x name).run P w = .ok (f, y) w ∧ VR ρ z y := by
  unfold methK at hk
  split at hk <;> first | (cases hk; done) | skip
  rename_i nm sg path f ptr hm
  split at hk <;> first | (cases hk; done) | skip
  rename_i hp
  cases hi : P.types[t]? with
  | none => rw [hi] at hm; cases hm
  | some i =>
    rw [hi, Option.bind_some] at hm
    split at hk <;> first | (cases hk; done) | skip
    · rename_i e hu
      obtain ⟨_, d, _, _, hd, hd2⟩ := ti_und hu (by simp)
      refine ⟨f, _, hk, fun ρ w x n s hv => ⟨x, ?_, hv⟩⟩
      have hdp : d = .pointer e := by cases d <;> simp [udOf] at hd2; rw [hd2]
      simp [method, run_typeInfo (info_types hi), hm, hp, follow, receiverAt, run_und hd, hdp, Place.get]
    · rename_i e b o hu
      obtain ⟨_, d, _, _, hd, hd2⟩ := ti_und hu (by simp)
      obtain ⟨z, hk, hl⟩ := loadV_ok hk
      refine ⟨f, z, hk, fun ρ w x n s hv => ?_⟩
      have hdp : d = .pointer e := by cases d <;> simp [udOf] at hd2; rw [hd2]
      obtain ⟨hb, rfl⟩ := hv.p_inv
      obtain ⟨y, hy, hvy⟩ := hl ρ w s
      refine ⟨y, ?_, hvy⟩
      have hpe : path = #[] := by
        apply Array.ext'
        rw [hp]
      simp [method, run_typeInfo (info_types hi), hm, hp, hpe, follow, receiverAt, run_und hd, hdp, Place.get, wrap_run, asAddr, hy]
    · rename_i hu1 hu2 hu3
      refine ⟨f, _, hk, fun ρ w x n s hv => ⟨x, ?_, hv⟩⟩
      obtain ⟨_, d, _, _, hd, hd2⟩ := ti_und (P := P) (t := t) rfl hu2
      simp [method, run_typeInfo (info_types hi), hm, hp, follow, receiverAt, run_und hd, Place.get]
      cases d <;> first | rfl | skip
      rename_i e
      exact absurd hd2.symm (hu1 e)
theorem invoke_ok {c : Call} {r : Operand} {name : String} (hC : CallOK P D C) (hc : c.callee = .invoke r name)
    (hk : (match opd r fr with | .ic t v => methK P t v name h fun f v h => C f (v :: opds c.args.toList fr) h K | _ => false) = true) : OpOK P (.call c) fr h K := by
  split at hk <;> first | (cases hk; done) | skip
  rename_i t v hr0
  obtain ⟨f, _, hk, hm⟩ := methK_ok hk
  obtain ⟨v', h', hk, hr⟩ := hC _ _ _ _ hk
  refine ⟨v', h', hk, fun ρ a w o next Q ho fr' s kn => ?_⟩
  have hv := fr'.opd r
  rw [hr0] at hv
  obtain ⟨x, he, hx⟩ := hv.ic_inv
  obtain ⟨y, hy, hvy⟩ := hm ρ w x (P.types.size + Made.depth - 1) s hx
  have hd := (hr ρ w _ s (LR.cons hvy (fr'.opds c.args.toList))).1 o a next Q (fun x w' ⟨ρ', b1, b2, b3⟩ => kn ρ' w' x b1 b2 b3)
  unfold Oper.wp
  have he2 : (execOp a.eval o).run P w = (callFunc f (y :: c.args.toList.map a.eval).toArray).run P w := by
    have hn : P.types.size + Made.depth - 1 + 1 = P.types.size + Made.depth := by
      have : 0 < Made.depth := by decide
      omega
    rw [hn] at hy
    have h0 : (#[a.eval r] ++ c.args.map a.eval)[0]? = some (a.eval r) := by
      rw [← Array.getElem?_toList, Array.toList_append]
      rfl
    have h1 : (#[a.eval r] ++ c.args.map a.eval).extract 1 (#[a.eval r] ++ c.args.map a.eval).size = c.args.map a.eval := by
      apply Array.ext'
      rw [Array.toList_extract, Array.toList_append, Array.size_append, List.extract_eq_take_drop, ← Array.length_toList (xs := c.args.map a.eval)]
      simp
      exact List.take_of_length_le (by simp)
    rw [he] at h0 h1
    simp only [execOp, ho, resolve, hc, Sem.run_bind, Sem.run_pure, Result.andThen_ok, invoke, h0, h1, callMethod, he, run_program, hy]
    congr 2
    apply Array.ext'
    simp
  rw [he2]
  exact hd
theorem oCall_ok {c : Call} (hC : CallOK P D C) (hk : oCall P c C fr h K = true) : OpOK P (.call c) fr h K := by
  unfold oCall at hk
  split at hk
  · exact callV_ok hC (by assumption) hk
  · exact builtin_ok (by assumption) hk
  · exact invoke_ok hC (by assumption) hk
/-- An operation. -/
theorem opK_ok {op : Op} (hC : CallOK P D C) (hk : opK P op C fr h K = true) : OpOK P op fr h K := by
  cases op <;> first | (cases hk; done) | skip
  · exact oMove_ok hk
  · exact oAssign_ok hk
  · exact oPick_ok hk
  · exact oAlloc_ok hk
  · exact oBox_ok hk
  · exact oBuild_ok hk
  · exact oBuildSlice_ok hk
  · exact oInsert_ok hk
  · exact oLoad_ok hk
  · exact oStore_ok hk
  · exact oNil_ok hk
  · exact oBin_ok hk
  · exact oUn_ok hk
  · exact oConv_ok hk
  · exact oArrPtr_ok hk
  · exact oIface_ok hk
  · exact oFunc_ok hk
  · exact oMakeMap_ok hk
  · exact oMakeSlice_ok hk
  · exact oSlice_ok hk
  · exact oFieldAddr_ok hk
  · exact oField_ok hk
  · exact oIndexAddr_ok hk
  · exact oIndex_ok hk
  · exact oLookup_ok hk
  · exact oMapUpd_ok hk
  · exact oRange_ok hk
  · exact oNext_ok hk
  · exact oEntry_ok hk
  · exact oAssert_ok hk
  · exact oExtract_ok hk
  · exact oCall_ok hC hk
end
end Go.Proofs.YtphfekkllibphaaGreatDoor.Ev
namespace Go.Proofs.YtphfekkllibphaaGreatDoor.Ev
open Go Go.RowKit

/-- The calls that wait. -/
inductive DR (ρ : Ren) : List (List V) → List Deferred → Prop
  | nil : DR ρ [] []
  | cons {fn : Fn} {first cap args : List V} {f' c' as' : Array Value} {df : List (List V)} {ds : List Deferred} (h1 : LR ρ first f'.toList) (h2 : LR ρ cap c'.toList) (h3 : LR ρ args as'.toList) (hd : DR ρ df ds) :
      DR ρ ((.f fn first cap :: args) :: df) ({ target := .fn fn c', args := f' ++ as' } :: ds)
theorem DR.mono {ρ ρ' : Ren} (hle : ρ.le ρ') {df : List (List V)} {ds : List Deferred} (h : DR ρ df ds) : DR ρ' df ds := by
  induction h with
  | nil => exact .nil
  | cons h1 h2 h3 _ ih => exact .cons (h1.mono hle) (h2.mono hle) (h3.mono hle) ih
/-- Slots, memory and the calls that wait are as known. -/
structure St (N : Nat) (ρ : Ren) (fr : Fr) (h : H) (a : Act) (w : World) : Prop where
  fr : FR ρ fr a
  sat : Sat ρ h w
  size : a.tmps.size = N
  df : DR ρ h.df a.defers
def H.bare (h : H) : H := ⟨h.t, h.nx, h.lg, []⟩
theorem Step.bare {ρ ρ' : Ren} {h h' : H} {w w' : World} (s : Step ρ h w ρ' h' w') : Step ρ h.bare w ρ' h'.bare w' :=
  ⟨s.le, s.os, s.tape, s.output, s.size, s.frame, s.img, s.nx, s.lg, s.keep, rfl, s.new⟩
section
variable {P : Program} {D : FuncId → Bool} {C : CT} {ρ : Ren} {fr : Fr} {a : Act} {h : H} {w : World} {N : Nat}
noncomputable def Fr.putv (fr : Fr) (d : Option Tmp) (v : V) : Fr := match d with | none => fr | some d => T.set fr (d + 1) v
theorem putK_eq (d : Option Tmp) (v : V) (fr : Fr) (K : Fr → Bool) : putK d v fr K = K (Fr.putv fr d v) := by
  cases d with
  | none => rfl
  | some d => exact T.setK_eq fr (d + 1) v K
theorem FR.put {d : Option Tmp} {v : V} {x : Value} (f : FR ρ fr a) (hv : VR ρ v x) (hd : ∀ t, d = some t → t < a.tmps.size) : FR ρ (Fr.putv fr d v) (a.put d x) := by
  cases d with
  | none => exact f
  | some d =>
    intro t
    have hlt := hd d rfl
    show VR ρ ((T.set fr (d + 1) v).get .u (t + 1)) ((a.tmps.setIfInBounds d x).getD t undef)
    rw [Array.getD_eq_getD_getElem?, Array.getElem?_setIfInBounds]
    rcases T.get_set (d := V.u) (t := fr) (j := t + 1) (k := d + 1) v (by omega) (by omega) with ⟨h1, h2⟩ | ⟨h1, h2⟩
    · have : d = t := (Nat.succ.inj h1).symm
      subst this
      rw [if_pos rfl, if_pos hlt, Option.getD_some]
      rcases h2 with h2 | h2 <;> rw [h2]
      · exact hv
      · exact .u _
    · rw [if_neg (fun e => h1 (by rw [e])), h2]
      have := f t
      rwa [Array.getD_eq_getD_getElem?] at this
theorem put_size (a : Act) (d : Option Tmp) (x : Value) : (a.put d x).tmps.size = a.tmps.size := by cases d <;> simp [Act.put]
theorem put_defers (a : Act) (d : Option Tmp) (x : Value) : (a.put d x).defers = a.defers := by cases d <;> rfl
theorem St.put {ρ' : Ren} {h' : H} {w' : World} {d : Option Tmp} {v : V} {x : Value} (s : St N ρ fr h a w) (hv : VR ρ' v x) (hs : Sat ρ' h' w') (st : Step ρ h w ρ' h' w') (hd : ∀ t, d = some t → t < N) :
    St N ρ' (Fr.putv fr d v) h' (a.put d x) w' :=
  ⟨(s.fr.mono st.le).put hv (fun t e => by rw [s.size]; exact hd t e), hs, by rw [put_size, s.size], by rw [put_defers, st.df]; exact s.df.mono st.le⟩
/-- Is it wanted? -/
theorem wantedK_ok {ops : Array Oper} {o : Oper} {yes no : Bool} (hk : wantedK ops o fr yes no = true) :
    (yes = true ∧ ∀ (ρ : Ren) (a : Act), FR ρ fr a → Region.wanted o (yielded ops a.tmps) = true) ∨ (no = true ∧ ∀ (ρ : Ren) (a : Act), FR ρ fr a → Region.wanted o (yielded ops a.tmps) = false) := by
  unfold wantedK at hk
  split at hk
  · rename_i hg
    exact .inl ⟨hk, fun ρ a f => by simp [Region.wanted, hg]⟩
  · rename_i j want hg
    split at hk <;> first | (cases hk; done) | skip
    rename_i d hd
    split at hk <;> first | (cases hk; done) | skip
    · rename_i x hx
      have key : ∀ (ρ : Ren) (a : Act), FR ρ fr a → Region.wanted o (yielded ops a.tmps) = (x == want) := fun ρ a f => by
        have h1 := f d
        rw [show d + 1 = Nat.succ d from rfl, hx] at h1
        have h2 := h1.b_inv
        have h3 : a.tmps[d]? = some (.bool x) := by
          rw [Array.getD_eq_getD_getElem?] at h2
          cases hq : a.tmps[d]? with
          | none => rw [hq] at h2; cases h2
          | some y => rw [hq] at h2; exact congrArg some h2
        unfold Region.wanted yielded
        simp only [hg, hd, Option.bind_some, h3]
        cases x <;> cases want <;> rfl
      cases hxw : (x == want) with
      | true =>
        rw [hxw] at hk
        exact .inl ⟨hk, fun ρ a f => by rw [key ρ a f, hxw]⟩
      | false =>
        rw [hxw] at hk
        exact .inr ⟨hk, fun ρ a f => by rw [key ρ a f, hxw]⟩
    · rename_i l hx
      refine .inr ⟨hk, fun ρ a f => ?_⟩
      have h1 := f d
      rw [show d + 1 = Nat.succ d from rfl, hx] at h1
      obtain ⟨as, h2, _⟩ := h1.tup_inv
      have h3 : (ops[j]?.bind (·.dst)).bind (a.tmps[·]?) = a.tmps[d]? := by rw [hd]; rfl
      unfold Region.wanted yielded
      simp only [hg]
      rw [h3]
      rw [Array.getD_eq_getD_getElem?] at h2
      cases hq : a.tmps[d]? with
      | none => rfl
      | some y =>
        rw [hq] at h2
        have h4 : y = .tuple as := h2
        rw [h4]
        rfl
/-- A region's operations in their order. -/
theorem regFK_ok {ops : Array Oper} {K : Fr → H → Bool} (hC : CallOK P D C) (hN : ∀ o ∈ ops.toList, ∀ d, o.dst = some d → d < N) : ∀ (l : List Oper) (k : Nat) (fr : Fr) (h : H), ops.toList.drop k = l → regFK P C ops K l fr h = true →
    ∃ fr' h', K fr' h' = true ∧ ∀ (ρ : Ren) (a : Act) (w : World) (Q : Exit → Act → World → Prop), St N ρ fr h a w → (∀ ρ' a' w', St N ρ' fr' h' a' w' → Step ρ h.bare w ρ' h'.bare w' → Q .normal a' w') →
      wpOps P ops Q (List.range' k l.length) a w := by
  intro l
  induction l with
  | nil => exact fun k fr h _ hk => ⟨fr, h, hk, fun ρ a w Q s kn => kn ρ a w s (.refl _ _ _)⟩
  | cons o l ih =>
    intro k fr h hl hk
    have ho : ops[k]? = some o := by
      have : (ops.toList.drop k)[0]? = some o := by rw [hl]; rfl
      rw [List.getElem?_drop, Array.getElem?_toList] at this
      exact this
    have hl' : ops.toList.drop (k + 1) = l := by
      rw [← List.tail_drop, hl]
      rfl
    have hdst : ∀ t, o.dst = some t → t < N := fun t e => hN o (List.mem_of_getElem? (by rw [Array.getElem?_toList]; exact ho)) t e
    rcases wantedK_ok hk with ⟨hk, hw⟩ | ⟨hk, hw⟩
    · split at hk
      · rename_i c hop
        split at hk <;> first | (cases hk; done) | skip
        rename_i hno
        unfold oDefer at hk
        split at hk <;> first | (cases hk; done) | skip
        rename_i f hc
        split at hk <;> first | (cases hk; done) | skip
        rename_i fn first cap hf
        obtain ⟨fr', h', hk, hr⟩ := ih (k + 1) fr _ hl' hk
        refine ⟨fr', h', hk, fun ρ a w Q s kn => ?_⟩
        rw [List.length_cons, List.range'_succ, wpOps_cons]
        unfold wpOp
        rw [ho]
        simp only []
        rw [if_pos (hw ρ a s.fr)]
        refine .inl ?_
        have hv := s.fr.opd f
        rw [hf] at hv
        obtain ⟨f', c', he, h1, h2⟩ := hv.f_inv
        have hrun : (execOp a.eval o).run P w = .ok (.defer { target := .fn fn c', args := f' ++ c.args.map a.eval }) w := by
          simp [execOp, hop, resolve, hc, he, Deferred.ofValue]
        unfold Oper.wp
        rw [hrun, Oper.upon_defer, hno]
        refine hr ρ _ w Q ⟨s.fr, s.sat.less rfl (fun _ => .inl rfl), s.size, ?_⟩ (fun ρ' a' w' s' st => kn ρ' a' w' s' st)
        refine .cons h1 h2 ?_ s.df
        rw [Array.toList_map]
        exact s.fr.opds _
      · obtain ⟨v, h1, hk, hr1⟩ := opK_ok hC hk
        replace hk := (putK_eq _ _ _ _).symm.trans hk
        obtain ⟨fr', h', hk, hr⟩ := ih (k + 1) _ _ hl' hk
        refine ⟨fr', h', hk, fun ρ a w Q s kn => ?_⟩
        rw [List.length_cons, List.range'_succ, wpOps_cons]
        unfold wpOp
        rw [ho]
        simp only []
        rw [if_pos (hw ρ a s.fr)]
        refine .inl (hr1 ρ a w o _ Q rfl s.fr s.sat (fun ρ' w' x hv hs st => ?_))
        exact hr ρ' _ w' Q (s.put hv hs st hdst) (fun ρ2 a2 w2 s2 st2 => kn ρ2 a2 w2 s2 (st.bare.trans st2))
    · rw [putK_eq] at hk
      obtain ⟨fr', h', hk, hr⟩ := ih (k + 1) _ _ hl' hk
      refine ⟨fr', h', hk, fun ρ a w Q s kn => ?_⟩
      rw [List.length_cons, List.range'_succ, wpOps_cons]
      unfold wpOp
      rw [ho]
      simp only []
      rw [if_neg (by rw [hw ρ a s.fr]; simp)]
      exact hr ρ _ w Q (s.put (VR.tup' .nil) s.sat (.refl _ _ _) hdst) kn
/-- Without deferred calls. -/
theorem regK_ok {ops : Array Oper} {K : Fr → H → Bool} (hC : CallOK P D C) (hN : ∀ o ∈ ops.toList, ∀ d, o.dst = some d → d < N) : ∀ (l : List Oper) (k : Nat) (fr : Fr) (h : H), ops.toList.drop k = l → regK P C ops K l fr h = true →
    ∃ fr' h', K fr' h' = true ∧ ∀ (ρ : Ren) (a : Act) (w : World) (Q : Exit → Act → World → Prop), St N ρ fr h a w → (∀ ρ' a' w', St N ρ' fr' h' a' w' → Step ρ h w ρ' h' w' → Q .normal a' w') →
      wpOps P ops Q (List.range' k l.length) a w := by
  intro l
  induction l with
  | nil => exact fun k fr h _ hk => ⟨fr, h, hk, fun ρ a w Q s kn => kn ρ a w s (.refl _ _ _)⟩
  | cons o l ih =>
    intro k fr h hl hk
    have ho : ops[k]? = some o := by
      have : (ops.toList.drop k)[0]? = some o := by rw [hl]; rfl
      rw [List.getElem?_drop, Array.getElem?_toList] at this
      exact this
    have hl' : ops.toList.drop (k + 1) = l := by
      rw [← List.tail_drop, hl]
      rfl
    have hdst : ∀ t, o.dst = some t → t < N := fun t e => hN o (List.mem_of_getElem? (by rw [Array.getElem?_toList]; exact ho)) t e
    rcases wantedK_ok hk with ⟨hk, hw⟩ | ⟨hk, hw⟩
    · obtain ⟨v, h1, hk, hr1⟩ := opK_ok hC hk
      replace hk := (putK_eq _ _ _ _).symm.trans hk
      obtain ⟨fr', h', hk, hr⟩ := ih (k + 1) _ _ hl' hk
      refine ⟨fr', h', hk, fun ρ a w Q s kn => ?_⟩
      rw [List.length_cons, List.range'_succ, wpOps_cons]
      unfold wpOp
      rw [ho]
      simp only []
      rw [if_pos (hw ρ a s.fr)]
      refine .inl (hr1 ρ a w o _ Q rfl s.fr s.sat (fun ρ' w' x hv hs st => ?_))
      exact hr ρ' _ w' Q (s.put hv hs st hdst) (fun ρ2 a2 w2 s2 st2 => kn ρ2 a2 w2 s2 (st.trans st2))
    · replace hk := (putK_eq _ _ _ _).symm.trans hk
      obtain ⟨fr', h', hk, hr⟩ := ih (k + 1) _ _ hl' hk
      refine ⟨fr', h', hk, fun ρ a w Q s kn => ?_⟩
      rw [List.length_cons, List.range'_succ, wpOps_cons]
      unfold wpOp
      rw [ho]
      simp only []
      rw [if_neg (by rw [hw ρ a s.fr]; simp)]
      exact hr ρ _ w Q (s.put (VR.tup' .nil) s.sat (.refl _ _ _) hdst) kn
end
end Go.Proofs.YtphfekkllibphaaGreatDoor.Ev
