/- Ints that a slice reads as; rows of ints of the call's own. -/
import Derived.Test.YtchdfogifhfclaaGreatDoorMem
import Derived.Maps.AppendAt
import Derived.Deep.AppendLies
import Derived.Deep.RegionHeldLaw
import Derived.OwnWalk
import Derived.Laws.OwnMore
namespace Go.Proofs.YtchdfogifhfclaaGreatDoor.Ck8
open Go.RowKit

def I8 (x : Int) : Value := .int .i64 x
/-- v is a slice that reads as these ints, in blocks of G. -/
def IntsV (G : Nat → Prop) (w : World) (v : Value) (l : List Int) : Prop :=
  ∃ (a : Option Addr) (c : Nat), v = .slice a l.length c ∧ l.length ≤ c ∧ c ≤ maxLen ∧ (a = none → c = 0) ∧
    (0 < l.length → ∃ b o, a = some ⟨b, o, none⟩ ∧ b < w.heap.size ∧ G b ∧ ∀ (j : Nat) (x : Int), l[j]? = some x → w.cell? ⟨b, o + j, none⟩ = some (.int .i64 x))

theorem IntsV.keep {G : Nat → Prop} {w w' : World} {v : Value} {l : List Int} (h : IntsV G w v l) (hk : ∀ k, k < w.heap.size → G k → w'.heap[k]? = w.heap[k]?) (hs : w.heap.size ≤ w'.heap.size) : IntsV G w' v l := by
  obtain ⟨a, c, h1, h2, h3, h4, h5⟩ := h
  refine ⟨a, c, h1, h2, h3, h4, fun hl => ?_⟩
  obtain ⟨b, o, e, hb, hG, hc⟩ := h5 hl
  exact ⟨b, o, e, Nat.lt_of_lt_of_le hb hs, hG, fun j x hx => (World.cell?_of_block (w := w) (a := ⟨b, o + j, none⟩) (hk b hb hG)).trans (hc j x hx)⟩
theorem IntsV.mono {G G' : Nat → Prop} {w : World} {v : Value} {l : List Int} (h : IntsV G w v l) (hG : ∀ k, k < w.heap.size → G k → G' k) : IntsV G' w v l := by
  obtain ⟨a, c, h1, h2, h3, h4, h5⟩ := h
  refine ⟨a, c, h1, h2, h3, h4, fun hl => ?_⟩
  obtain ⟨b, o, e, hb, hg, hc⟩ := h5 hl
  exact ⟨b, o, e, hb, hG b hb hg, hc⟩
theorem IntsV.mod {F G : Nat → Prop} {w w' : World} {v : Value} {l : List Int} (h : IntsV G w v l) (hm : Mod F w w') (hd : ∀ k, k < w.heap.size → G k → ¬ F k) : IntsV G w' v l :=
  h.keep (fun k hk hG => hm.block k hk (hd k hk hG)) hm.size
theorem IntsV.below {G : Nat → Prop} {w w' : World} {v : Value} {l : List Int} (h : IntsV G w v l) (hm : Below w.heap.size w w') : IntsV G w' v l :=
  h.keep (fun k hk _ => hm.block k hk) hm.size
theorem IntsV.nil (G : Nat → Prop) (w : World) : IntsV G w (.slice none 0 0) [] := ⟨none, 0, rfl, Nat.le_refl _, Nat.zero_le _, fun _ => rfl, fun h => by simp at h⟩
theorem IntsV.old {G : Nat → Prop} {w : World} {v : Value} {l : List Int} (h : IntsV G w v l) : IntsV (fun k => G k ∧ k < w.heap.size) w v l := h.mono (fun _ hk hg => ⟨hg, hk⟩)
/-- A block of its own that holds just these ints. -/
theorem IntsV.of_block {w : World} {d : Nat} {t : TypeId} {fr : Nat × Nat} {l : List Int} {c : Nat} {cs : Array Value} (h : w.heap[d]? = some (.cells cs t fr)) (hcs : ∀ (j : Nat) (x : Int), l[j]? = some x → cs[j]? = some (.int .i64 x)) (hc : l.length ≤ c) (hm : c ≤ maxLen) :
    IntsV (fun k => k = d) w (.slice (some ⟨d, 0, none⟩) l.length c) l := by
  refine ⟨_, c, rfl, hc, hm, fun h => (by cases h), fun _ => ⟨d, 0, rfl, lt_of_heap h, rfl, fun j x hx => ?_⟩⟩
  rw [Nat.zero_add]
  simp [World.cell?, h, hcs j x hx]
theorem IntsV.length_le {G : Nat → Prop} {w : World} {v : Value} {l : List Int} (h : IntsV G w v l) : l.length ≤ maxLen := by
  obtain ⟨a, c, _, h2, h3, _⟩ := h; omega
/-- Element k: the address, the cell. -/
theorem IntsV.at_ {G : Nat → Prop} {w : World} {v : Value} {l : List Int} (h : IntsV G w v l) {j : Nat} {x : Int} (hx : l[j]? = some x) : ∃ b o c, v = .slice (some ⟨b, o, none⟩) l.length c ∧ l.length ≤ c ∧ c ≤ maxLen ∧ b < w.heap.size ∧ G b ∧ w.cell? ⟨b, o + j, none⟩ = some (.int .i64 x) := by
  obtain ⟨a, c, rfl, h2, h3, h4, h5⟩ := h
  obtain ⟨b, o, rfl, hb, hg, hc⟩ := h5 (by have := (List.getElem?_eq_some_iff.1 hx).1; omega)
  exact ⟨b, o, c, rfl, h2, h3, hb, hg, hc j x hx⟩
theorem ownsRow_keep {w w' : World} {base : Nat} {e : TypeId} {size : Nat} {v : Value} {n : Nat} {xs : List Value} (h : w.ownsRow base e size v n xs) (hk : ∀ g, v.ownBlock = some g → w'.heap[g]? = w.heap[g]?) : w'.ownsRow base e size v n xs := by
  obtain ⟨h1, h2⟩ := h
  refine ⟨h1, ?_⟩
  rcases h2 with h2 | ⟨g, cap, cur, hv, hb, hh, r⟩
  · exact Or.inl h2
  · exact Or.inr ⟨g, cap, cur, hv, hb, (hk g (by rw [hv]; rfl)).trans hh, r⟩
theorem own_slice {w : World} {base : Nat} {e : TypeId} {size n : Nat} {v : Value} {xs : List Value} (h : w.ownsRow base e size v n xs) : ∃ a c, v = .slice a n c := by
  rcases h.2 with ⟨h, h'⟩ | ⟨g, cap, cur, hv, _⟩
  · exact ⟨none, 0, by rw [h, h']⟩
  · exact ⟨_, _, hv⟩
/-- A row of its own that holds these ints reads as them. -/
theorem IntsV.of_own {w : World} {base : Nat} {e : TypeId} {v : Value} {n : Nat} {l : List Int} (h : w.ownsRow base e 1 v n (l.map I8)) : IntsV (fun k => base ≤ k) w v l := by
  have hl : l.length = n := by simpa using h.1
  obtain ⟨_, ⟨rfl, rfl⟩ | ⟨g, cap, cur, rfl, hg, hh, hnc, hcm, hcs, ht⟩⟩ := h
  · obtain rfl : l = [] := List.eq_nil_of_length_eq_zero hl
    exact IntsV.nil _ _
  · subst hl
    refine (IntsV.of_block hh (fun j x hx => ?_) hnc hcm).mono (fun k _ hk => hk ▸ hg)
    have hj := (List.getElem?_eq_some_iff.1 hx).1
    rw [← Array.getElem?_toList, ← List.getElem?_take_of_lt (l := cur.toList) (show j < l.length * 1 by omega), ht, List.getElem?_map, hx]; rfl
theorem I8_one (l : List Int) : ∀ u ∈ l.map I8, u.oneCell' = true := by
  intro u hu
  obtain ⟨x, _, rfl⟩ := List.mem_map.1 hu
  rfl
theorem append_none {P : Program} (w : World) (base : Nat) (t ty e : TypeId) (i : TypeInfo) (size : Nat) (ht : P.underlying t = some (.slice e)) (hi : P.info? e = some i)
    (v : Value) (n : Nat) (xs : List Value) (hown : w.ownsRow base e size v n xs) (c : Nat) : (Builtin.append_ #[t, t] ty #[v, .slice none 0 c]).run P w = .ok v w := by
  obtain ⟨_, ⟨rfl, rfl⟩ | ⟨g, cap, cur, rfl, _, _, hnc, _⟩⟩ := hown
  · simp [Builtin.append_, run_underlying ht, sizeOf, typeInfo, hi, Builtin.lenOf, Builtin.firstCells]
  · simp [Builtin.append_, run_underlying ht, sizeOf, typeInfo, hi, Builtin.lenOf, Builtin.firstCells, hnc, storeCells]
/-- append(v, ints...): v a row of its own. -/
theorem append_ints {P : Program} (w : World) (base : Nat) (t ty e : TypeId) (i : TypeInfo) (ht : P.underlying t = some (.slice e)) (hi : P.info? e = some i) (hz : i.zero = some (.int .i64 0)) (h1 : i.size = 1) (h2 : i.bytes = 8)
    (v : Value) (n : Nat) (xs : List Value) (hown : w.ownsRow base e 1 v n xs) (D : Nat → Prop) (sv : Value) (l : List Int) (hb : IntsV D w sv l) (hl : (n + l.length) * 8 ≤ 140737488355328) (hbase : base ≤ w.heap.size) :
    ∃ v' w', (Builtin.append_ #[t, t] ty #[v, sv]).run P w = .ok v' w' ∧ w'.ownsRow base e 1 v' (n + l.length) (xs ++ l.map I8) ∧ w.grownBy w' v.ownBlock ∧ (v'.ownBlock = v.ownBlock ∨ v'.ownBlock = some w.heap.size) := by
  obtain ⟨a, c, rfl, h3, h4, h5, h6⟩ := hb
  cases a with
  | none =>
    have hl0 : l = [] := List.eq_nil_of_length_eq_zero (by have := h5 rfl; omega)
    subst hl0
    exact ⟨v, w, append_none w base t ty e i 1 ht hi v n xs hown c, by simpa using hown, World.grownBy.refl w _, .inl rfl⟩
  | some ad =>
    have hc : ∀ j u, (l.map I8)[j]? = some u → w.cell? (ad.add j) = some u := by
      intro j u hu
      rw [List.getElem?_map] at hu
      obtain ⟨x, hx, rfl⟩ := Option.map_eq_some_iff.1 hu
      have hlt := (List.getElem?_eq_some_iff.1 hx).1
      obtain ⟨b, o, e1, _, _, hcell⟩ := h6 (by omega)
      injection e1 with e1
      subst e1
      rw [Addr.add_mid]
      exact hcell j x hx
    obtain ⟨v', w', hrun, a1, a2, _, a3⟩ := run_append_own_at (P := P) w base t ty e i (.int .i64 0) 1 8 ht hi hz h1 h2 rfl (by omega) v n xs hown ad l.length c (l.map I8) (by simp) hc (I8_one l) (by simp only [maxLen]; omega) (by omega) hbase
    exact ⟨v', w', hrun, a1, a2, a3⟩
theorem wpList_append_ints {P : Program} {w : World} {ops : Array Oper} {rest : List Oper} {o : Oper} {a : Act} {Q : Exit → Act → World → Prop} (hgd : o.guard = none) (s x : Operand) (t : TypeId)
    (ho : o.op = .call { callee := .builtin .append, args := #[s, x], argTypes := #[t, t] })
    (base : Nat) (e : TypeId) (i : TypeInfo) (ht : P.underlying t = some (.slice e)) (hi : P.info? e = some i) (hz : i.zero = some (.int .i64 0)) (h1 : i.size = 1) (h2 : i.bytes = 8)
    (v : Value) (n : Nat) (xs : List Value) (hs : a.eval s = v) (hown : w.ownsRow base e 1 v n xs) (D : Nat → Prop) (sv : Value) (l : List Int) (hx : a.eval x = sv) (hb : IntsV D w sv l) (hl : (n + l.length) * 8 ≤ 140737488355328) (hbase : base ≤ w.heap.size)
    (h : ∀ v' w', w'.ownsRow base e 1 v' (n + l.length) (xs ++ l.map I8) → w.grownBy w' v.ownBlock → (v'.ownBlock = v.ownBlock ∨ v'.ownBlock = some w.heap.size) → wpList P ops Q rest (a.put o.dst v') w') : wpList P ops Q (o :: rest) a w := by
  refine wpList_plain hgd fun K hK => ?_
  obtain ⟨v', w', hrun, a1, a2, a3⟩ := append_ints (P := P) w base t o.type e i ht hi hz h1 h2 v n xs hown D sv l hb hl hbase
  unfold Oper.wp execOp
  simp only [ho, resolve, invoke, builtin, Sem.run_bind, Sem.run_pure, Result.andThen_ok, List.map_toArray, List.map_cons, List.map_nil, hs, hx, hrun]
  exact hK _ _ (h v' w' a1 a2 a3)
theorem step_append_ints {P : Program} {w : World} {ops : Array Oper} {o : Oper} {a : Act} {K : Act → World → Prop} {Q : Exit → Act → World → Prop} {E : Prop} (hgd : o.guard = none) (s x : Operand) (t : TypeId)
    (ho : o.op = .call { callee := .builtin .append, args := #[s, x], argTypes := #[t, t] })
    (base : Nat) (e : TypeId) (i : TypeInfo) (ht : P.underlying t = some (.slice e)) (hi : P.info? e = some i) (hz : i.zero = some (.int .i64 0)) (h1 : i.size = 1) (h2 : i.bytes = 8)
    (v : Value) (n : Nat) (xs : List Value) (hs : a.eval s = v) (hown : w.ownsRow base e 1 v n xs) (D : Nat → Prop) (sv : Value) (l : List Int) (hx : a.eval x = sv) (hb : IntsV D w sv l) (hl : (n + l.length) * 8 ≤ 140737488355328) (hbase : base ≤ w.heap.size)
    (h : ∀ v' w', w'.ownsRow base e 1 v' (n + l.length) (xs ++ l.map I8) → w.grownBy w' v.ownBlock → (v'.ownBlock = v.ownBlock ∨ v'.ownBlock = some w.heap.size) → K (a.put o.dst v') w') :
    if Region.wanted o (yielded ops a.tmps) = true then Oper.wp P o a w K Q else E := by
  have hw : Region.wanted o (yielded ops a.tmps) = true := by simp [Region.wanted, hgd]
  rw [if_pos hw]
  obtain ⟨v', w', hrun, a1, a2, a3⟩ := append_ints (P := P) w base t o.type e i ht hi hz h1 h2 v n xs hown D sv l hb hl hbase
  unfold Oper.wp execOp
  simp only [ho, resolve, invoke, builtin, Sem.run_bind, Sem.run_pure, Result.andThen_ok, List.map_toArray, List.map_cons, List.map_nil, hs, hx, hrun]
  exact h v' w' a1 a2 a3
theorem Tryz.info3 : (Tryz.prog.info? 3).map (fun i => (i.zero, i.size, i.bytes)) = some (some (.int .i64 0), 1, 8) := by kernel_rfl
end Go.Proofs.YtchdfogifhfclaaGreatDoor.Ck8

