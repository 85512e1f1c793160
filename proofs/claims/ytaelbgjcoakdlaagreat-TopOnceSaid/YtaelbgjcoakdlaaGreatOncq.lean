/- TopOnce: the plain law: the invariant of asker, bag and answers, and that each step keeps it. -/
import Derived.Test.YtaelbgjcoakdlaaGreatAskerM
namespace Go.Proofs.YtaelbgjcoakdlaaGreat
open Go.RowKit Go.Maps

inductive Mg where
  | ask (s l : Nat)
  | rep (s id : Nat)
def Mg.ms (boot : Nat) : Mg → Ms
  | .ask s l => askM 1 boot s l
  | .rep s id => repM boot s id
def Mg.ok (a : Ak) : Mg → Prop
  | .ask s l => 1 ≤ l ∧ l ≤ s ∧ s ≤ a.done.length ∧ l ≤ a.c.low ∧ s < l + 8
  | .rep s id => 1 ≤ s ∧ s ≤ a.done.length ∧ 1 ≤ id ∧ id ≤ 10000 ∧ a.done[s-1]? = some 1 ∧ a.told[s-1]? = some (id : Int)
structure Inv (boot k : Nat) (a : Ak) (ms : List Mg) : Prop where
  cok : ClOK a.c
  cboot : a.c.boot = boot
  b1 : 1 ≤ boot ∧ boot ≤ 1099511627776
  next : a.c.next = a.done.length + 1
  lent : a.told.length = a.done.length
  lens : a.seen.length = a.done.length
  win : a.c.next ≤ a.c.low + 8
  bag : a.b.l = ms.map fun m => pkt (m.ms boot)
  msgs : ∀ m ∈ ms, m.ok a
  few : a.done.length ≤ k ∧ a.b.sent ≤ k ∧ a.b.lost ≤ k
  done : ∀ j, j < a.done.length → (a.done[j]? = some 0 ∧ a.told[j]? = some 0) ∨ (a.done[j]? = some 1 ∧ ∃ id : Nat, 1 ≤ id ∧ id ≤ 10000 ∧ a.told[j]? = some (id : Int))
  shut : ∀ j, j < a.done.length → (∀ i ∈ a.c.opn, i ≠ j + 1) → a.done[j]? = some 1 ∧ a.seen[j]? = a.told[j]?
  rboot : a.r.boot ≤ boot
  rlow : a.r.low ≤ a.c.low
  kept : ∀ j, j < a.done.length → a.done[j]? = some 1 → a.r.boot = boot ∧ j + 1 < a.r.low + 8 ∧ (a.r.low ≤ j + 1 → (a.r.slots ((j + 1) % 8)).s = j + 1 ∧ a.told[j]? = some ((a.r.slots ((j + 1) % 8)).id : Int))
  slot : ∀ j, j < a.done.length → (a.r.slots ((j + 1) % 8)).s = j + 1 → a.done[j]? = some 1
  slotN : ∀ i, (a.r.slots i).s ≤ a.done.length
theorem Inv.more {boot k k' : Nat} {a : Ak} {ms : List Mg} (h : Inv boot k a ms) (hk : k ≤ k') : Inv boot k' a ms :=
  { h with few := ⟨Nat.le_trans h.few.1 hk, Nat.le_trans h.few.2.1 hk, Nat.le_trans h.few.2.2 hk⟩ }
theorem Inv.low1 {boot k : Nat} {a : Ak} {ms : List Mg} (h : Inv boot k a ms) : 1 ≤ a.c.low := by
  rcases foldl_min_mem a.c.opn a.c.next with e | e
  · have := h.next
    show 1 ≤ a.c.opn.foldl min a.c.next
    omega
  · exact (h.cok.pos _ e).1
theorem Mg.fine {boot k : Nat} {a : Ak} {ms : List Mg} {m : Mg} (h : Inv boot k a ms) (hk : k ≤ 900) (hm : m.ok a) : Fine (m.ms boot) := by
  have := h.few.1
  have := h.b1
  cases m with
  | ask s l =>
    obtain ⟨h1, h2, h3, h4, h5⟩ := hm
    exact fine_askM (by omega) (by omega) (by omega) (by omega)
  | rep s id =>
    obtain ⟨h1, h2, h3, h4, h5, h6⟩ := hm
    exact fine_repM (by omega) (by omega) (by omega)
/-- A request brings the answers to its window. -/
theorem turn_low {r : Rep} {b l : Nat} (hb : r.boot = b) : (r.turn b l).low = max r.low l := by
  unfold Rep.turn
  rw [if_pos hb.symm]
  split
  · rw [Nat.max_eq_left (by assumption)]
  · rw [Nat.max_eq_right (by omega)]
theorem turn_low' {r : Rep} {b l : Nat} (hb : r.boot ≠ b) : (r.turn b l).low = l ∧ ∀ k, ((r.turn b l).slots k).s = 0 := by
  unfold Rep.turn
  rw [if_neg (fun e => hb e.symm)]
  exact ⟨rfl, fun _ => rfl⟩
theorem turn_slot {r : Rep} {b l : Nat} (hb : r.boot = b) (k : Nat) : ((r.turn b l).slots k = r.slots k ∧ (l ≤ (r.slots k).s ∨ l ≤ r.low)) ∨ ((r.turn b l).slots k).s = 0 ∧ (r.slots k).s < l := by
  unfold Rep.turn
  rw [if_pos hb.symm]
  split
  · exact .inl ⟨rfl, .inr (by assumption)⟩
  · dsimp only
    split
    · exact .inr ⟨rfl, by assumption⟩
    · exact .inl ⟨rfl, .inl (by omega)⟩
theorem turn_low_ge (r : Rep) (b l : Nat) : l ≤ (r.turn b l).low := by
  by_cases e : r.boot = b
  · rw [turn_low e]; exact Nat.le_max_right _ _
  · rw [(turn_low' e).1]; exact Nat.le_refl _
theorem Inv.turn {boot k : Nat} {a : Ak} {ms : List Mg} (h : Inv boot k a ms) {l : Nat} (h1 : 1 ≤ l) (h2 : l ≤ a.c.low) : Inv boot k { a with r := a.r.turn boot l } ms := by
  have hlow : (a.r.turn boot l).low ≤ a.c.low := by
    have := h.rlow
    by_cases e : a.r.boot = boot
    · rw [turn_low e]; exact Nat.max_le.2 ⟨this, h2⟩
    · rw [(turn_low' e).1]; exact h2
  refine { h with msgs := ?_, rboot := Nat.le_of_eq (turn_boot _ _ _), rlow := hlow, kept := ?_, slot := ?_, slotN := ?_ }
  · intro m hm
    have := h.msgs m hm
    cases m <;> exact this
  · intro j hj hd
    obtain ⟨k1, k2, k3⟩ := h.kept j hj hd
    refine ⟨turn_boot _ _ _, ?_, ?_⟩
    · show j + 1 < (a.r.turn boot l).low + 8
      rw [turn_low k1]
      have := Nat.le_max_left a.r.low l
      omega
    · intro hle
      have hle' : (a.r.turn boot l).low ≤ j + 1 := hle
      rw [turn_low k1] at hle'
      have g1 := Nat.le_max_left a.r.low l
      have g2 := Nat.le_max_right a.r.low l
      obtain ⟨k4, k5⟩ := k3 (by omega)
      rcases turn_slot (l := l) k1 ((j + 1) % 8) with ⟨e, _⟩ | ⟨_, e⟩
      · show ((a.r.turn boot l).slots ((j + 1) % 8)).s = j + 1 ∧ a.told[j]? = some (((a.r.turn boot l).slots ((j + 1) % 8)).id : Int)
        rw [e]
        exact ⟨k4, k5⟩
      · omega
  · intro j hj hs
    by_cases e : a.r.boot = boot
    · have hs' : ((a.r.turn boot l).slots ((j + 1) % 8)).s = j + 1 := hs
      rcases turn_slot (l := l) e ((j + 1) % 8) with ⟨e, _⟩ | ⟨e, _⟩
      · rw [e] at hs'
        exact h.slot j hj hs'
      · omega
    · have hs' : ((a.r.turn boot l).slots ((j + 1) % 8)).s = j + 1 := hs
      rw [(turn_low' e).2] at hs'
      omega
  · intro i
    show ((a.r.turn boot l).slots i).s ≤ a.done.length
    by_cases e : a.r.boot = boot
    · rcases turn_slot (l := l) e i with ⟨e, _⟩ | ⟨e, _⟩
      · rw [e]; exact h.slotN i
      · omega
    · rw [(turn_low' e).2]; exact Nat.zero_le _
/-- A message is sent. -/
theorem Inv.send {boot k : Nat} {a : Ak} {ms : List Mg} (h : Inv boot k a ms) (hk : k ≤ 900) {m : Mg} (hm : m.ok a) : ∃ ms', Inv boot (k + 1) { a with b := a.b.send (pkt (m.ms boot)) } ms' ∧ (ms = [] → ms' = [m]) := by
  have hf := Mg.fine h hk hm
  have hc := code_len hf
  have hfew := h.few
  have key : ∀ ms', (a.b.send (pkt (m.ms boot))).l = ms'.map (fun m => pkt (m.ms boot)) → (∀ x ∈ ms', x.ok a) → Inv boot (k + 1) { a with b := a.b.send (pkt (m.ms boot)) } ms' := by
    intro ms' e1 e2
    refine { h with bag := e1, msgs := ?_, few := ?_ }
    · intro x hx
      have := e2 x hx
      cases x <;> exact this
    · refine ⟨Nat.le_succ_of_le hfew.1, ?_⟩
      unfold Bg7.Bg.send
      split
      · exact ⟨Nat.le_succ_of_le hfew.2.1, Nat.succ_le_succ hfew.2.2⟩
      · split
        · exact ⟨Nat.le_succ_of_le hfew.2.1, Nat.succ_le_succ hfew.2.2⟩
        · exact ⟨Nat.succ_le_succ hfew.2.1, Nat.le_succ_of_le hfew.2.2⟩
  have hd : ¬ 200 < (pkt (m.ms boot)).data.length := by show ¬ 200 < (code (m.ms boot)).length; omega
  by_cases hfull : 48 ≤ a.b.l.length
  · refine ⟨ms, key ms ?_ h.msgs, fun e => ?_⟩
    · unfold Bg7.Bg.send
      rw [if_neg hd, if_pos hfull]
      exact h.bag
    · rw [h.bag, e] at hfull
      simp at hfull
  · refine ⟨ms ++ [m], key _ ?_ ?_, fun e => by rw [e]; rfl⟩
    · unfold Bg7.Bg.send
      rw [if_neg hd, if_neg hfull]
      simp [h.bag]
    · intro x hx
      rcases List.mem_append.1 hx with hx | hx
      · exact h.msgs x hx
      · simp at hx; subst hx; exact hm
/-- Packets are lost, doubled, taken. -/
theorem Inv.bagged {boot k : Nat} {a : Ak} {ms : List Mg} (h : Inv boot k a ms) {b' : Bg7.Bg} (ms' : List Mg) (e1 : b'.l = ms'.map fun m => pkt (m.ms boot)) (e2 : ∀ m ∈ ms', m ∈ ms) (e3 : b'.sent = a.b.sent) (e4 : b'.lost = a.b.lost) : Inv boot k { a with b := b' } ms' := by
  refine { h with bag := e1, msgs := ?_, few := ?_ }
  · intro x hx
    have := h.msgs x (e2 x hx)
    cases x <;> exact this
  · show a.done.length ≤ k ∧ b'.sent ≤ k ∧ b'.lost ≤ k
    rw [e3, e4]
    exact h.few
theorem erase_map {α β : Type} (f : α → β) : ∀ (l : List α) (i : Nat), (l.map f).eraseIdx i = (l.eraseIdx i).map f
  | [], _ => rfl
  | _ :: _, 0 => rfl
  | x :: l, i + 1 => by rw [List.map_cons, List.eraseIdx_cons_succ, List.eraseIdx_cons_succ, List.map_cons, erase_map f l i]
theorem Inv.drop {boot k : Nat} {a : Ak} {ms : List Mg} (h : Inv boot k a ms) (n : Int) : ∃ ms', Inv boot k { a with b := a.b.drop n } ms' := by
  unfold Bg7.Bg.drop
  cases e : a.b.at_ n with
  | none => exact ⟨ms, h⟩
  | some q =>
    refine ⟨ms.eraseIdx n.toNat, h.bagged _ ?_ (fun m hm => List.mem_of_mem_eraseIdx hm) rfl rfl⟩
    show a.b.l.eraseIdx n.toNat = _
    rw [h.bag, erase_map]
theorem Inv.double {boot k : Nat} {a : Ak} {ms : List Mg} (h : Inv boot k a ms) (n : Int) : ∃ ms', Inv boot k { a with b := a.b.double n } ms' := by
  unfold Bg7.Bg.double
  cases e : a.b.at_ n with
  | none => exact ⟨ms, h⟩
  | some q =>
    obtain ⟨i, rfl, hi⟩ := Bg7.Bg.at_some e
    rw [h.bag, List.getElem?_map] at hi
    obtain ⟨m, hm, rfl⟩ := Option.map_eq_some_iff.1 hi
    dsimp only
    split
    · exact ⟨ms, h⟩
    · refine ⟨ms ++ [m], h.bagged _ ?_ (fun x hx => ?_) rfl rfl⟩
      · show a.b.l ++ [pkt (m.ms boot)] = _
        rw [h.bag]; simp
      · rcases List.mem_append.1 hx with hx | hx
        · exact hx
        · simp at hx; subst hx; exact List.mem_of_getElem? hm
/-- What is in the bag at a place. -/
theorem Inv.at_ {boot k : Nat} {a : Ak} {ms : List Mg} (h : Inv boot k a ms) {n : Int} {q : Bg7.Pkt} (hq : a.b.at_ n = some q) : ∃ m, m ∈ ms ∧ m.ok a ∧ q = pkt (m.ms boot) := by
  obtain ⟨i, rfl, hi⟩ := Bg7.Bg.at_some hq
  rw [h.bag, List.getElem?_map] at hi
  obtain ⟨m, hm, rfl⟩ := Option.map_eq_some_iff.1 hi
  have := List.mem_of_getElem? hm
  exact ⟨m, this, h.msgs m this, rfl⟩
/-- The cases of an arrival. -/
inductive Arr (boot : Nat) (a : Ak) (mk : Nat) : Mg → Ak → Prop
  | stale (s l : Nat) (h1 : s < (a.r.turn boot l).low) : Arr boot a mk (.ask s l) { a with r := a.r.turn boot l }
  | kept (s l id : Nat) (h1 : (a.r.turn boot l).low ≤ s) (h2 : ((a.r.turn boot l).slots (s % 8)).s = s) (h3 : ((a.r.turn boot l).slots (s % 8)).id = id) : Arr boot a mk (.ask s l) { a with r := a.r.turn boot l, b := a.b.send (pkt (repM boot s id)) }
  | new (s l j : Nat) (h0 : s = j + 1) (h1 : (a.r.turn boot l).low ≤ s) (h2 : ((a.r.turn boot l).slots (s % 8)).s ≠ s) :
    Arr boot a mk (.ask s l) { a with r := (a.r.turn boot l).keep s mk, b := a.b.send (pkt (repM boot s mk)), done := a.done.set j 1, told := a.told.set j mk }
  | open_ (s j id : Nat) (h0 : s = j + 1) (h1 : s ∈ a.c.opn) : Arr boot a mk (.rep s id) { a with c := a.c.close s, seen := a.seen.set j id }
  | shut (s id : Nat) (h1 : ¬ s ∈ a.c.opn) : Arr boot a mk (.rep s id) a
theorem Cl.low_close (c : Cl) (k : Nat) : c.low ≤ (c.close k).low := by
  rcases foldl_min_mem (c.close k).opn (c.close k).next with e | e
  · show c.low ≤ (c.close k).opn.foldl min (c.close k).next
    rw [e]; exact c.low_le
  · exact c.low_mem (List.mem_filter.1 e).1
theorem Inv.close {boot k : Nat} {a : Ak} {ms : List Mg} (h : Inv boot k a ms) {s id j : Nat} (h0 : s = j + 1) (hm : (Mg.rep s id).ok a) : Inv boot k { a with c := a.c.close s, seen := a.seen.set j id } ms := by
  obtain ⟨m1, m2, m3, m4, m5, m6⟩ := hm
  have hlow := a.c.low_close s
  have ej : s - 1 = j := by omega
  rw [ej] at m5 m6
  refine { h with cok := h.cok.close s, lens := ?_, win := ?_, msgs := ?_, shut := ?_, rlow := Nat.le_trans h.rlow hlow }
  · show (a.seen.set j id).length = a.done.length
    rw [List.length_set]; exact h.lens
  · exact Nat.le_trans h.win (Nat.add_le_add_right hlow 8)
  · intro m hm
    have := h.msgs m hm
    cases m with
    | ask s l => exact ⟨this.1, this.2.1, this.2.2.1, Nat.le_trans this.2.2.2.1 hlow, this.2.2.2.2⟩
    | rep s id => exact this
  · intro i hi hopn
    have hi' : i < a.done.length := hi
    by_cases e : i = j
    · subst e
      refine ⟨m5, ?_⟩
      show (a.seen.set i (id : Int))[i]? = a.told[i]?
      rw [List.getElem?_set_self (by rw [h.lens]; exact hi'), m6]
    · obtain ⟨h1, h2⟩ := h.shut i hi' (fun x hx => by
        by_cases ex : x = s
        · omega
        · exact hopn x (List.mem_filter.2 ⟨hx, by simpa using ex⟩))
      refine ⟨h1, ?_⟩
      show (a.seen.set j (id : Int))[i]? = a.told[i]?
      rw [List.getElem?_set_ne (by omega)]
      exact h2
theorem Inv.new {boot k : Nat} {a : Ak} {ms : List Mg} (h : Inv boot k a ms) {s mk j : Nat} (h0 : s = j + 1) (hb : a.r.boot = boot) (hs : s ≤ a.done.length) (hwin : s < a.r.low + 8) (h1 : a.r.low ≤ s) (h2 : (a.r.slots (s % 8)).s ≠ s) (hmk : 1 ≤ mk ∧ mk ≤ 10000) :
    Inv boot k { a with r := a.r.keep s mk, done := a.done.set j 1, told := a.told.set j mk } ms := by
  subst h0
  have hj : j < a.done.length := by omega
  have hd0 : a.done[j]? = some 0 := by
    rcases h.done j hj with e | e
    · exact e.1
    · exact absurd ((h.kept j hj e.1).2.2 h1).1 h2
  have hne : ∀ i, a.done[i]? = some 1 → j ≠ i := by
    intro i e e2
    subst e2
    rw [hd0] at e
    exact absurd e (by decide)
  have hset : ∀ i, j ≠ i → (a.done.set j 1)[i]? = a.done[i]? ∧ (a.told.set j (mk : Int))[i]? = a.told[i]? := fun i e => ⟨List.getElem?_set_ne e, List.getElem?_set_ne e⟩
  have hself : (a.done.set j 1)[j]? = some 1 ∧ (a.told.set j (mk : Int))[j]? = some (mk : Int) := ⟨List.getElem?_set_self hj, List.getElem?_set_self (by rw [h.lent]; exact hj)⟩
  have hl : (a.done.set j 1).length = a.done.length := List.length_set
  refine { h with next := ?_, lent := ?_, lens := ?_, msgs := ?_, few := ?_, done := ?_, shut := ?_, kept := ?_, slot := ?_, slotN := ?_ }
  · show a.c.next = (a.done.set j 1).length + 1
    rw [hl]; exact h.next
  · show (a.told.set j (mk : Int)).length = (a.done.set j 1).length
    rw [hl, List.length_set]; exact h.lent
  · show a.seen.length = (a.done.set j 1).length
    rw [hl]; exact h.lens
  · intro m hm
    have := h.msgs m hm
    cases m with
    | ask s l =>
      refine ⟨this.1, this.2.1, ?_, this.2.2.2⟩
      show s ≤ (a.done.set j 1).length
      rw [hl]; exact this.2.2.1
    | rep s id =>
      obtain ⟨m1, m2, m3, m4, m5, m6⟩ := this
      obtain ⟨e1, e2⟩ := hset _ (hne _ m5)
      refine ⟨m1, ?_, m3, m4, e1.trans m5, e2.trans m6⟩
      show s ≤ (a.done.set j 1).length
      rw [hl]; exact m2
  · show (a.done.set j 1).length ≤ k ∧ _
    rw [hl]; exact h.few
  · intro i hi
    have hi' : i < a.done.length := by rw [← hl]; exact hi
    by_cases e : j = i
    · subst e
      exact .inr ⟨hself.1, mk, hmk.1, hmk.2, hself.2⟩
    · obtain ⟨e1, e2⟩ := hset i e
      rcases h.done i hi' with ⟨d1, d2⟩ | ⟨d1, id, d2, d3, d4⟩
      · exact .inl ⟨e1.trans d1, e2.trans d2⟩
      · exact .inr ⟨e1.trans d1, id, d2, d3, e2.trans d4⟩
  · intro i hi hopn
    have hi' : i < a.done.length := by rw [← hl]; exact hi
    obtain ⟨d1, d2⟩ := h.shut i hi' hopn
    obtain ⟨e1, e2⟩ := hset i (hne i d1)
    exact ⟨e1.trans d1, d2.trans e2.symm⟩
  · intro i hi hd
    have hi' : i < a.done.length := by rw [← hl]; exact hi
    by_cases e : j = i
    · subst e
      refine ⟨hb, hwin, fun _ => ?_⟩
      show ((if (j + 1) % 8 = (j + 1) % 8 then (⟨j + 1, mk⟩ : Sl) else a.r.slots ((j + 1) % 8))).s = j + 1 ∧ (a.told.set j (mk : Int))[j]? = some (((if (j + 1) % 8 = (j + 1) % 8 then (⟨j + 1, mk⟩ : Sl) else a.r.slots ((j + 1) % 8))).id : Int)
      rw [if_pos rfl]
      exact ⟨rfl, hself.2⟩
    · obtain ⟨e1, e2⟩ := hset i e
      obtain ⟨k1, k2, k3⟩ := h.kept i hi' (e1.symm.trans hd)
      refine ⟨k1, k2, fun hle => ?_⟩
      obtain ⟨k4, k5⟩ := k3 hle
      have hle' : a.r.low ≤ i + 1 := hle
      show ((if (i + 1) % 8 = (j + 1) % 8 then (⟨j + 1, mk⟩ : Sl) else a.r.slots ((i + 1) % 8))).s = i + 1 ∧ (a.told.set j (mk : Int))[i]? = some (((if (i + 1) % 8 = (j + 1) % 8 then (⟨j + 1, mk⟩ : Sl) else a.r.slots ((i + 1) % 8))).id : Int)
      rw [if_neg (by omega), e2]
      exact ⟨k4, k5⟩
  · intro i hi hs
    have hi' : i < a.done.length := by rw [← hl]; exact hi
    have hs' : ((if (i + 1) % 8 = (j + 1) % 8 then (⟨j + 1, mk⟩ : Sl) else a.r.slots ((i + 1) % 8))).s = i + 1 := hs
    by_cases e : j = i
    · subst e; exact hself.1
    · split at hs'
      · have : j + 1 = i + 1 := hs'
        omega
      · exact (hset i e).1.trans (h.slot i hi' hs')
  · intro i
    show ((if i = (j + 1) % 8 then (⟨j + 1, mk⟩ : Sl) else a.r.slots i)).s ≤ (a.done.set j 1).length
    rw [hl]
    split
    · exact hs
    · exact h.slotN i
theorem Arr.inv {boot k : Nat} {a a' : Ak} {ms : List Mg} {mk : Nat} {m : Mg} (h : Inv boot k a ms) (hk : k ≤ 900) (hmk : 1 ≤ mk ∧ mk ≤ 10000) (hm : m.ok a) (ha : Arr boot a mk m a') : ∃ ms', Inv boot (k + 1) a' ms' := by
  cases ha with
  | stale s l h1 => exact ⟨ms, (h.turn hm.1 hm.2.2.2.1).more (Nat.le_succ k)⟩
  | kept s l id h1 h2 h3 =>
    obtain ⟨m1, m2, m3, m4, m5⟩ := hm
    have ht := h.turn m1 m4
    obtain ⟨j, rfl⟩ : ∃ j, s = j + 1 := ⟨s - 1, by omega⟩
    have hd := ht.slot j (by show j < a.done.length; omega) h2
    obtain ⟨k1, k2, k3⟩ := ht.kept j (by show j < a.done.length; omega) hd
    obtain ⟨k4, k5⟩ := k3 h1
    have hok : (Mg.rep (j + 1) id).ok { a with r := a.r.turn boot l } := by
      have k5' : a.told[j]? = some (((a.r.turn boot l).slots ((j + 1) % 8)).id : Int) := k5
      rw [h3] at k5'
      have hb := ht.done j (by show j < a.done.length; omega)
      rcases hb with ⟨d1, _⟩ | ⟨_, id', d2, d3, d4⟩
      · rw [hd] at d1; exact absurd d1 (by decide)
      · have d4' : a.told[j]? = some (id' : Int) := d4
        rw [k5'] at d4'
        injection d4' with d4'
        exact ⟨by omega, m3, by omega, by omega, hd, k5'⟩
    obtain ⟨ms', h', _⟩ := ht.send hk hok
    exact ⟨ms', h'⟩
  | new s l j h0 h1 h2 =>
    obtain ⟨m1, m2, m3, m4, m5⟩ := hm
    have ht := h.turn m1 m4
    have hwin : s < (a.r.turn boot l).low + 8 := by have := turn_low_ge a.r boot l; omega
    have hn := ht.new h0 (turn_boot _ _ _) m3 hwin h1 h2 hmk
    have hok : (Mg.rep s mk).ok { a with r := (a.r.turn boot l).keep s mk, done := a.done.set j 1, told := a.told.set j mk } := by
      have e : s - 1 = j := by omega
      refine ⟨by omega, by show s ≤ (a.done.set j 1).length; rw [List.length_set]; exact m3, hmk.1, hmk.2, ?_, ?_⟩
      · show (a.done.set j 1)[s - 1]? = some 1
        rw [e, List.getElem?_set_self (by omega)]
      · show (a.told.set j (mk : Int))[s - 1]? = some (mk : Int)
        rw [e, List.getElem?_set_self (by have := h.lent; omega)]
    obtain ⟨ms', h', _⟩ := hn.send hk hok
    exact ⟨ms', h'⟩
  | open_ s j id h0 h1 => exact ⟨ms, (h.close h0 hm).more (Nat.le_succ k)⟩
  | shut s id h1 => exact ⟨ms, h.more (Nat.le_succ k)⟩
/-- A call more. -/
theorem foldl_min_snoc (l : List Nat) : ∀ n, (∀ k ∈ l, k ≤ n) → (l ++ [n]).foldl min (n + 1) = l.foldl min n := by
  intro n h
  rw [List.foldl_append]
  show min (l.foldl min (n + 1)) n = l.foldl min n
  cases l with
  | nil => show min (n + 1) n = n; omega
  | cons x l =>
    have hx := h x List.mem_cons_self
    have e1 : min (n + 1) x = x := Nat.min_eq_right (by omega)
    have e2 : min n x = x := Nat.min_eq_right hx
    rw [List.foldl_cons, List.foldl_cons, e1, e2]
    have := (foldl_min_le l x).1
    omega
theorem Cl.low_open {c : Cl} (h : ClOK c) : c.open_.low = c.low := foldl_min_snoc c.opn c.next (fun k hk => Nat.le_of_lt (h.pos k hk).2)
theorem Inv.open_ {boot k : Nat} {a : Ak} {ms : List Mg} (h : Inv boot k a ms) (hb : ¬ a.c.busy) : Inv boot (k + 1) { a with c := a.c.open_, done := a.done ++ [0], told := a.told ++ [0], seen := a.seen ++ [0] } ms := by
  have hlow := Cl.low_open h.cok
  have hbz : a.c.next < a.c.low + 8 := by unfold Cl.busy at hb; omega
  have hl : (a.done ++ [0]).length = a.done.length + 1 := by simp
  have hold : ∀ i, i < a.done.length → (a.done ++ [0])[i]? = a.done[i]? ∧ (a.told ++ [0])[i]? = a.told[i]? ∧ (a.seen ++ [0])[i]? = a.seen[i]? := fun i hi =>
    ⟨List.getElem?_append_left hi, List.getElem?_append_left (by rw [h.lent]; exact hi), List.getElem?_append_left (by rw [h.lens]; exact hi)⟩
  have hnew : (a.done ++ [0])[a.done.length]? = some 0 ∧ (a.told ++ [0])[a.done.length]? = some 0 := by
    refine ⟨by simp, ?_⟩
    rw [← h.lent]; simp
  refine { h with cok := h.cok.open_ (by have := h.next; omega), cboot := h.cboot, next := ?_, lent := ?_, lens := ?_, win := ?_, msgs := ?_, few := ?_, done := ?_, shut := ?_, rlow := ?_, kept := ?_, slot := ?_, slotN := ?_ }
  · show a.c.next + 1 = (a.done ++ [0]).length + 1
    rw [hl, h.next]
  · show (a.told ++ [0]).length = (a.done ++ [0]).length
    simp [h.lent]
  · show (a.seen ++ [0]).length = (a.done ++ [0]).length
    simp [h.lens]
  · show a.c.next + 1 ≤ a.c.open_.low + 8
    rw [hlow]; omega
  · intro m hm
    have := h.msgs m hm
    cases m with
    | ask s l =>
      refine ⟨this.1, this.2.1, ?_, ?_, this.2.2.2.2⟩
      · show s ≤ (a.done ++ [0]).length
        rw [hl]; exact Nat.le_succ_of_le this.2.2.1
      · show l ≤ a.c.open_.low
        rw [hlow]; exact this.2.2.2.1
    | rep s id =>
      obtain ⟨m1, m2, m3, m4, m5, m6⟩ := this
      obtain ⟨e1, e2, _⟩ := hold (s - 1) (by omega)
      exact ⟨m1, by show s ≤ (a.done ++ [0]).length; omega, m3, m4, e1.trans m5, e2.trans m6⟩
  · show (a.done ++ [0]).length ≤ k + 1 ∧ _
    rw [hl]
    exact ⟨Nat.succ_le_succ h.few.1, Nat.le_succ_of_le h.few.2.1, Nat.le_succ_of_le h.few.2.2⟩
  · intro i hi
    have hi' : i < a.done.length + 1 := by rw [← hl]; exact hi
    by_cases e : i < a.done.length
    · obtain ⟨e1, e2, _⟩ := hold i e
      rcases h.done i e with ⟨d1, d2⟩ | ⟨d1, id, d2, d3, d4⟩
      · exact .inl ⟨e1.trans d1, e2.trans d2⟩
      · exact .inr ⟨e1.trans d1, id, d2, d3, e2.trans d4⟩
    · have : i = a.done.length := by omega
      subst this
      exact .inl hnew
  · intro i hi hopn
    have hi' : i < a.done.length + 1 := by rw [← hl]; exact hi
    by_cases e : i < a.done.length
    · obtain ⟨e1, e2, e3⟩ := hold i e
      obtain ⟨d1, d2⟩ := h.shut i e (fun x hx => hopn x (List.mem_append_left _ hx))
      exact ⟨e1.trans d1, e3.trans (d2.trans e2.symm)⟩
    · exact absurd (show a.c.next = i + 1 by have := h.next; omega) (hopn _ (List.mem_append_right _ (List.mem_singleton.2 rfl)))
  · show a.r.low ≤ a.c.open_.low
    rw [hlow]; exact h.rlow
  · intro i hi hd
    have hi' : i < a.done.length + 1 := by rw [← hl]; exact hi
    by_cases e : i < a.done.length
    · obtain ⟨e1, e2, _⟩ := hold i e
      obtain ⟨k1, k2, k3⟩ := h.kept i e (e1.symm.trans hd)
      exact ⟨k1, k2, fun hle => ⟨(k3 hle).1, e2.trans (k3 hle).2⟩⟩
    · have : i = a.done.length := by omega
      subst this
      have hd' : (a.done ++ [0])[a.done.length]? = some 1 := hd
      rw [hnew.1] at hd'
      exact absurd hd' (by decide)
  · intro i hi hs
    have hi' : i < a.done.length + 1 := by rw [← hl]; exact hi
    by_cases e : i < a.done.length
    · exact (hold i e).1.trans (h.slot i e hs)
    · have : i = a.done.length := by omega
      subst this
      have := h.slotN ((a.done.length + 1) % 8)
      exact absurd hs (by show ¬ (a.r.slots ((a.done.length + 1) % 8)).s = a.done.length + 1; omega)
  · intro i
    show (a.r.slots i).s ≤ (a.done ++ [0]).length
    rw [hl]; exact Nat.le_succ_of_le (h.slotN i)
end Go.Proofs.YtaelbgjcoakdlaaGreat
