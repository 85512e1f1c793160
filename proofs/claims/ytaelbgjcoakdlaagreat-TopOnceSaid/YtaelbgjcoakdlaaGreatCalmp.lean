/- calm: the plain law of its rounds. -/
import Derived.Test.YtaelbgjcoakdlaaGreatOncq
namespace Go.Proofs.YtaelbgjcoakdlaaGreat
open Go.RowKit Go.Maps

theorem len_sorted : ∀ (l : List Nat) (lo n : Nat), l.Pairwise (· < ·) → (∀ x ∈ l, lo ≤ x ∧ x < lo + n) → l.length ≤ n
  | [], _, _, _, _ => Nat.zero_le _
  | x :: l, lo, n, hp, hb => by
    obtain ⟨h1, h2⟩ := List.pairwise_cons.1 hp
    have hx := hb x List.mem_cons_self
    have := len_sorted l (x + 1) (lo + n - (x + 1)) h2 (fun y hy => by
      have := h1 y hy
      have := hb y (List.mem_cons_of_mem _ hy)
      omega)
    simp only [List.length_cons]
    omega
theorem Inv.few_open {boot k : Nat} {a : Ak} {ms : List Mg} (h : Inv boot k a ms) : a.c.opn.length ≤ 8 := by
  refine len_sorted _ a.c.low 8 h.cok.sorted (fun x hx => ?_)
  have := (h.cok.pos x hx).2
  have := h.win
  exact ⟨a.c.low_mem hx, by omega⟩
theorem Inv.ask_ok {boot k : Nat} {a : Ak} {ms : List Mg} (h : Inv boot k a ms) {s : Nat} (hs : s ∈ a.c.opn) : (Mg.ask s a.c.low).ok a := by
  have h1 := h.cok.pos s hs
  have h2 := h.win
  have h3 := h.next
  have h4 := a.c.low_mem hs
  exact ⟨h.low1, h4, by omega, Nat.le_refl _, by omega⟩
theorem at_zero {b : Bg7.Bg} {boot : Nat} {ms : List Mg} (h : b.l = ms.map fun m => pkt (m.ms boot)) : (ms = [] → b.at_ 0 = none) ∧ ∀ m ms', ms = m :: ms' → b.at_ 0 = some (pkt (m.ms boot)) ∧ (b.drop 0).l = ms'.map fun m => pkt (m.ms boot) := by
  refine ⟨fun e => ?_, fun m ms' e => ?_⟩
  · unfold Bg7.Bg.at_
    rw [if_neg (by omega), h, e]; rfl
  · have e1 : b.at_ 0 = some (pkt (m.ms boot)) := by
      unfold Bg7.Bg.at_
      rw [if_neg (by omega), h, e]; rfl
    refine ⟨e1, ?_⟩
    unfold Bg7.Bg.drop
    rw [e1]
    show b.l.eraseIdx 0 = _
    rw [h, e]; rfl
theorem Inv.popped {boot k : Nat} {a : Ak} {ms ms' : List Mg} {m : Mg} (h : Inv boot k a ms) (e : ms = m :: ms') : Inv boot k { a with b := a.b.drop 0 } ms' := by
  obtain ⟨e1, e2⟩ := (at_zero h.bag).2 m ms' e
  refine h.bagged ms' e2 (fun x hx => by rw [e]; exact List.mem_cons_of_mem _ hx) ?_ ?_
  · unfold Bg7.Bg.drop; rw [e1]
  · unfold Bg7.Bg.drop; rw [e1]
/-- A request of an open call arrives: it is answered. -/
theorem Arr.answered {boot k : Nat} {a a' : Ak} {mk s : Nat} (h : Inv boot k a []) (hk : k ≤ 900) (hmk : 1 ≤ mk ∧ mk ≤ 10000) (hs : s ∈ a.c.opn) (ha : Arr boot a mk (.ask s a.c.low) a') : ∃ id, Inv boot (k + 1) a' [.rep s id] ∧ a'.c = a.c ∧ a'.x = a.x := by
  have hm := h.ask_ok hs
  cases ha with
  | stale s l h1 =>
    have ht := (h.turn hm.1 hm.2.2.2.1).rlow
    have := a.c.low_mem hs
    exact absurd (show (a.r.turn boot a.c.low).low ≤ a.c.low from ht) (by omega)
  | kept s l id h1 h2 h3 =>
    obtain ⟨m1, m2, m3, m4, m5⟩ := hm
    have ht := h.turn m1 m4
    obtain ⟨j, rfl⟩ : ∃ j, s = j + 1 := ⟨s - 1, by omega⟩
    have hd := ht.slot j (by show j < a.done.length; omega) h2
    obtain ⟨k1, k2, k3⟩ := ht.kept j (by show j < a.done.length; omega) hd
    obtain ⟨k4, k5⟩ := k3 h1
    have hok : (Mg.rep (j + 1) id).ok { a with r := a.r.turn boot a.c.low } := by
      have k5' : a.told[j]? = some (((a.r.turn boot a.c.low).slots ((j + 1) % 8)).id : Int) := k5
      rw [h3] at k5'
      have hb := ht.done j (by show j < a.done.length; omega)
      rcases hb with ⟨d1, _⟩ | ⟨_, id', d2, d3, d4⟩
      · rw [hd] at d1; exact absurd d1 (by decide)
      · have d4' : a.told[j]? = some (id' : Int) := d4
        rw [k5'] at d4'
        injection d4' with d4'
        exact ⟨by omega, m3, by omega, by omega, hd, k5'⟩
    obtain ⟨ms', h', e'⟩ := ht.send hk hok
    rw [e' rfl] at h'
    exact ⟨id, h', rfl, rfl⟩
  | new s l j h0 h1 h2 =>
    obtain ⟨m1, m2, m3, m4, m5⟩ := hm
    have ht := h.turn m1 m4
    have hwin : s < (a.r.turn boot a.c.low).low + 8 := by have := turn_low_ge a.r boot a.c.low; omega
    have hn := ht.new h0 (turn_boot _ _ _) m3 hwin h1 h2 hmk
    have hok : (Mg.rep s mk).ok { a with r := (a.r.turn boot a.c.low).keep s mk, done := a.done.set j 1, told := a.told.set j mk } := by
      have e : s - 1 = j := by omega
      refine ⟨by omega, by show s ≤ (a.done.set j 1).length; rw [List.length_set]; exact m3, hmk.1, hmk.2, ?_, ?_⟩
      · show (a.done.set j 1)[s - 1]? = some 1
        rw [e, List.getElem?_set_self (by omega)]
      · show (a.told.set j (mk : Int))[s - 1]? = some (mk : Int)
        rw [e, List.getElem?_set_self (by have := h.lent; omega)]
    obtain ⟨ms', h', e'⟩ := hn.send hk hok
    rw [e' rfl] at h'
    exact ⟨mk, h', rfl, rfl⟩
/-- An answer of an open call arrives: it is closed. -/
theorem Arr.closed {boot k : Nat} {a a' : Ak} {mk s id : Nat} (h : Inv boot k a []) (hm : (Mg.rep s id).ok a) (hs : s ∈ a.c.opn) (ha : Arr boot a mk (.rep s id) a') : Inv boot k a' [] ∧ a'.c = a.c.close s ∧ a'.x = a.x := by
  cases ha with
  | open_ s j id h0 h1 => exact ⟨h.close h0 hm, rfl, rfl⟩
  | shut s id h1 => exact absurd hs h1
theorem close_head {l : List Nat} {s : Nat} {rest : List Nat} (h : l = s :: rest) (hp : l.Pairwise (· < ·)) : l.filter (· ≠ s) = rest := by
  subst h
  obtain ⟨h1, _⟩ := List.pairwise_cons.1 hp
  rw [List.filter_cons_of_neg (by simp), List.filter_eq_self.2 (fun x hx => by have := h1 x hx; simp; omega)]
/-- At rest. -/
theorem Inv.rest {boot k : Nat} {a : Ak} {ms : List Mg} (h : Inv boot k a ms) (ho : a.c.opn = []) {j : Nat} (hj : j < a.done.length) : ∃ id : Nat, 1 ≤ id ∧ a.done[j]? = some 1 ∧ a.told[j]? = some (id : Int) ∧ a.seen[j]? = some (id : Int) := by
  obtain ⟨h1, h2⟩ := h.shut j hj (fun i hi => by rw [ho] at hi; cases hi)
  rcases h.done j hj with ⟨d1, _⟩ | ⟨d1, id, d2, d3, d4⟩
  · rw [h1] at d1; exact absurd d1 (by decide)
  · exact ⟨id, d2, h1, d4, h2.trans d4⟩
end Go.Proofs.YtaelbgjcoakdlaaGreat
