/- arrives: all cases; the bag's calls, over the asker. -/
import Derived.Test.YtaelbgjcoakdlaaGreatArre
import Derived.Test.YtaelbgjcoakdlaaGreatOpens
namespace Go.Proofs.YtaelbgjcoakdlaaGreat
open Go.RowKit Go.Maps

def ArrPost (base q : Nat) (h : Hd) (boot : Nat) (a : Ak) (mk : Nat) (m : Mg) (w : World) (e : Ending) (w' : World) : Prop := e = .returned (.bool true) ∧ ∃ a' own', Arr boot a mk m a' ∧ AkAt own' base w' q h a' ∧ Below base w w'
theorem arrives_any {own : Nat → Nat} {base q : Nat} {h : Hd} {a : Ak} {boot k : Nat} {ms : List Mg} (D : Nat → Prop) (mk : Nat) (m : Mg) (f t : Int) (dv : Value) (w : World) (H : AkAt own base w q h a) (hB : base ≤ w.heap.size) (hI : Inv boot k a ms) (hk : k ≤ 900) (hm : m.ok a) (hmk : ∀ s l, m = .ask s l → 1 ≤ mk ∧ mk ≤ 10000) (hd : BytesV D w dv (code (m.ms boot))) :
    Calls Tryz.prog 10 #[.pointer (some ⟨q, 0, none⟩), .agg #[.int .i64 f, .int .i64 t, dv], .int .i64 (mk : Int)] w (ArrPost base q h boot a mk m w) := by
  have hf := Mg.fine hI hk hm
  have hfew := hI.few
  have hnx := hI.next
  have hlle := a.c.low_le
  have hrl := hI.rlow
  have hb1 := hI.b1
  cases m with
  | ask s l =>
    obtain ⟨m1, m2, m3, m4, m5⟩ := hm
    obtain ⟨j, rfl⟩ : ∃ j, s = j + 1 := ⟨s - 1, by omega⟩
    have ht := hI.turn m1 m4
    have hwin : j + 1 < (a.r.turn boot l).low + 8 := by have := turn_low_ge a.r boot l; omega
    have hRl : (a.r.turn boot l).low ≤ a.c.low := ht.rlow
    by_cases c1 : j + 1 < (a.r.turn boot l).low
    · refine (ask_stale D boot (j + 1) l j mk f t dv w H hB hf hd hI.cok (by omega) rfl (by omega) (by omega) hI.lent hI.lens hI.rboot m1 m2 (by omega) hwin c1 (fun i hi => ?_)).mono fun e w' ⟨e1, own', h1, h2⟩ => ⟨e1, _, own', .stale _ _ c1, h1, h2⟩
      have := a.c.low_mem hi
      omega
    · by_cases c2 : ((a.r.turn boot l).slots ((j + 1) % 8)).s = j + 1
      · have hd1 : a.done[j]? = some 1 := ht.slot j (by show j < a.done.length; omega) c2
        obtain ⟨k1, k2, k3⟩ := ht.kept j (by show j < a.done.length; omega) hd1
        obtain ⟨k4, k5⟩ := k3 (by show (a.r.turn boot l).low ≤ j + 1; omega)
        have k5' : a.told[j]? = some (((a.r.turn boot l).slots ((j + 1) % 8)).id : Int) := k5
        have hid : 1 ≤ ((a.r.turn boot l).slots ((j + 1) % 8)).id ∧ ((a.r.turn boot l).slots ((j + 1) % 8)).id ≤ 10000 := by
          rcases hI.done j (by omega) with ⟨d1, _⟩ | ⟨_, id', d2, d3, d4⟩
          · rw [hd1] at d1; exact absurd d1 (by decide)
          · rw [k5'] at d4
            injection d4 with d4
            omega
        exact (ask_kept D boot (j + 1) l j mk f t dv w H hB hf hd hI.cok (by omega) rfl (by omega) (by omega) hI.lent hI.lens hI.rboot m1 m2 (by omega) hwin _ (by omega) c2 rfl k5' hd1 (fine_repM (by omega) (by omega) (by omega)) (by omega) (by omega)).mono fun e w' ⟨e1, own', h1, h2⟩ => ⟨e1, _, own', .kept _ _ _ (by omega) c2 rfl, h1, h2⟩
      · have hmk' := hmk _ _ rfl
        have hd0 : a.done[j]? = some 0 ∧ a.told[j]? = some 0 := by
          rcases ht.done j (by show j < a.done.length; omega) with e | e
          · exact e
          · exact absurd ((ht.kept j (by show j < a.done.length; omega) e.1).2.2 (by show (a.r.turn boot l).low ≤ j + 1; omega)).1 c2
        exact (ask_new D boot (j + 1) l j mk f t dv w H hB hf hd hI.cok (by omega) rfl (by omega) (by omega) hI.lent hI.lens hI.rboot m1 m2 (by omega) hwin mk rfl (by omega) c2 hd0.2 hd0.1 (fine_repM (by omega) (by omega) (by omega)) (by omega) (by omega)).mono fun e w' ⟨e1, own', h1, h2⟩ => ⟨e1, _, own', .new _ _ j rfl (by omega) c2, h1, h2⟩
  | rep s id =>
    obtain ⟨m1, m2, m3, m4, m5, m6⟩ := hm
    obtain ⟨j, rfl⟩ : ∃ j, s = j + 1 := ⟨s - 1, by omega⟩
    have m6' : a.told[j]? = some (id : Int) := m6
    by_cases c1 : j + 1 ∈ a.c.opn
    · obtain ⟨x, hx⟩ : ∃ x, a.seen[j]? = some x := ⟨_, List.getElem?_eq_getElem (by have := hI.lens; omega)⟩
      exact (reply_open D boot (j + 1) j id mk f t x dv w H hB hf hd hI.cok (by omega) rfl (by omega) (by omega) hI.lent hI.lens c1 m6' hx).mono fun e w' ⟨e1, own', h1, h2⟩ => ⟨e1, _, own', .open_ _ j _ rfl c1, h1, h2⟩
    · have hne : ∀ i ∈ a.c.opn, (i : Int) ≠ ((j + 1 : Nat) : Int) := by
        intro i hi e
        have e1 : i = j + 1 := by omega
        exact c1 (e1 ▸ hi)
      exact (reply_shut D boot (j + 1) j id mk f t dv w H hB hf hd hI.cok (by omega) rfl (by omega) (by omega) hI.lent hI.lens hne m6').mono fun e w' ⟨e1, own', h1, h2⟩ => ⟨e1, _, own', .shut _ _ c1, h1, h2⟩
/-- The bag: without new blocks of the bag's. -/
theorem AkAt.upBagTight {own : Nat → Nat} {base : Nat} {w w' : World} {q : Nat} {h : Hd} {a : Ak} {b' : Bg7.Bg} (H : AkAt own base w q h a) (hc : Bg7.BagAt (fun k => own k = 3 ∧ k < w.heap.size) w' h.pb b') (hm : Mod (fun k => own k = 3) w w') : AkAt own base w' q h { a with b := b' } :=
  have hk : ∀ k, k < w.heap.size → own k ≠ 3 → w'.heap[k]? = w.heap[k]? := fun k hl e => hm.block k hl e
  ⟨(hk q (lt_of_heap H.head) (by rw [H.hq]; decide)).trans H.head, H.hq, H.calls.keep (fun k hl e => hk k hl (by rw [e]; decide)), H.rep.keep (hk _ H.rep.lt (by rw [H.hr]; decide)), H.hr, hc.mono (fun _ _ hk => hk.1),
    H.done.keep (fun k hl e => hk k hl (by rw [e]; decide)), H.told.keep (fun k hl e => hk k hl (by rw [e]; decide)), H.seen.keep (fun k hl e => hk k hl (by rw [e]; decide)), fun k e => ⟨(H.back k e).1, Nat.lt_of_lt_of_le (H.back k e).2 hm.size⟩, fun k o e => have e1 := H.ext k o e; ⟨e1.1, (hk k (lt_of_heap e1.2) (by rw [e1.1]; decide)).trans e1.2⟩⟩
def TakePost (own : Nat → Nat) (base q : Nat) (h : Hd) (a : Ak) (k : Int) (w : World) (e : Ending) (w' : World) : Prop :=
  AkAt own base w' q h { a with b := a.b.drop k } ∧ Below base w w' ∧ ((a.b.at_ k = none ∧ e = .returned (.tuple #[.agg #[.int .i64 0, .int .i64 0, .slice none 0 0], .bool false])) ∨
    ∃ (p : Bg7.Pkt) (dv : Value), a.b.at_ k = some p ∧ e = .returned (.tuple #[.agg #[.int .i64 p.src, .int .i64 p.dst, dv], .bool true]) ∧ BytesV (fun b => w.heap.size ≤ b) w' dv p.data)
theorem take_ak {own : Nat → Nat} {base q : Nat} {h : Hd} {a : Ak} (k : Int) (w : World) (H : AkAt own base w q h a) (hB : base ≤ w.heap.size) (hlen : ∀ p, a.b.at_ k = some p → p.data.length ≤ 1000) :
    Calls Tryz.prog 9 #[.pointer (some ⟨h.pb, 0, none⟩), .int .i64 k] w (TakePost own base q h a k w) := by
  refine (Bg7.take_any2 (fun k => own k = 3) h.pb a.b k w H.bag).mono ?_
  rintro e w' ⟨h1, h2, h3⟩
  refine ⟨H.upBagTight h2 h3, H.belowOf hB (by decide) h3, ?_⟩
  cases e1 : a.b.at_ k with
  | none => rw [e1] at h1; exact .inl ⟨rfl, h1⟩
  | some p =>
    rw [e1] at h1
    obtain ⟨v, rfl, hv⟩ := h1
    have := hlen p e1
    obtain ⟨dv, rfl, hb⟩ := hv.bytes (by simp only [maxLen]; omega)
    exact .inr ⟨p, dv, rfl, rfl, hb⟩
def BagPost (base q : Nat) (h : Hd) (a' : Ak) (v : Value) (w : World) (e : Ending) (w' : World) : Prop := e = .returned v ∧ ∃ own', AkAt own' base w' q h a' ∧ Below base w w'
theorem drop_ak {own : Nat → Nat} {base q : Nat} {h : Hd} {a : Ak} (k : Int) (w : World) (H : AkAt own base w q h a) (hB : base ≤ w.heap.size) :
    Calls Tryz.prog 11 #[.pointer (some ⟨h.pb, 0, none⟩), .int .i64 k] w (BagPost base q h { a with b := a.b.drop k } (.bool (a.b.at_ k).isSome) w) := by
  refine (Bg7.drop_any (fun k => own k = 3) h.pb a.b k w H.bag).mono ?_
  rintro e w' ⟨h1, h2, h3⟩
  exact ⟨h1, _, H.upBag hB h2 h3, H.belowOf hB (by decide) h3⟩
theorem double_ak {own : Nat → Nat} {base q : Nat} {h : Hd} {a : Ak} (k : Int) (w : World) (H : AkAt own base w q h a) (hB : base ≤ w.heap.size) :
    Calls Tryz.prog 12 #[.pointer (some ⟨h.pb, 0, none⟩), .int .i64 k] w (BagPost base q h { a with b := a.b.double k } (.int .i64 (a.b.doubleE k)) w) := by
  refine (Bg7.double_any (fun k => own k = 3) h.pb a.b k w H.bag).mono ?_
  rintro e w' ⟨h1, h2, h3⟩
  exact ⟨h1, _, H.upBag hB h2 h3, H.belowOf hB (by decide) h3⟩
end Go.Proofs.YtaelbgjcoakdlaaGreat
