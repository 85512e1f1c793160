/- opens: its region of three appends, by an invariant over what has come up. -/
import Derived.Test.YtaelbgjcoakdlaaGreatOncq
import Derived.Test.YtaelbgjcoakdlaaGreatIntsM
namespace Go.Proofs.YtaelbgjcoakdlaaGreat
open Go.RowKit Go.Maps

def Hd.row (h : Hd) : Nat → Value
  | 0 => h.vd
  | 1 => h.vt
  | _ => h.vs
def Ak.row (a : Ak) : Nat → List Int
  | 0 => a.done
  | 1 => a.told
  | _ => a.seen
def qp (q i : Nat) : Value := .pointer (some ⟨q, i, none⟩)
/-- What the slots hold, once their operation has come up. -/
def kst (q : Nat) (h : Hd) (d : Nat) : Option Value :=
  if d = 43 ∨ d = 44 ∨ d = 49 ∨ d = 50 ∨ d = 55 ∨ d = 56 ∨ d < 36 ∨ 62 < d then none
  else if d = 42 then some h.vd else if d = 48 then some h.vt else if d = 54 then some h.vs
  else if d = 41 ∨ d = 58 then some (qp q 3) else if d = 47 ∨ d = 60 then some (qp q 4) else if d = 53 ∨ d = 62 then some (qp q 5) else some (qp q 0)
def opOf (d : Nat) : Nat := if d ≤ 58 then d - 36 else if d ≤ 60 then d - 35 else d - 34
theorem kst_range {q : Nat} {h : Hd} {d : Nat} {v : Value} (e : kst q h d = some v) : 36 ≤ d ∧ d ≤ 62 := by
  unfold kst at e
  split at e
  · cases e
  · omega
theorem opOf_inj {d d' : Nat} (h : 36 ≤ d ∧ d ≤ 62) (h' : 36 ≤ d' ∧ d' ≤ 62) (e : opOf d = opOf d') : d = d' := by
  unfold opOf at e
  split at e <;> split at e <;> first | omega | (split at e <;> first | omega | (split at e <;> omega))
structure OIx (base q : Nat) (h : Hd) (a : Ak) (w0 : World) (L : Nat → Bool) (e : Nat → Value) (w : World) (own : Nat → Nat) (V : Nat → Value) : Prop where
  tm : ∀ d v, kst q h d = some v → L (opOf d) = true → e d = v
  tx : ∀ k, k < 3 → L (8 + 6 * k) = true → e (44 + 6 * k) = V k
  head : w.heap[q]? = some (.cells #[.pointer (some ⟨h.pc, 0, none⟩), .pointer (some ⟨h.pr, 0, none⟩), .pointer (some ⟨h.pb, 0, none⟩), cond (L 23) (V 0) h.vd, cond (L 26) (V 1) h.vt, cond (L 29) (V 2) h.vs] 34 (0, 0))
  hq : own q = 7
  calls : CallsAt (fun k => own k = 1) w h.pc a.c
  rep : RepAt w h.pr a.r
  hr : own h.pr = 2
  bag : Bg7.BagAt (fun k => own k = 3) w h.pb a.b
  rows : ∀ k, k < 3 → Row own (4 + k) base w (cond (L (8 + 6 * k)) (V k) (h.row k)) (cond (L (8 + 6 * k)) (a.row k ++ [0]) (a.row k))
  back : ∀ k, own k ≠ 0 → base ≤ k ∧ k < w.heap.size
  one : ∀ k, k < 3 → L (7 + 6 * k) = true → L (8 + 6 * k) = false → ∃ g, e (43 + 6 * k) = .slice (some ⟨g, 0, none⟩) 1 1 ∧ w.heap[g]? = some (.cells #[.int .i64 0] 3 (0, 0)) ∧ own g = 0
  o23 : L 23 = true → L 20 = true ∧ L 6 = true ∧ L 12 = true ∧ L 18 = true
  o26 : L 26 = true → L 23 = true
  o29 : L 29 = true → L 23 = true
  o20 : L 20 = true → L 8 = true ∧ L 14 = true
  o14 : L 14 = true → L 8 = true
  ext : ∀ k o, a.x k = some o → own k = 8 ∧ w.heap[k]? = some o
  low : Below base w0 w
def upd (e : Nat → Value) (d : Nat) (v : Value) : Nat → Value := fun j => if j = d then v else e j
theorem upd_self (e : Nat → Value) (d : Nat) (v : Value) : upd e d v d = v := if_pos rfl
theorem upd_ne {e : Nat → Value} {d j : Nat} {v : Value} (h : j ≠ d) : upd e d v j = e j := if_neg h
/-- A slot is written. -/
theorem kst_put {q : Nat} {h : Hd} {L : Nat → Bool} {e : Nat → Value} {i d0 : Nat} {v : Value} (hd : 36 ≤ d0 ∧ d0 ≤ 62) (ho : opOf d0 = i) (hv : ∀ v', kst q h d0 = some v' → v' = v)
    (tm : ∀ d v, kst q h d = some v → L (opOf d) = true → e d = v) : ∀ d v', kst q h d = some v' → got L i (opOf d) = true → upd e d0 v d = v' := by
  intro d v' hk hg
  by_cases ed : d = d0
  · subst ed
    rw [upd_self, hv v' hk]
  · rw [upd_ne ed]
    refine tm d v' hk ?_
    by_cases e2 : opOf d = i
    · exact absurd (opOf_inj (kst_range hk) hd (e2.trans ho.symm)) ed
    · rw [got_ne e2] at hg
      exact hg
/-- An operation that only reads. -/
theorem OIx.read {base q : Nat} {h : Hd} {a : Ak} {w0 : World} {L : Nat → Bool} {e : Nat → Value} {w : World} {own : Nat → Nat} {V : Nat → Value} (H : OIx base q h a w0 L e w own V) {i d0 : Nat} {v : Value} (hd : 36 ≤ d0 ∧ d0 ≤ 62) (ho : opOf d0 = i) (hv : kst q h d0 = some v) :
    OIx base q h a w0 (got L i) (upd e d0 v) w own V := by
  have hi : i ≠ 7 ∧ i ≠ 8 ∧ i ≠ 13 ∧ i ≠ 14 ∧ i ≠ 19 ∧ i ≠ 20 ∧ i ≠ 23 ∧ i ≠ 26 ∧ i ≠ 29 ∧ d0 ≠ 43 ∧ d0 ≠ 44 ∧ d0 ≠ 49 ∧ d0 ≠ 50 ∧ d0 ≠ 55 ∧ d0 ≠ 56 := by
    unfold kst at hv
    split at hv
    · cases hv
    · unfold opOf at ho
      split at ho <;> first | omega | (split at ho <;> omega)
  have g8 : ∀ k, k < 3 → got L i (8 + 6 * k) = L (8 + 6 * k) := fun k hk => got_ne (by omega)
  have g7 : ∀ k, k < 3 → got L i (7 + 6 * k) = L (7 + 6 * k) := fun k hk => got_ne (by omega)
  have g23 : got L i 23 = L 23 := got_ne (by omega)
  have g26 : got L i 26 = L 26 := got_ne (by omega)
  have g29 : got L i 29 = L 29 := got_ne (by omega)
  have g20 : got L i 20 = L 20 := got_ne (by omega)
  have gm : ∀ j, L j = true → got L i j = true := fun j hj => by simp [got, hj]
  refine ⟨kst_put hd ho (fun v' e' => by rw [hv] at e'; injection e' with e'; exact e'.symm) H.tm, ?_, ?_, H.hq, H.calls, H.rep, H.hr, H.bag, ?_, H.back, ?_, ?_, ?_, ?_, ?_, ?_, H.ext, H.low⟩
  · intro k hk hl
    rw [g8 k hk] at hl
    rw [upd_ne (by omega)]
    exact H.tx k hk hl
  · rw [g23, g26, g29]; exact H.head
  · intro k hk
    rw [g8 k hk]; exact H.rows k hk
  · intro k hk h1 h2
    rw [g7 k hk] at h1
    rw [g8 k hk] at h2
    rw [upd_ne (by omega)]
    exact H.one k hk h1 h2
  · intro h1
    rw [g23] at h1
    obtain ⟨a1, a2, a3, a4⟩ := H.o23 h1
    exact ⟨gm _ a1, gm _ a2, gm _ a3, gm _ a4⟩
  · intro h1
    rw [g26] at h1
    exact gm _ (H.o26 h1)
  · intro h1
    rw [g29] at h1
    exact gm _ (H.o29 h1)
  · intro h1
    rw [g20] at h1
    exact ⟨gm _ (H.o20 h1).1, gm _ (H.o20 h1).2⟩
  · intro h1
    rw [show got L i 14 = L 14 from got_ne (by omega)] at h1
    exact gm _ (H.o14 h1)
/-- A block of one element is made. -/
theorem OIx.build {base q : Nat} {h : Hd} {a : Ak} {w0 : World} {L : Nat → Bool} {e : Nat → Value} {w : World} {own : Nat → Nat} {V : Nat → Value} (H : OIx base q h a w0 L e w own V) (hB : base ≤ w0.heap.size) {k : Nat} (hk : k < 3) :
    OIx base q h a w0 (got L (7 + 6 * k)) (upd e (43 + 6 * k) (.slice (some ⟨w.heap.size, 0, none⟩) 1 1)) (w.alloc (.cells #[.int .i64 0] 3)) own V := by
  have hb : Below w.heap.size w (w.alloc (.cells #[.int .i64 0] 3)) := (Below.refl _ _).alloc (Nat.le_refl _) _
  have hkp : ∀ b, b < w.heap.size → (w.alloc (.cells #[.int .i64 0] 3)).heap[b]? = w.heap[b]? := fun b hl => hb.block b hl
  have g8 : ∀ j, j < 3 → got L (7 + 6 * k) (8 + 6 * j) = L (8 + 6 * j) := fun j hj => got_ne (by omega)
  have gx : ∀ j, 23 ≤ j → got L (7 + 6 * k) j = L j := fun j hj => got_ne (by omega)
  have g20 : got L (7 + 6 * k) 20 = L 20 := got_ne (by omega)
  have gm : ∀ j, L j = true → got L (7 + 6 * k) j = true := fun j hj => by simp [got, hj]
  have hkn : kst q h (43 + 6 * k) = none := by unfold kst; rw [if_pos (by omega)]
  refine ⟨kst_put (by omega) (by unfold opOf; rw [if_pos (by omega)]; omega) (fun v' e' => by rw [hkn] at e'; cases e') H.tm, ?_, ?_, H.hq, H.calls.below hb, H.rep.below hb, H.hr, H.bag.below hb, ?_, ?_, ?_, ?_, ?_, ?_, ?_, ?_, fun b o e => have e1 := H.ext b o e; ⟨e1.1, (hkp b (lt_of_heap e1.2)).trans e1.2⟩, H.low.trans (hb.mono (Nat.le_trans hB H.low.size))⟩
  · intro j hj hl
    rw [g8 j hj] at hl
    rw [upd_ne (by omega)]
    exact H.tx j hj hl
  · rw [gx 23 (by omega), gx 26 (by omega), gx 29 (by omega)]
    exact (hkp _ (lt_of_heap H.head)).trans H.head
  · intro j hj
    rw [g8 j hj]
    exact (H.rows j hj).keep (fun b hl _ => hkp b hl)
  · intro b hb'
    have := H.back b hb'
    exact ⟨this.1, Nat.lt_of_lt_of_le this.2 hb.size⟩
  · intro j hj h1 h2
    rw [g8 j hj] at h2
    by_cases ej : j = k
    · subst ej
      refine ⟨w.heap.size, by rw [upd_self], heap_at w _ _ rfl, Classical.byContradiction fun e => by have := (H.back _ e).2; omega⟩
    · rw [got_ne (by omega)] at h1
      obtain ⟨g, e1, e2, e3⟩ := H.one j hj h1 h2
      exact ⟨g, by rw [upd_ne (by omega)]; exact e1, (hkp _ (lt_of_heap e2)).trans e2, e3⟩
  · intro h1
    rw [gx 23 (by omega)] at h1
    obtain ⟨a1, a2, a3, a4⟩ := H.o23 h1
    exact ⟨gm _ a1, gm _ a2, gm _ a3, gm _ a4⟩
  · intro h1
    rw [gx 26 (by omega)] at h1
    exact gm _ (H.o26 h1)
  · intro h1
    rw [gx 29 (by omega)] at h1
    exact gm _ (H.o29 h1)
  · intro h1
    rw [g20] at h1
    exact ⟨gm _ (H.o20 h1).1, gm _ (H.o20 h1).2⟩
  · intro h1
    rw [show got L (7 + 6 * k) 14 = L 14 from got_ne (by omega)] at h1
    exact gm _ (H.o14 h1)
/-- An element more. -/
theorem OIx.push {base q : Nat} {h : Hd} {a : Ak} {w0 : World} {L : Nat → Bool} {e : Nat → Value} {w w' : World} {own : Nat → Nat} {V : Nat → Value} (H : OIx base q h a w0 L e w own V) (hB : base ≤ w0.heap.size) {k : Nat} (hk : k < 3) {v : Value}
    (hl : L (8 + 6 * k) = false) (hpre : k = 2 → L 8 = true ∧ L 14 = true) (hpre1 : k = 1 → L 8 = true) (hrow : w'.ownsRow base 3 1 v ((a.row k).length + 1) ((a.row k ++ [0]).map I8)) (hg : w.grownBy w' (h.row k).ownBlock) (hat : v.ownBlock = (h.row k).ownBlock ∨ v.ownBlock = some w.heap.size) :
    OIx base q h a w0 (got L (8 + 6 * k)) (upd e (44 + 6 * k) v) w' (paint own w w' (4 + k)) (fun j => if j = k then v else V j) := by
  have h20 : L 20 = false := by
    cases e20 : L 20 with
    | false => rfl
    | true =>
      obtain ⟨e1, e2⟩ := H.o20 e20
      obtain rfl | rfl | rfl : k = 0 ∨ k = 1 ∨ k = 2 := by omega
      · rw [e1] at hl; cases hl
      · rw [e2] at hl; cases hl
      · rw [e20] at hl; cases hl
  have h23 : L 23 = false := by
    cases e23 : L 23 with
    | false => rfl
    | true => rw [(H.o23 e23).1] at h20; cases h20
  have h26 : L 26 = false := by
    cases e26 : L 26 with
    | false => rfl
    | true => rw [H.o26 e26] at h23; cases h23
  have h29 : L 29 = false := by
    cases e29 : L 29 with
    | false => rfl
    | true => rw [H.o29 e29] at h23; cases h23
  have hr := H.rows k hk
  rw [hl] at hr
  have hkp : ∀ b, b < w.heap.size → own b ≠ 4 + k → w'.heap[b]? = w.heap[b]? := fun b hlb hne => hg.block b hlb (fun e => hne (hr.2 b e.symm))
  have gx : ∀ j, 23 ≤ j → got L (8 + 6 * k) j = L j := fun j hj => got_ne (by omega)
  have g7 : ∀ j, j < 3 → got L (8 + 6 * k) (7 + 6 * j) = L (7 + 6 * j) := fun j hj => got_ne (by omega)
  have gm : ∀ j, L j = true → got L (8 + 6 * k) j = true := fun j hj => by simp [got, hj]
  have hkn : kst q h (44 + 6 * k) = none := by unfold kst; rw [if_pos (by omega)]
  have hpl : ∀ b, b < w.heap.size → paint own w w' (4 + k) b = own b := fun b hb => paint_old hb
  refine ⟨kst_put (by omega) (by unfold opOf; rw [if_pos (by omega)]; omega) (fun v' e' => by rw [hkn] at e'; cases e') H.tm, ?_, ?_, (hpl _ (lt_of_heap H.head)).trans H.hq, ?_, H.rep.keep (hkp _ H.rep.lt (by rw [H.hr]; omega)), (hpl _ H.rep.lt).trans H.hr, ?_, ?_, ?_, ?_, ?_, ?_, ?_, ?_, ?_, ?_, ?_⟩
  · intro j hj hlj
    by_cases ej : j = k
    · subst ej; rw [upd_self, if_pos rfl]
    · rw [upd_ne (by omega), if_neg ej]
      rw [got_ne (by omega)] at hlj
      exact H.tx j hj hlj
  · rw [gx 23 (by omega), gx 26 (by omega), gx 29 (by omega), h23, h26, h29]
    have := H.head
    rw [h23, h26, h29] at this
    exact (hkp _ (lt_of_heap H.head) (by rw [H.hq]; omega)).trans this
  · exact (H.calls.keep (fun b hlb e => hkp b hlb (by rw [e]; omega))).mono (fun b _ e => (hpl b (H.back b (by rw [e]; decide)).2).trans e)
  · refine (H.bag.keep (fun b hlb e => hkp b hlb (by rw [e]; omega)) hg.size).mono (fun b _ e => (hpl b (H.back b (by rw [e]; decide)).2).trans e)
  · intro j hj
    by_cases ej : j = k
    · subst ej
      rw [got_self]
      dsimp only [cond]
      rw [if_pos rfl]
      refine ⟨by simpa using hrow, fun g hgb => ?_⟩
      rcases hat with e1 | e1
      · rw [hgb] at e1
        have e2 := hr.2 g e1.symm
        exact (hpl g (H.back g (by rw [e2]; omega)).2).trans e2
      · rw [hgb] at e1
        injection e1 with e1
        subst e1
        have := (hrow.lt w.heap.size hgb).2
        unfold paint
        rw [if_neg (Nat.lt_irrefl _), if_pos this]
    · rw [got_ne (by omega)]
      have := ((H.rows j hj).paint (own' := paint own w w' (4 + k)) hpl).keep (w' := w') (fun b hlb e => hkp b hlb (by rw [hpl b hlb] at e; rw [e]; omega))
      cases eL : L (8 + 6 * j) with
      | false => rw [eL] at this; exact this
      | true => rw [eL] at this; dsimp only [cond]; rw [if_neg ej]; exact this
  · intro b hb
    by_cases hlb : b < w.heap.size
    · rw [hpl b hlb] at hb
      exact ⟨(H.back b hb).1, Nat.lt_of_lt_of_le hlb hg.size⟩
    · unfold paint at hb
      rw [if_neg hlb] at hb
      by_cases hl2 : b < w'.heap.size
      · exact ⟨by have := H.low.size; omega, hl2⟩
      · rw [if_neg hl2] at hb; exact absurd rfl hb
  · intro j hj h1 h2
    rw [g7 j hj] at h1
    have ej : j ≠ k := fun ej => by rw [ej, got_self] at h2; cases h2
    rw [got_ne (by omega)] at h2
    obtain ⟨g, e1, e2, e3⟩ := H.one j hj h1 h2
    exact ⟨g, by rw [upd_ne (by omega)]; exact e1, (hkp _ (lt_of_heap e2) (by rw [e3]; omega)).trans e2, (hpl g (lt_of_heap e2)).trans e3⟩
  · intro h1
    rw [gx 23 (by omega), h23] at h1; cases h1
  · intro h1
    rw [gx 26 (by omega), h26] at h1; cases h1
  · intro h1
    rw [gx 29 (by omega), h29] at h1; cases h1
  · intro h1
    by_cases ek : k = 2
    · exact ⟨gm _ (hpre ek).1, gm _ (hpre ek).2⟩
    · rw [got_ne (by omega), h20] at h1; cases h1
  · intro h1
    by_cases ek : k = 1
    · exact gm _ (hpre1 ek)
    · rw [got_ne (by omega)] at h1
      exact gm _ (H.o14 h1)
  · intro b o e
    have e1 := H.ext b o e
    exact ⟨(hpl b (lt_of_heap e1.2)).trans e1.1, (hkp b (lt_of_heap e1.2) (by rw [e1.1]; omega)).trans e1.2⟩
  · have hb : Below base w w' := ⟨hg.os, hg.tape, hg.output, hg.size, fun b hbb => hg.block b (Nat.lt_of_lt_of_le hbb (Nat.le_trans hB H.low.size)) (fun e => by
      have e2 := hr.2 b e.symm
      have := (H.back b (by rw [e2]; omega)).1
      omega)⟩
    exact H.low.trans hb
/-- A header is written. -/
theorem OIx.store {base q : Nat} {h : Hd} {a : Ak} {w0 : World} {L : Nat → Bool} {e : Nat → Value} {w : World} {own : Nat → Nat} {V : Nat → Value} (H : OIx base q h a w0 L e w own V) {k : Nat} (hk : k < 3)
    (h0 : k = 0 → L 20 = true ∧ L 6 = true ∧ L 12 = true ∧ L 18 = true) (h1 : k ≠ 0 → L 23 = true) :
    OIx base q h a w0 (got L (23 + 3 * k)) e (w.setCell ⟨q, 3 + k, none⟩ (V k)) own V := by
  have hkp : ∀ b, own b ≠ 7 → (w.setCell ⟨q, 3 + k, none⟩ (V k)).heap[b]? = w.heap[b]? := fun b hb => Below.heap_setCell w _ _ b (fun e => hb (by rw [e]; exact H.hq))
  have hsz : (w.setCell ⟨q, 3 + k, none⟩ (V k)).heap.size = w.heap.size := by simp [World.setCell]
  have gx : ∀ j, j < 23 → got L (23 + 3 * k) j = L j := fun j hj => got_ne (by omega)
  have gm : ∀ j, L j = true → got L (23 + 3 * k) j = true := fun j hj => by simp [got, hj]
  refine ⟨?_, ?_, ?_, H.hq, H.calls.keep (fun b hlb e => hkp b (by rw [e]; decide)), H.rep.keep (hkp _ (by rw [H.hr]; decide)), H.hr, H.bag.keep (fun b hlb e => hkp b (by rw [e]; decide)) (Nat.le_of_eq hsz.symm), ?_, ?_, ?_, ?_, ?_, ?_, ?_, ?_, fun b o e => have e1 := H.ext b o e; ⟨e1.1, (hkp b (by rw [e1.1]; decide)).trans e1.2⟩, ?_⟩
  · intro d v hd hl
    refine H.tm d v hd ?_
    rw [got_ne] at hl
    · exact hl
    · unfold kst at hd
      split at hd
      · cases hd
      · unfold opOf
        split
        · omega
        · split <;> omega
  · intro j hj hl
    rw [gx _ (by omega)] at hl
    exact H.tx j hj hl
  · obtain rfl | rfl | rfl : k = 0 ∨ k = 1 ∨ k = 2 := by omega
    · rw [show got L (23 + 3 * 0) 23 = true from got_self L 23, show got L (23 + 3 * 0) 26 = L 26 from got_ne (by decide), show got L (23 + 3 * 0) 29 = L 29 from got_ne (by decide)]
      exact blk_set H.head 3 (V 0)
    · rw [show got L (23 + 3 * 1) 23 = L 23 from got_ne (by decide), show got L (23 + 3 * 1) 26 = true from got_self L 26, show got L (23 + 3 * 1) 29 = L 29 from got_ne (by decide)]
      exact blk_set H.head 4 (V 1)
    · rw [show got L (23 + 3 * 2) 23 = L 23 from got_ne (by decide), show got L (23 + 3 * 2) 26 = L 26 from got_ne (by decide), show got L (23 + 3 * 2) 29 = true from got_self L 29]
      exact blk_set H.head 5 (V 2)
  · intro j hj
    rw [gx _ (by omega)]
    exact (H.rows j hj).keep (fun b _ e => hkp b (by rw [e]; omega))
  · intro b hb
    rw [hsz]
    exact H.back b hb
  · intro j hj e1 e2
    rw [gx _ (by omega)] at e1 e2
    obtain ⟨g, a1, a2, a3⟩ := H.one j hj e1 e2
    exact ⟨g, a1, (hkp _ (by rw [a3]; decide)).trans a2, a3⟩
  · intro e1
    rw [gx 20 (by omega), gx 6 (by omega), gx 12 (by omega), gx 18 (by omega)]
    by_cases ek : k = 0
    · exact h0 ek
    · exact H.o23 (h1 ek)
  · intro e1
    by_cases ek : k = 0
    · subst ek; exact got_self L 23
    · exact gm _ (h1 ek)
  · intro e1
    by_cases ek : k = 0
    · subst ek; exact got_self L 23
    · exact gm _ (h1 ek)
  · intro e1
    rw [gx 20 (by omega)] at e1
    rw [gx 8 (by omega), gx 14 (by omega)]
    exact H.o20 e1
  · intro e1
    rw [gx 14 (by omega)] at e1
    rw [gx 8 (by omega)]
    exact H.o14 e1
  · exact H.low.setCell (p := ⟨q, 3 + k, none⟩) (H.back q (by rw [H.hq]; decide)).1 _
/-- The operations, run. -/
theorem run_nil {ρ : Operand → Value} {o : Oper} {x : Operand} (h : o.op = .nilCheck x) {q i : Nat} (hx : ρ x = qp q i) (w : World) : (execOp ρ o).run Tryz.prog w = .ok (.value (qp q i)) w := by
  unfold execOp; rw [h]; simp only [hx, qp]; go_simp
theorem run_fa {ρ : Operand → Value} {o : Oper} {x : Operand} {i : Nat} (hi : i < 6) (h : o.op = .fieldAddr 34 x i) {q : Nat} (hx : ρ x = qp q 0) (w : World) : (execOp ρ o).run Tryz.prog w = .ok (.value (qp q i)) w := by
  unfold execOp; rw [h]; simp only [hx, qp]
  obtain rfl | rfl | rfl | rfl | rfl | rfl : i = 0 ∨ i = 1 ∨ i = 2 ∨ i = 3 ∨ i = 4 ∨ i = 5 := by omega
  all_goals go_simp
theorem run_ld {ρ : Operand → Value} {o : Oper} {x : Operand} (h : o.op = .load 32 x) {q i : Nat} (hx : ρ x = qp q i) (w : World) {v : Value} (hc : w.cell? ⟨q, i, none⟩ = some v) : (execOp ρ o).run Tryz.prog w = .ok (.value v) w := by
  unfold execOp; rw [h]; simp only [hx, qp]; go_simp
theorem run_st {ρ : Operand → Value} {o : Oper} {x y : Operand} (h : o.op = .store 32 x y) {q i : Nat} (hx : ρ x = qp q i) (w : World) {b : Option Addr} {n c : Nat} (hy : ρ y = .slice b n c) {v : Value} (hc : w.cell? ⟨q, i, none⟩ = some v) (hf : w.frozen? ⟨q, i, none⟩ = false) : (execOp ρ o).run Tryz.prog w = .ok .skip (w.setCell ⟨q, i, none⟩ (.slice b n c)) := by
  unfold execOp; rw [h]; simp only [hx, hy, qp]; go_simp
theorem run_bs {ρ : Operand → Value} {o : Oper} (h : o.op = .buildSlice 32 1 #[(0, .const (.int .i64 0))]) (hc : ρ (.const (.int .i64 0)) = .int .i64 0) (w : World) : (execOp ρ o).run Tryz.prog w = .ok (.value (.slice (some ⟨w.heap.size, 0, none⟩) 1 1)) (w.alloc (.cells #[.int .i64 0] 3)) := by
  unfold execOp; rw [h]; simp only [hc]; go_simp
end Go.Proofs.YtaelbgjcoakdlaaGreat
