/- The grantor's state; Root, isTime, isMode; what a request is asked.  The request's questions: numbers, words, length, borne, deep, outlasts; Bears of the root lease.  The grantor: counts, unexpired, room of an empty set and of a set of one.  The grantor: room of an empty set and of a set of one; sweep of an empty set; long.  The grantor: keep, extended, the closures of Grant.  The grantor: extended, and the closures of Grant.  The grantor: Grant's write (long, then sweep).  The grantor: what Grant asks, in order.  The grantor: Grant.  The grantor: Grant that stands.  The grantor: List of one grant. -/
import Derived.Test.YtchdfogifhfclaaGreatDoorFirstM
namespace Go.Proofs.YtchdfogifhfclaaGreatDoor
open Go.RowKit
open Go.ChangeMaps (setBlock)

/-- The grantor's blocks: itself, its ledger, its set, its notes; the ledger's disk. -/
structure Gs where
  g : Nat
  lp : Nat
  sp : Nat
  nm : Nat
  d : Nat
  s : Nat
/-- What the ledger says. -/
structure Lst where
  n : Nat
  next : Int
  longest : Int
  o : Option Gr
def noteV (x : Int) : Value := .agg #[.int .i64 x, .int .i64 0, .int .i64 0]
def notes (os : Option Ent) (x : Int) : Array MapEntry := match os with
  | none => #[]
  | some _ => #[⟨.int .i64 1, noteV x, 0⟩]
def headC (q : Gs) : Array Value := #[.pointer (some ⟨q.lp, 0, none⟩), .pointer (some ⟨q.sp, 0, none⟩), .map (some q.nm), .int .i64 0]
structure GrAt (F : Nat → Prop) (q : Gs) (L : Lst) (os : Option Ent) (x : Int) (w : World) : Prop where
  head : w.heap[q.g]? = some (.cells (headC q) 84 (0, 0))
  note : w.heap[q.nm]? = some (.map (notes os x) (notes os x).size)
  own : F q.g ∧ F q.nm ∧ q.g ≠ q.nm
  parts : ∃ FL FS : Nat → Prop, LedAt FL q.lp q.d q.s L.n L.next L.longest L.o w ∧ SetAt FS q.sp os w ∧ (∀ k, FL k → k < w.heap.size ∧ F k ∧ k ≠ q.g ∧ k ≠ q.nm ∧ ¬ FS k) ∧ (∀ k, FS k → k < w.heap.size ∧ F k ∧ k ≠ q.g ∧ k ≠ q.nm)
theorem GrAt.keep {F : Nat → Prop} {q : Gs} {L : Lst} {os : Option Ent} {x : Int} {w w' : World} (h : GrAt F q L os x w) (hk : ∀ k, k < w.heap.size → F k → w'.heap[k]? = w.heap[k]?) (hs : w.heap.size ≤ w'.heap.size) : GrAt F q L os x w' := by
  obtain ⟨h1, h2, h3, FL, FS, h4, h5, h6, h7⟩ := h
  exact ⟨(hk _ (lt_of_heap h1) h3.1).trans h1, (hk _ (lt_of_heap h2) h3.2.1).trans h2, h3, FL, FS, h4.keep (fun k hl hf => hk k hl (h6 k hf).2.1) hs, h5.keep (fun k hl hf => hk k hl (h7 k hf).2.1),
    fun k hf => ⟨Nat.lt_of_lt_of_le (h6 k hf).1 hs, (h6 k hf).2⟩, fun k hf => ⟨Nat.lt_of_lt_of_le (h7 k hf).1 hs, (h7 k hf).2⟩⟩
theorem GrAt.below {F : Nat → Prop} {q : Gs} {L : Lst} {os : Option Ent} {x : Int} {w w' : World} (h : GrAt F q L os x w) (hb : Below w.heap.size w w') : GrAt F q L os x w' := h.keep (fun k hk _ => hb.block k hk) hb.size
theorem GrAt.mod {F D : Nat → Prop} {q : Gs} {L : Lst} {os : Option Ent} {x : Int} {w w' : World} (h : GrAt F q L os x w) (hm : Mod D w w') (hd : ∀ k, k < w.heap.size → F k → ¬ D k) : GrAt F q L os x w' := h.keep (fun k hk hf => hm.block k hk (hd k hk hf)) hm.size
theorem GrAt.mono {F F' : Nat → Prop} {q : Gs} {L : Lst} {os : Option Ent} {x : Int} {w : World} (h : GrAt F q L os x w) (hF : ∀ k, k < w.heap.size → F k → F' k) : GrAt F' q L os x w := by
  obtain ⟨h1, h2, h3, FL, FS, h4, h5, h6, h7⟩ := h
  exact ⟨h1, h2, ⟨hF _ (lt_of_heap h1) h3.1, hF _ (lt_of_heap h2) h3.2.1, h3.2.2⟩, FL, FS, h4, h5, fun k hf => ⟨(h6 k hf).1, hF k (h6 k hf).1 (h6 k hf).2.1, (h6 k hf).2.2⟩, fun k hf => ⟨(h7 k hf).1, hF k (h7 k hf).1 (h7 k hf).2.1, (h7 k hf).2.2⟩⟩
/-- The ledger goes on. -/
theorem GrAt.led {F : Nat → Prop} {q : Gs} {L : Lst} {os : Option Ent} {x : Int} {w : World} (h : GrAt F q L os x w) : ∃ FL : Nat → Prop, LedAt FL q.lp q.d q.s L.n L.next L.longest L.o w ∧ (∀ k, FL k → F k ∧ k ≠ q.g) ∧
    ∀ (L' : Lst) (w' : World), LedAt (Up FL w) q.lp q.d q.s L'.n L'.next L'.longest L'.o w' → Mod FL w w' → GrAt (Up F w) q L' os x w' ∧ Mod F w w' := by
  obtain ⟨h1, h2, h3, FL, FS, h4, h5, h6, h7⟩ := h
  refine ⟨FL, h4, fun k hf => ⟨(h6 k hf).2.1, (h6 k hf).2.2.1⟩, fun L' w' hl hm => ?_⟩
  have l1 := lt_of_heap h1
  have l2 := lt_of_heap h2
  have n1 : ¬ FL q.g := fun hf => (h6 _ hf).2.2.1 rfl
  have n2 : ¬ FL q.nm := fun hf => (h6 _ hf).2.2.2.1 rfl
  refine ⟨⟨(hm.block _ l1 n1).trans h1, (hm.block _ l2 n2).trans h2, ⟨.inl h3.1, .inl h3.2.1, h3.2.2⟩, fun k => Up FL w k ∧ k < w'.heap.size, FS, hl.mono (fun k hk hf => ⟨hf, hk⟩), h5.keep (fun k hk hf => hm.block k hk (fun g => (h6 k g).2.2.2.2 hf)), ?_, ?_⟩, hm.mono (fun k _ hf => (h6 k hf).2.1)⟩
  · rintro k ⟨hu, hk⟩
    rcases hu with hf | hf
    · exact ⟨hk, .inl (h6 k hf).2.1, (h6 k hf).2.2⟩
    · exact ⟨hk, .inr hf, by omega, by omega, fun g => by have := (h7 k g).1; omega⟩
  · exact fun k hf => ⟨Nat.lt_of_lt_of_le (h7 k hf).1 hm.size, .inl (h7 k hf).2.1, (h7 k hf).2.2⟩
/-- The set. -/
theorem GrAt.pset {F : Nat → Prop} {q : Gs} {L : Lst} {os : Option Ent} {x : Int} {w : World} (h : GrAt F q L os x w) : ∃ FS : Nat → Prop, SetAt FS q.sp os w ∧ (∀ k, FS k → k < w.heap.size ∧ F k ∧ k ≠ q.g ∧ k ≠ q.nm) ∧
    ∀ (en : Ent) (x' : Int) (w' : World), SetAt (Up FS w) q.sp (some en) w' → w'.heap[q.nm]? = some (.map (notes (some en) x') 1) → Mod (fun k => FS k ∨ k = q.nm) w w' → GrAt (Up F w) q L (some en) x' w' ∧ Mod F w w' := by
  obtain ⟨h1, h2, h3, FL, FS, h4, h5, h6, h7⟩ := h
  refine ⟨FS, h5, h7, fun en x' w' hl hn hm => ?_⟩
  have l1 := lt_of_heap h1
  have l2 := lt_of_heap h2
  have n1 : ¬ (FS q.g ∨ q.g = q.nm) := fun hf => by
    rcases hf with hf | hf
    · exact (h7 _ hf).2.2.1 rfl
    · exact h3.2.2 hf
  refine ⟨⟨(hm.block _ l1 n1).trans h1, hn, ⟨.inl h3.1, .inl h3.2.1, h3.2.2⟩, FL, fun k => Up FS w k ∧ k < w'.heap.size, h4.keep (fun k hk hf => hm.block k hk (fun g => ?_)) hm.size, hl.mono (fun k hk hf => ⟨hf, hk⟩), ?_, ?_⟩, hm.mono (fun k _ hf => ?_)⟩
  · rcases g with g | g
    · exact (h6 k hf).2.2.2.2 g
    · exact (h6 k hf).2.2.2.1 g
  · intro k hf
    refine ⟨Nat.lt_of_lt_of_le (h6 k hf).1 hm.size, .inl (h6 k hf).2.1, (h6 k hf).2.2.1, (h6 k hf).2.2.2.1, fun g => ?_⟩
    rcases g.1 with g | g
    · exact (h6 k hf).2.2.2.2 g
    · have := (h6 k hf).1; omega
  · rintro k ⟨hu, hk⟩
    rcases hu with hf | hf
    · exact ⟨hk, .inl (h7 k hf).2.1, (h7 k hf).2.2⟩
    · exact ⟨hk, .inr hf, by omega, by omega⟩
  · rcases hf with hf | rfl
    · exact (h7 k hf).2.1
    · exact h3.2.1
/-- The note alone. -/
theorem GrAt.renote {F : Nat → Prop} {q : Gs} {L : Lst} {en : Ent} {x : Int} {w : World} (h : GrAt F q L (some en) x w) (x' : Int) (c : Nat) (hc : c = 1) : GrAt F q L (some en) x' (setBlock w q.nm (.map (notes (some en) x') c)) := by
  subst hc
  obtain ⟨h1, h2, h3, FL, FS, h4, h5, h6, h7⟩ := h
  refine ⟨(set_other h3.2.2).trans h1, set_same h2, h3, FL, FS, h4.keep (fun k hk hf => set_other (h6 k hf).2.2.2.1) (by rw [set_size]; exact Nat.le_refl _), h5.keep (fun k hk hf => set_other (h7 k hf).2.2.2), ?_, ?_⟩
  · rw [set_size]; exact h6
  · rw [set_size]; exact h7
/-- A lease's cells. -/
def lsC (own : Array Value) : Prop := own.size = 9
def rootC : Array Value := #[.int .i64 0, .int .i64 0, .string estr, .int .i64 2, .slice none 0 0, .int .i64 0, .int .i64 0, .int .i64 4611686018427387904, .bool false]
def reqC (now who t : Int) (pa : ByteArray) (m : Int) : Array Value := #[.int .i64 now, .int .i64 who, .int .i64 t, .int .i64 0, .int .i64 0, .string ⟨#[]⟩, .int .i64 2, .slice none 0 0, .int .i64 0, .int .i64 0, .int .i64 4611686018427387904, .bool false, .string pa, .int .i64 m]
theorem root_any (w : World) : Calls Tryz.prog 11 #[] w fun e w' => e = .returned (.agg rootC) ∧ Below w.heap.size w w' := by
  go_enter Tryz.func11, Tryz.ntmps11
  go_wp2_with fail
  refine bodyPost_ret (v := .agg rootC) (by simp [results, Tryz.results11, go_sem]; rfl) rfl ⟨rfl, ?_⟩
  first | exact (Below.refl _ _).alloc (Nat.le_refl _) _ | exact below_row ((Below.refl _ _).alloc (Nat.le_refl _) _) (Nat.le_refl _) _
theorem isTime_any (x : Int) (w : World) (h : 0 ≤ x ∧ x ≤ 1152921504606846976) : Calls Tryz.prog 25 #[.int .i64 x] w fun e w' => e = .returned (.bool true) ∧ w = w' := by
  have d1 : decide (0 ≤ x) = true := decide_eq_true h.1
  have d2 : decide (x ≤ 1152921504606846976) = true := decide_eq_true h.2
  clear h
  go_enter Tryz.func25, Tryz.ntmps25
  go_wp2_with fail
  go_ret
  exact ⟨rfl, rfl⟩
def ModeB (m : Int) : Bool := (m == 1) || (m == 2)
theorem isMode_any (m : Int) (w : World) : Calls Tryz.prog 90 #[.int .i64 m] w fun e w' => e = .returned (.bool (ModeB m)) ∧ w = w' := by
  unfold ModeB
  cases d1 : (m == 1) with
  | true =>
    go_enter Tryz.func90, Tryz.ntmps90
    go_wp2_with fail
    go_ret
    exact ⟨rfl, rfl⟩
  | false =>
    go_enter Tryz.func90, Tryz.ntmps90
    go_wp2_with fail
    go_ret
    exact ⟨by simp, rfl⟩
end Go.Proofs.YtchdfogifhfclaaGreatDoor
namespace Go.Proofs.YtchdfogifhfclaaGreatDoor
open Go.RowKit

def CodeP (r : Int) (w : World) (e : Ending) (w' : World) : Prop := e = .returned (.int .i64 r) ∧ Below w.heap.size w w'
/-- A request that may stand. -/
structure ReqOK (now who t : Int) : Prop where
  now : 0 ≤ now ∧ now ≤ 1152921504606846976
  who : who = 1 ∨ who = 2
  t : 4 ≤ t ∧ t ≤ 1048576
theorem below_one (w : World) (o : Obj) : Below w.heap.size w (w.alloc o) := (Below.refl _ w).alloc (Nat.le_refl _) _
set_option maxRecDepth 100000 in
set_option maxHeartbeats 1000000 in
theorem bears_any (now : Int) (pa : ByteArray) (m : Int) (w : World) (h : 0 ≤ now ∧ now ≤ 1152921504606846976) (hp : pathOK pa = true) (hm : ModeB m = true) : Calls Tryz.prog 56 #[.agg rootC, .int .i64 now, .string pa, .int .i64 m] w fun e w' => e = .returned (.bool true) ∧ Below w.heap.size w w' := by
  have HP := Lib.hid hp
  have HM := Lib.hid hm
  have d1 : decide ((4611686018427387904 : Int) ≤ now) = false := decide_eq_false (by omega)
  have HB := Lib.hid (below_one w (.cells rootC 49))
  have hcs : countersOK [] := fun y hy => by simp at hy
  clear h hp hm
  unfold rootC
  go_enter Tryz.func56, Tryz.ntmps56
  go_wp2_with fail
  refine (isMode_any m _).mono ?_
  rintro e w1 ⟨rfl, rfl⟩
  rw [HM.out]
  go_wp2_with fail
  refine (stampValid_any (fun _ => True) [] _ _ (Ck8.IntsV.nil _ _) hcs (by simp)).mono ?_
  rintro e w1 ⟨rfl, rfl⟩
  go_wp2_with fail
  refine (covers_any _ pa _ (by have := pathOK_size HP.out; omega) HP.out (.inl rfl)).mono ?_
  rintro e w1 ⟨rfl, rfl⟩
  go_wp2_with fail
  go_ret
  exact ⟨rfl, HB.out⟩
set_option maxRecDepth 100000 in
set_option maxHeartbeats 1000000 in
theorem numbers_any (now who t : Int) (pa : ByteArray) (m : Int) (w : World) (h : ReqOK now who t) : Calls Tryz.prog 39 #[.agg (reqC now who t pa m)] w (CodeP 0 w) := by
  have hn := Lib.hid h.now
  have HB := Lib.hid (below_one w (.cells (reqC now who t pa m) 90))
  have d1 : decide (who < 0) = false := decide_eq_false (by rcases h.who with h | h <;> omega)
  have d2 : decide (8 ≤ who) = false := decide_eq_false (by rcases h.who with h | h <;> omega)
  clear h
  unfold reqC
  go_enter Tryz.func39, Tryz.ntmps39
  go_wp2_with fail
  refine (isTime_any now _ hn.out).mono ?_
  rintro e w1 ⟨rfl, rfl⟩
  go_wp2_with fail
  go_ret
  exact ⟨rfl, HB.out⟩
def wordsR (pa : ByteArray) (m : Int) : Int := if pathOK pa then (if ModeB m then 0 else 11) else 10
set_option maxRecDepth 100000 in
set_option maxHeartbeats 1000000 in
theorem words_any (now who t : Int) (pa : ByteArray) (m : Int) (w : World) (hs : pa.size ≤ 140737488355328) : Calls Tryz.prog 40 #[.agg (reqC now who t pa m)] w (CodeP (wordsR pa m) w) := by
  have HB := Lib.hid (below_one w (.cells (reqC now who t pa m) 90))
  unfold reqC
  obtain ⟨r, hr⟩ : ∃ r, r = wordsR pa m := ⟨_, rfl⟩
  rw [← hr]
  have HR := Lib.hid hr
  clear hr
  unfold wordsR at HR
  go_enter Tryz.func40, Tryz.ntmps40
  go_wp2_with fail
  refine (valid_any pa _ hs).mono ?_
  rintro e w1 ⟨rfl, rfl⟩
  cases h1 : pathOK pa with
  | false =>
    go_wp2_with fail
    go_ret
    exact ⟨by rw [HR.out, h1]; rfl, HB.out⟩
  | true =>
    go_wp2_with fail
    refine (isMode_any m _).mono ?_
    rintro e w1 ⟨rfl, rfl⟩
    cases h2 : ModeB m with
    | false =>
      go_wp2_with fail
      go_ret
      exact ⟨by rw [HR.out, h1, h2]; rfl, HB.out⟩
    | true =>
      go_wp2_with fail
      go_ret
      exact ⟨by rw [HR.out, h1, h2]; rfl, HB.out⟩
set_option maxRecDepth 100000 in
set_option maxHeartbeats 1000000 in
theorem length_any (now who t : Int) (pa : ByteArray) (m : Int) (w : World) (h : ReqOK now who t) : Calls Tryz.prog 41 #[.agg (reqC now who t pa m)] w (CodeP 0 w) := by
  have ht := Lib.hid h.t
  have HB := Lib.hid (below_one w (.cells (reqC now who t pa m) 90))
  clear h
  unfold reqC
  go_enter Tryz.func41, Tryz.ntmps41
  go_wp2_with fail
  refine (legal_any t _ ht.out).mono ?_
  rintro e w1 ⟨rfl, rfl⟩
  go_wp2_with fail
  go_ret
  exact ⟨rfl, HB.out⟩
set_option maxRecDepth 100000 in
set_option maxHeartbeats 1000000 in
theorem borne_any (now who t : Int) (pa : ByteArray) (m : Int) (w : World) (h : ReqOK now who t) (hp : pathOK pa = true) (hm : ModeB m = true) : Calls Tryz.prog 42 #[.agg (reqC now who t pa m)] w (CodeP 0 w) := by
  have hn := Lib.hid h.now
  have HP := Lib.hid hp
  have HM := Lib.hid hm
  have HB := Lib.hid (below_one w (.cells (reqC now who t pa m) 90))
  clear h hp hm
  unfold reqC
  go_enter Tryz.func42, Tryz.ntmps42
  go_wp2_with fail
  refine (bears_any now pa m _ hn.out HP.out HM.out).mono ?_
  rintro e w1 ⟨rfl, hb⟩
  have HB1 := Lib.hid (below_step HB.out hb)
  clear hb
  go_wp2_with fail
  go_ret
  exact ⟨rfl, HB1.out⟩
set_option maxRecDepth 100000 in
set_option maxHeartbeats 1000000 in
theorem deep_any (now who t : Int) (pa : ByteArray) (m : Int) (w : World) : Calls Tryz.prog 43 #[.agg (reqC now who t pa m)] w (CodeP 0 w) := by
  have HB := Lib.hid (below_one w (.cells (reqC now who t pa m) 90))
  unfold reqC
  go_enter Tryz.func43, Tryz.ntmps43
  go_wp2_with fail
  go_ret
  exact ⟨rfl, HB.out⟩
set_option maxRecDepth 100000 in
set_option maxHeartbeats 1000000 in
theorem outlasts_any (now who t : Int) (pa : ByteArray) (m : Int) (w : World) (h : ReqOK now who t) : Calls Tryz.prog 44 #[.agg (reqC now who t pa m)] w (CodeP 0 w) := by
  have HB := Lib.hid (below_one w (.cells (reqC now who t pa m) 90))
  obtain ⟨h1, h2⟩ := h.now
  obtain ⟨h3, h4⟩ := h.t
  have e1 : IntKind.i64.wrap (now + t) = now + t := by rw [IntKind.wrap_i64]; omega
  have e2 : IntKind.i64.wrap (now + t + 2) = now + t + 2 := by rw [IntKind.wrap_i64]; omega
  have d1 : decide ((4611686018427387904 : Int) < now + t + 2) = false := decide_eq_false (by omega)
  clear h h1 h2 h3 h4
  unfold reqC
  go_enter Tryz.func44, Tryz.ntmps44
  go_wp2_with fail
  go_ret
  exact ⟨rfl, HB.out⟩
end Go.Proofs.YtchdfogifhfclaaGreatDoor
namespace Go.Proofs.YtchdfogifhfclaaGreatDoor
open Go.RowKit Go.Maps Go.MapKept
open Go.ChangeMaps (setBlock)

theorem ledBook_any (F : Nat → Prop) (p d s n : Nat) (next longest : Int) (o : Option Gr) (w : World) (h : LedAt F p d s n next longest o w) : Calls Tryz.prog 26 #[.pointer (some ⟨p, 0, none⟩)] w (BookPost next longest o w) := by
  cases o with
  | none => exact ledBook_none F p d s n next longest w h
  | some g => exact ledBook_some F p d s n next longest g w h
theorem GrAt.book {F : Nat → Prop} {q : Gs} {L : Lst} {os : Option Ent} {x : Int} {w : World} (h : GrAt F q L os x w) : Calls Tryz.prog 26 #[.pointer (some ⟨q.lp, 0, none⟩)] w (BookPost L.next L.longest L.o w) := by
  obtain ⟨FL, hl, _⟩ := h.led
  exact ledBook_any FL _ _ _ _ _ _ _ w hl
theorem Tryz.fieldB (n1 n2 n3 : Int) (gs : Value) (W : World) : (Instr.field 72 (.agg #[.int .i64 n1, .int .i64 n2, .int .i64 n3, gs]) 0).run Tryz.prog W = .ok (.int .i64 n1) W := by kernel_rfl
theorem Tryz.fieldBl (n1 n2 n3 : Int) (gs : Value) (W : World) : (Instr.field 72 (.agg #[.int .i64 n1, .int .i64 n2, .int .i64 n3, gs]) 2).run Tryz.prog W = .ok (.int .i64 n3) W := by kernel_rfl
theorem Tryz.fieldBg (n1 n2 n3 : Int) (gs : Value) (W : World) : (Instr.field 72 (.agg #[.int .i64 n1, .int .i64 n2, .int .i64 n3, gs]) 3).run Tryz.prog W = .ok gs W := by kernel_rfl
theorem Tryz.fieldN (n1 n2 n3 : Int) (W : World) : (Instr.field 119 (.agg #[.int .i64 n1, .int .i64 n2, .int .i64 n3]) 0).run Tryz.prog W = .ok (.int .i64 n1) W := by kernel_rfl
set_option maxRecDepth 100000 in
set_option maxHeartbeats 1000000 in
theorem counts_g (F : Nat → Prop) (q : Gs) (L : Lst) (os : Option Ent) (x : Int) (w : World) (h : GrAt F q L os x w) (hn : L.next ≤ 3) : Calls Tryz.prog 45 #[.pointer (some ⟨q.g, 0, none⟩)] w (CodeP 0 w) := by
  have hb := Lib.hid h.book
  have c0 := blk_cell h.head
  have hlt := lt_of_heap h.head
  have d1 : decide ((1099511627776 : Int) < L.next) = false := decide_eq_false (by omega)
  unfold headC at c0
  clear h hn
  go_enter Tryz.func45, Tryz.ntmps45
  go_wp2_with fail
  refine hb.out.mono ?_
  rintro e w1 ⟨gs, rfl, hgs, hb1⟩
  have hfb := Tryz.fieldB L.next 0 L.longest gs w1
  unfold bV
  go_wp2_with fail
  go_ret
  exact ⟨rfl, hb1⟩
def LtBool (b : Bool) (w : World) (e : Ending) (w' : World) : Prop := e = .returned (.bool b) ∧ Below w.heap.size w w'
theorem Tryz.zeroNote (w : World) : (zeroValue 119).run Tryz.prog w = .ok (noteV 0) w := by kernel_rfl
set_option maxRecDepth 100000 in
set_option maxHeartbeats 1000000 in
theorem expired_any (F : Nat → Prop) (q : Gs) (L : Lst) (en : Ent) (x now : Int) (Bg Bn : Nat) (w : World) (h : GrAt F q L (some en) x w) (hg : w.cell? ⟨Bg, 0, none⟩ = some (.pointer (some ⟨q.g, 0, none⟩))) (hn : w.cell? ⟨Bn, 0, none⟩ = some (.int .i64 now)) :
    Calls Tryz.prog 133 #[.int .i64 1, .pointer (some ⟨Bg, 0, none⟩), .pointer (some ⟨Bn, 0, none⟩)] w (LtBool (decide (x ≤ now)) w) := by
  have c0 := blk_cell h.head
  have hlt := lt_of_heap h.head
  have hnote : w.heap[q.nm]? = some (.map #[⟨.int .i64 1, noteV x, 0⟩] 1) := h.note
  have hl := fun n => mlook_one (w := w.drewN n) (int_keyed Tryz.underlying3) Tryz.underlying82 hnote (keyI (x := 1) (by omega)) false
  clear hnote h
  unfold headC at c0
  unfold noteV at hl
  have hfn := fun n => Tryz.fieldN x 0 0 (w.drewN n)
  go_enter Tryz.func133, Tryz.ntmps133
  go_wp2_with fail
  go_quiet (fail)
  go_wp2_with fail
  go_ret
  exact ⟨rfl, below_drewN _ _⟩
theorem index0_any (f : Value) (a : Option Addr) (c : Nat) (w : World) : Calls Tryz.prog 111 #[.slice a 0 c, f] w fun e w' => e = .returned (.int .i64 (-1)) ∧ w = w' := by
  go_enter Tryz.func111, Tryz.ntmps111
  go_wp2_with fail
  refine wp_loop_rounds 1 ?_
  rw [rounds_succ]
  go_wp2_with fail
  go_ret
  exact ⟨rfl, rfl⟩
set_option maxRecDepth 100000 in
set_option maxHeartbeats 1000000 in
theorem index1_any (f : Nat) (cap : Array Value) (b c : Nat) (w : World) (hent : ∀ args w, (callFunc f args).run Tryz.prog w = .ok (.enter f args) w) (hb : w.cell? ⟨b, 0, none⟩ = some (.int .i64 1)) (hf : Calls Tryz.prog f (#[.int .i64 1] ++ cap) w (LtBool false w)) :
    Calls Tryz.prog 111 #[.slice (some ⟨b, 0, none⟩) 1 c, .func (.func f) #[] cap] w fun e w' => e = .returned (.int .i64 (-1)) ∧ Below w.heap.size w w' := by
  have HF := Lib.hid hf
  clear hf
  go_enter Tryz.func111, Tryz.ntmps111
  go_wp2_with fail
  refine wp_loop_rounds 2 ?_
  rw [rounds_succ]
  go_wp2_with fail
  refine HF.out.mono ?_
  rintro e w1 ⟨rfl, hb1⟩
  go_wp2_with fail
  rw [rounds_succ]
  go_wp2_with fail
  go_ret
  exact ⟨rfl, hb1⟩
theorem del0_any (f : Value) (a : Option Addr) (c : Nat) (w : World) : Calls Tryz.prog 132 #[.slice a 0 c, f] w fun e w' => e = .returned (.slice a 0 c) ∧ w = w' := by
  go_enter Tryz.func132, Tryz.ntmps132
  go_wp2_with fail
  refine (index0_any _ a c _).mono ?_
  rintro e w1 ⟨rfl, rfl⟩
  go_wp2_with fail
  go_ret
  exact ⟨rfl, rfl⟩
theorem del1_any (f : Nat) (cap : Array Value) (b c : Nat) (w : World) (hent : ∀ args w, (callFunc f args).run Tryz.prog w = .ok (.enter f args) w) (hb : w.cell? ⟨b, 0, none⟩ = some (.int .i64 1)) (hf : Calls Tryz.prog f (#[.int .i64 1] ++ cap) w (LtBool false w)) :
    Calls Tryz.prog 132 #[.slice (some ⟨b, 0, none⟩) 1 c, .func (.func f) #[] cap] w fun e w' => e = .returned (.slice (some ⟨b, 0, none⟩) 1 c) ∧ Below w.heap.size w w' := by
  have HI := Lib.hid (index1_any f cap b c w hent hb hf)
  clear hf
  go_enter Tryz.func132, Tryz.ntmps132
  go_wp2_with fail
  refine HI.out.mono ?_
  rintro e w1 ⟨rfl, hb1⟩
  go_wp2_with fail
  go_ret
  exact ⟨rfl, hb1⟩
theorem below_two (w : World) (o o' : Obj) : Below w.heap.size w ((w.alloc o).alloc o') := ((Below.refl _ w).alloc (Nat.le_refl _) _).alloc (by simp) _
theorem unexp0_any (g : Option Addr) (now : Int) (a : Option Addr) (c : Nat) (w : World) : Calls Tryz.prog 86 #[.pointer g, .slice a 0 c, .int .i64 now] w fun e w' => e = .returned (.slice a 0 c) ∧ Below w.heap.size w w' := by
  have hmf : ∀ W : World, (Instr.makeFunc (.func 133) #[] #[.pointer (some ⟨w.heap.size, 0, none⟩), .pointer (some ⟨w.heap.size + 1, 0, none⟩)]).run Tryz.prog W = .ok (.func (.func 133) #[] #[.pointer (some ⟨w.heap.size, 0, none⟩), .pointer (some ⟨w.heap.size + 1, 0, none⟩)]) W := fun _ => rfl
  go_enter Tryz.func86, Tryz.ntmps86
  go_wp2_with fail
  refine (del0_any _ a c _).mono ?_
  rintro e w1 ⟨rfl, rfl⟩
  go_wp2_with fail
  go_ret
  exact ⟨rfl, below_two _ _ _⟩
set_option maxRecDepth 100000 in
set_option maxHeartbeats 1000000 in
theorem unexp1_any (F : Nat → Prop) (q : Gs) (L : Lst) (en : Ent) (x now : Int) (b c : Nat) (w : World) (h : GrAt F q L (some en) x w) (hx : now < x) (hb : w.cell? ⟨b, 0, none⟩ = some (.int .i64 1)) (hlt : b < w.heap.size) : Calls Tryz.prog 86 #[.pointer (some ⟨q.g, 0, none⟩), .slice (some ⟨b, 0, none⟩) 1 c, .int .i64 now] w fun e w' => e = .returned (.slice (some ⟨b, 0, none⟩) 1 c) ∧ Below w.heap.size w w' := by
  have hmf : ∀ W : World, (Instr.makeFunc (.func 133) #[] #[.pointer (some ⟨w.heap.size, 0, none⟩), .pointer (some ⟨w.heap.size + 1, 0, none⟩)]).run Tryz.prog W = .ok (.func (.func 133) #[] #[.pointer (some ⟨w.heap.size, 0, none⟩), .pointer (some ⟨w.heap.size + 1, 0, none⟩)]) W := fun _ => rfl
  obtain ⟨W0, hW0⟩ : ∃ W0, W0 = (w.alloc (.cells #[.pointer (some ⟨q.g, 0, none⟩)] 36)).alloc (.cells #[.int .i64 now] 3) := ⟨_, rfl⟩
  have hB : Below w.heap.size w W0 := by rw [hW0]; exact below_two _ _ _
  have hexp := expired_any F q L en x now w.heap.size (w.heap.size + 1) W0 (h.below hB) (by rw [hW0, World.cell?_alloc_lt _ _ _ (by simp)]; exact blk_cell (heap_at w _ _ rfl) 0) (by rw [hW0]; exact blk_cell (heap_at _ _ _ (by simp)) 0)
  rw [show decide (x ≤ now) = false from decide_eq_false (by omega)] at hexp
  have hdel := Lib.hid (del1_any 133 #[.pointer (some ⟨w.heap.size, 0, none⟩), .pointer (some ⟨w.heap.size + 1, 0, none⟩)] b c W0 (fun _ _ => rfl) ((hB.cell (p := ⟨b, 0, none⟩) hlt).trans hb) hexp)
  have HB := Lib.hid hB
  clear hexp hB h hb
  go_enter Tryz.func86, Tryz.ntmps86
  go_wp2_with fail
  rw [← hW0]
  refine hdel.out.mono ?_
  rintro e w1 ⟨rfl, hb1⟩
  have HB1 := Lib.hid (below_step HB.out hb1)
  clear hb1
  go_wp2_with fail
  go_ret
  exact ⟨rfl, HB1.out⟩
end Go.Proofs.YtchdfogifhfclaaGreatDoor
namespace Go.Proofs.YtchdfogifhfclaaGreatDoor
open Go.RowKit Go.Maps Go.MapKept
open Go.ChangeMaps (setBlock)

theorem up_back {F : Nat → Prop} {w w1 : World} {n : Nat} (h : w.heap.size ≤ w1.heap.size) : ∀ k, k < n → Up F w1 k → Up F w k := by
  intro k _ hf
  rcases hf with hf | hf
  · exact .inl hf
  · exact .inr (Nat.le_trans h hf)
theorem ids0 {base : Nat} {w : World} {v : Value} (h : IdsV base (if false = true then [()] else []) w v) : ∃ a c, v = .slice a 0 c := by
  obtain ⟨a, c, rfl⟩ := Ck8.own_slice h
  exact ⟨a, c, rfl⟩
theorem ids1 {base : Nat} {w : World} {v : Value} (h : IdsV base (if true = true then [()] else []) w v) : ∃ b c, v = .slice (some ⟨b, 0, none⟩) 1 c ∧ b < w.heap.size ∧ w.cell? ⟨b, 0, none⟩ = some (.int .i64 1) := by
  obtain ⟨b, o, c, rfl, _, _, hb, _, t0⟩ := (Ck8.IntsV.of_own (l := [1]) h).at_ (j := 0) rfl
  obtain ⟨_, hr⟩ := h
  rcases hr with ⟨hr, _⟩ | ⟨g, cap, cur, hr, _⟩
  · cases hr
  · cases hr
    exact ⟨b, c, rfl, hb, t0⟩
set_option maxRecDepth 100000 in
set_option maxHeartbeats 2000000 in
theorem room_none (F : Nat → Prop) (q : Gs) (L : Lst) (x now who t : Int) (pa : ByteArray) (m : Int) (w : World) (h : GrAt F q L none x w) (hp : pathOK pa = true) (hm : m = 1 ∨ m = 2) : Calls Tryz.prog 32 #[.pointer (some ⟨q.g, 0, none⟩), .agg (reqC now who t pa m)] w (CodeP 0 w) := by
  obtain ⟨w0, hw0⟩ : ∃ w0, w0 = w.alloc (.cells (reqC now who t pa m) 90) := ⟨_, rfl⟩
  have hB0 : Below w.heap.size w w0 := by rw [hw0]; exact below_one _ _
  have hx0 : w0.heap[w.heap.size]? = some (.cells (reqC now who t pa m) 90 (0, 0)) := by rw [hw0, heap_at _ _ _ rfl]
  have hg0 := (hB0.block _ (lt_of_heap h.head)).trans h.head
  obtain ⟨FS, hset, _, _⟩ := (h.below hB0).pset
  have HP := Lib.hid hp
  have HM := Lib.hid hm
  have HB0 := Lib.hid hB0
  have HX0 := Lib.hid hx0
  have HG0 := Lib.hid hg0
  have HSET := Lib.hid hset
  have c0 := blk_cell hx0
  have g0 := blk_cell hg0
  clear h hp hm hB0 hx0 hg0 hset
  unfold reqC at c0 hw0
  unfold headC at g0
  unfold reqC
  go_enter Tryz.func32, Tryz.ntmps32
  go_wp2_with fail
  rw [← hw0]
  clear hw0
  go_region_held_law (fun u => (∀ i, u.cell? ⟨q.g, i, none⟩ = #[.pointer (some ⟨q.lp, 0, none⟩), .pointer (some ⟨q.sp, 0, none⟩), .map (some q.nm), .int .i64 0][i]?) ∧ (∀ i, u.cell? ⟨w.heap.size, i, none⟩ = #[.int .i64 now, .int .i64 who, .int .i64 t, .int .i64 0, .int .i64 0, .string ⟨#[]⟩, .int .i64 2, .slice none 0 0, .int .i64 0, .int .i64 0, .int .i64 4611686018427387904, .bool false, .string pa, .int .i64 m][i]?)) (first | (go_split_ands; exact ⟨by assumption, by assumption⟩) | go_keep) (first
    | (go_at_call 87; (refine (clash_empty FS q.sp pa m who _ (HSET.out.below (below_drewN w0 1)) HP.out HM.out).mono ?_); rintro e w1 ⟨v, rfl, hv, hb1⟩; obtain ⟨a, c, rfl⟩ := ids0 hv; have HB1 := Lib.hid (below_step (below_drewN w0 1) hb1); have q0 := blk_cell ((HB1.out.block _ (lt_of_heap HG0.out)).trans HG0.out); have q1 := blk_cell ((HB1.out.block _ (lt_of_heap HX0.out)).trans HX0.out); clear hb1 hv; unfold headC at q0; unfold reqC at q1)
    | (go_at_call 86; (refine (unexp0_any _ now a c _).mono ?_); rintro e w2 ⟨rfl, hb2⟩; have HB2 := Lib.hid (below_step HB1.out hb2); have r0 := blk_cell ((HB2.out.block _ (lt_of_heap HG0.out)).trans HG0.out); have r1 := blk_cell ((HB2.out.block _ (lt_of_heap HX0.out)).trans HX0.out); clear hb2; unfold headC at r0; unfold reqC at r1))
  have HSET2 := Lib.hid (HSET.out.below HB2.out)
  clear q0 q1 c0 g0
  go_wp2_with fail
  go_region_held_law (fun u => (∀ i, u.cell? ⟨q.g, i, none⟩ = #[.pointer (some ⟨q.lp, 0, none⟩), .pointer (some ⟨q.sp, 0, none⟩), .map (some q.nm), .int .i64 0][i]?) ∧ (∀ i, u.cell? ⟨w.heap.size, i, none⟩ = #[.int .i64 now, .int .i64 who, .int .i64 t, .int .i64 0, .int .i64 0, .string ⟨#[]⟩, .int .i64 2, .slice none 0 0, .int .i64 0, .int .i64 0, .int .i64 4611686018427387904, .bool false, .string pa, .int .i64 m][i]?)) (first | (go_split_ands; exact ⟨by assumption, by assumption⟩) | go_keep) (first
    | (go_at_call 88; (refine (under_empty FS q.sp _ (HSET2.out.below (below_drewN w2 1))).mono ?_); rintro e w3 ⟨v, rfl, hv, hb3⟩; obtain ⟨a3, c3, rfl⟩ := ids0 hv; have HB3 := Lib.hid (below_step HB2.out (below_step (below_drewN w2 1) hb3)); have q0 := blk_cell ((HB3.out.block _ (lt_of_heap HG0.out)).trans HG0.out); have q1 := blk_cell ((HB3.out.block _ (lt_of_heap HX0.out)).trans HX0.out); clear hb3 hv; unfold headC at q0; unfold reqC at q1)
    | (go_at_call 86; (refine (unexp0_any _ now a3 c3 _).mono ?_); rintro e w4 ⟨rfl, hb4⟩; have HB4 := Lib.hid (below_step HB3.out hb4); have s0 := blk_cell ((HB4.out.block _ (lt_of_heap HG0.out)).trans HG0.out); have s1 := blk_cell ((HB4.out.block _ (lt_of_heap HX0.out)).trans HX0.out); clear hb4; unfold headC at s0; unfold reqC at s1))
  go_wp2_with fail
  go_ret
  exact ⟨rfl, below_step HB0.out HB4.out⟩
set_option maxRecDepth 100000 in
set_option maxHeartbeats 2000000 in
theorem room_one (F : Nat → Prop) (q : Gs) (L : Lst) (x now who t : Int) (pa : ByteArray) (m m0 : Int) (w : World) (h : GrAt F q L (some ⟨pa, m0⟩) x w) (hp : pathOK pa = true) (hm : m = 1 ∨ m = 2) (hc : ClashB who m ⟨pa, m0⟩ = true) (hx : now < x) : Calls Tryz.prog 32 #[.pointer (some ⟨q.g, 0, none⟩), .agg (reqC now who t pa m)] w (CodeP 60 w) := by
  obtain ⟨w0, hw0⟩ : ∃ w0, w0 = w.alloc (.cells (reqC now who t pa m) 90) := ⟨_, rfl⟩
  have hB0 : Below w.heap.size w w0 := by rw [hw0]; exact below_one _ _
  have hx0 : w0.heap[w.heap.size]? = some (.cells (reqC now who t pa m) 90 (0, 0)) := by rw [hw0, heap_at _ _ _ rfl]
  have hg0 := (hB0.block _ (lt_of_heap h.head)).trans h.head
  obtain ⟨FS, hset, _, _⟩ := (h.below hB0).pset
  have HP := Lib.hid hp
  have HM := Lib.hid hm
  have HB0 := Lib.hid hB0
  have HX0 := Lib.hid hx0
  have HG0 := Lib.hid hg0
  have HSET := Lib.hid hset
  have HGA := Lib.hid (h.below hB0)
  have HC := Lib.hid hc
  have HX := Lib.hid hx
  have c0 := blk_cell hx0
  have g0 := blk_cell hg0
  clear h hp hm hc hx hB0 hx0 hg0 hset
  unfold reqC at c0 hw0
  unfold headC at g0
  unfold reqC
  go_enter Tryz.func32, Tryz.ntmps32
  go_wp2_with fail
  rw [← hw0]
  clear hw0
  go_region_held_law (fun u => (∀ i, u.cell? ⟨q.g, i, none⟩ = #[.pointer (some ⟨q.lp, 0, none⟩), .pointer (some ⟨q.sp, 0, none⟩), .map (some q.nm), .int .i64 0][i]?) ∧ (∀ i, u.cell? ⟨w.heap.size, i, none⟩ = #[.int .i64 now, .int .i64 who, .int .i64 t, .int .i64 0, .int .i64 0, .string ⟨#[]⟩, .int .i64 2, .slice none 0 0, .int .i64 0, .int .i64 0, .int .i64 4611686018427387904, .bool false, .string pa, .int .i64 m][i]?)) (first | (go_split_ands; exact ⟨by assumption, by assumption⟩) | go_keep) (first
    | (go_at_call 87; (refine (clash_one FS q.sp ⟨pa, m0⟩ m who _ (HSET.out.below (below_drewN w0 1)) HP.out HM.out).mono ?_); rintro e w1 ⟨v, rfl, hv, hb1⟩; rw [HC.out] at hv; obtain ⟨b, c, rfl, hbl, hbc⟩ := ids1 hv; have HB1 := Lib.hid (below_step (below_drewN w0 1) hb1); have q0 := blk_cell ((HB1.out.block _ (lt_of_heap HG0.out)).trans HG0.out); have q1 := blk_cell ((HB1.out.block _ (lt_of_heap HX0.out)).trans HX0.out); clear hb1 hv; unfold headC at q0; unfold reqC at q1)
    | (go_at_call 86; (refine (unexp1_any F q L ⟨pa, m0⟩ x now b c _ (HGA.out.below HB1.out) HX.out hbc hbl).mono ?_); rintro e w2 ⟨rfl, hb2⟩; have HB2 := Lib.hid (below_step HB1.out hb2); have r0 := blk_cell ((HB2.out.block _ (lt_of_heap HG0.out)).trans HG0.out); have r1 := blk_cell ((HB2.out.block _ (lt_of_heap HX0.out)).trans HX0.out); clear hb2; unfold headC at r0; unfold reqC at r1))
  clear q0 q1 c0 g0
  go_wp2_with fail
  go_ret
  exact ⟨rfl, below_step HB0.out HB2.out⟩
set_option maxRecDepth 100000 in
set_option maxHeartbeats 2000000 in
theorem sweep_none (F : Nat → Prop) (q : Gs) (L : Lst) (x now : Int) (w : World) (h : GrAt F q L none x w) : Calls Tryz.prog 38 #[.pointer (some ⟨q.g, 0, none⟩), .int .i64 now] w (CodeP 0 w) := by
  obtain ⟨FS, hset, _, _⟩ := h.pset
  have HSET := Lib.hid hset
  have g0 := blk_cell h.head
  have hlt := lt_of_heap h.head
  clear h hset
  unfold headC at g0
  go_enter Tryz.func38, Tryz.ntmps38
  go_wp2_with fail
  refine (under_empty FS q.sp _ HSET.out).mono ?_
  rintro e w1 ⟨v, rfl, hv, hb1⟩
  obtain ⟨a, c, rfl⟩ := ids0 hv
  clear hv
  go_wp2_with fail
  refine wp_loop_rounds 1 ?_
  rw [rounds_succ]
  go_wp2_with fail
  go_ret
  exact ⟨rfl, hb1⟩
set_option maxRecDepth 100000 in
set_option maxHeartbeats 2000000 in
theorem long_old (F : Nat → Prop) (q : Gs) (L : Lst) (os : Option Ent) (x t : Int) (w : World) (h : GrAt F q L os x w) (ht : t ≤ L.longest) : Calls Tryz.prog 36 #[.pointer (some ⟨q.g, 0, none⟩), .int .i64 t] w (CodeP 0 w) := by
  have HBK := Lib.hid h.book
  have g0 := blk_cell h.head
  have hlt := lt_of_heap h.head
  have d1 : decide (t ≤ L.longest) = true := decide_eq_true ht
  clear h ht
  unfold headC at g0
  go_enter Tryz.func36, Tryz.ntmps36
  go_wp2_with fail
  refine HBK.out.mono ?_
  rintro e w1 ⟨gs, rfl, hgs, hb1⟩
  have hfb := Tryz.fieldBl L.next 0 L.longest gs w1
  unfold bV
  go_wp2_with fail
  go_ret
  exact ⟨rfl, hb1⟩
def StepP (F : Nat → Prop) (q : Gs) (L : Lst) (os : Option Ent) (x : Int) (w : World) (e : Ending) (w' : World) : Prop := e = .returned (.int .i64 0) ∧ GrAt (Up F w) q L os x w' ∧ Mod F w w'
set_option maxRecDepth 100000 in
set_option maxHeartbeats 2000000 in
theorem long_new (F : Nat → Prop) (q : Gs) (os : Option Ent) (x t : Int) (w : World) (h : GrAt F q ⟨0, 1, 0, none⟩ os x w) (ht : 4 ≤ t ∧ t ≤ 1048576) : Calls Tryz.prog 36 #[.pointer (some ⟨q.g, 0, none⟩), .int .i64 t] w (StepP F q ⟨1, 1, t, none⟩ os x w) := by
  have HBK := Lib.hid h.book
  have g0 := blk_cell h.head
  have hlt := lt_of_heap h.head
  have d1 : decide (t ≤ 0) = false := decide_eq_false (by omega)
  have HH := Lib.hid h
  have HT := Lib.hid ht
  clear h ht
  unfold headC at g0
  go_enter Tryz.func36, Tryz.ntmps36
  go_wp2_with fail
  refine HBK.out.mono ?_
  rintro e w1 ⟨gs, rfl, hgs, hb1⟩
  have hfb := Tryz.fieldBl 1 0 0 gs w1
  have h1 := HH.out.below hb1
  have g1 := blk_cell h1.head
  have hlt1 := lt_of_heap h1.head
  obtain ⟨FL, hled, hsub, hup⟩ := h1.led
  have HUP := Lib.hid (hup ⟨1, 1, t, none⟩)
  have HLED := Lib.hid hled
  have HB1 := Lib.hid hb1
  clear h1 hled hup hsub hgs hb1
  unfold headC at g1
  unfold bV
  go_wp2_with fail
  refine (append_long FL q.lp q.d q.s t _ HLED.out HT.out).mono ?_
  rintro e w2 ⟨rfl, hl2, hm2⟩
  obtain ⟨hg2, hM2⟩ := HUP.out w2 hl2 hm2
  have HG2 := Lib.hid hg2
  have HM2 := Lib.hid hM2
  clear hg2 hM2 hl2 hm2
  go_wp2_with fail
  go_ret
  have hz := HB1.out.size
  exact ⟨rfl, HG2.out.mono (up_back hz), (Mod.of_below HB1.out).trans HM2.out (fun _ _ f => f)⟩
end Go.Proofs.YtchdfogifhfclaaGreatDoor
namespace Go.Proofs.YtchdfogifhfclaaGreatDoor
open Go.RowKit Go.Maps Go.MapKept
open Go.ChangeMaps (setBlock)

def KeepP (F : Nat → Prop) (q : Gs) (L : Lst) (en : Ent) (x : Int) (w : World) (e : Ending) (w' : World) : Prop := e = .returned (.tuple #[]) ∧ GrAt (Up F w) q L (some en) x w' ∧ Mod F w w'
set_option maxRecDepth 100000 in
set_option maxHeartbeats 2000000 in
theorem keep_any (F : Nat → Prop) (q : Gs) (L : Lst) (x0 x : Int) (pa : ByteArray) (m t : Int) (sb so sc : Nat) (w : World) (h : GrAt F q L none x0 w) (hp : pathOK pa = true) (hm : m = 1 ∨ m = 2) :
    Calls Tryz.prog 28 #[.pointer (some ⟨q.g, 0, none⟩), .agg (gC 1 1 pa m (.slice (some ⟨sb, so, none⟩) 1 sc) t), .int .i64 x] w (KeepP F q L ⟨pa, m⟩ x w) := by
  obtain ⟨w0, hw0⟩ : ∃ w0, w0 = w.alloc (.cells (gC 1 1 pa m (.slice (some ⟨sb, so, none⟩) 1 sc) t) 45) := ⟨_, rfl⟩
  have hB0 : Below w.heap.size w w0 := by rw [hw0]; exact below_one _ _
  have hx0 : w0.heap[w.heap.size]? = some (.cells (gC 1 1 pa m (.slice (some ⟨sb, so, none⟩) 1 sc) t) 45 (0, 0)) := by rw [hw0, heap_at _ _ _ rfl]
  have h0 := h.below hB0
  have hlt := lt_of_heap h.head
  have hltn := lt_of_heap h.note
  have hown := h.own
  obtain ⟨FS, hset, hin, hup⟩ := h.pset
  have HUP := Lib.hid (hup ⟨pa, m⟩ x)
  have HG0 := Lib.hid h0.head
  have HN0 := Lib.hid h0.note
  have HH0 := Lib.hid h
  have HSET := Lib.hid (hset.below hB0)
  have HIN := Lib.hid hin
  have HB0 := Lib.hid hB0
  have HX0 := Lib.hid hx0
  have HP := Lib.hid hp
  have HM := Lib.hid hm
  have HOWN := Lib.hid hown
  have c0 := blk_cell hx0
  have g0 := blk_cell h0.head
  clear h0 h hset hin hup hp hm hown hB0 hx0
  unfold gC at c0 hw0
  unfold headC at g0
  unfold gC
  go_enter Tryz.func28, Tryz.ntmps28
  go_wp2_with fail
  rw [← hw0]
  clear hw0
  go_region_held_law (fun u => (∀ i, u.cell? ⟨q.g, i, none⟩ = #[.pointer (some ⟨q.lp, 0, none⟩), .pointer (some ⟨q.sp, 0, none⟩), .map (some q.nm), .int .i64 0][i]?) ∧ (∀ i, u.cell? ⟨w.heap.size, i, none⟩ = #[.int .i64 1, .int .i64 1, .string pa, .int .i64 m, .slice (some ⟨sb, so, none⟩) 1 sc, .int .i64 t][i]?)) (first | (go_split_ands; exact ⟨by assumption, by assumption⟩) | go_keep) (first
    | (go_at_call 84; (refine (setPut_any FS q.sp ⟨pa, m⟩ _ (HSET.out.below (below_drewN w0 1)) HP.out HM.out).mono ?_); rintro e w1 ⟨rfl, hs1, hm1⟩; have HS1 := Lib.hid hs1; have HM1 := Lib.hid hm1; have HG1 := Lib.hid ((HM1.out.block _ (lt_of_heap HG0.out) (fun hf => (HIN.out _ hf).2.2.1 rfl)).trans HG0.out); have HX1 := Lib.hid ((HM1.out.block _ (lt_of_heap HX0.out) (fun hf => by have := (HIN.out _ hf).1; omega)).trans HX0.out); have q0 := blk_cell HG1.out; have q1 := blk_cell HX1.out; clear hs1 hm1; unfold headC at q0; unfold gC at q1))
  have HN1 := Lib.hid ((HM1.out.block _ (lt_of_heap HN0.out) (fun hf => (HIN.out _ hf).2.2.2 rfl)).trans HN0.out)
  have hu := mupd_none (w := w1.drew) (v := noteV x) (int_keyed Tryz.underlying3) Tryz.underlying82 (show w1.drew.heap[q.nm]? = some (.map #[] 0) from HN1.out) (keyI (x := 1) (by omega))
  have r0 : ∀ o i, (setBlock w1.drew q.nm o).cell? ⟨q.g, i, none⟩ = _ := fun o i => (cell_set HOWN.out.2.2).trans (q0 i)
  have r1 : ∀ o i, (setBlock w1.drew q.nm o).cell? ⟨w.heap.size, i, none⟩ = _ := fun o i => (cell_set (Ne.symm (Nat.ne_of_lt hltn))).trans (q1 i)
  have R0 := Lib.hid r0
  have R1 := Lib.hid r1
  clear r0 r1 c0 g0
  unfold noteV at hu
  go_wp2_with fail
  go_region_held_law (fun u => (∀ i, u.cell? ⟨q.g, i, none⟩ = #[.pointer (some ⟨q.lp, 0, none⟩), .pointer (some ⟨q.sp, 0, none⟩), .map (some q.nm), .int .i64 0][i]?) ∧ (∀ i, u.cell? ⟨w.heap.size, i, none⟩ = #[.int .i64 1, .int .i64 1, .string pa, .int .i64 m, .slice (some ⟨sb, so, none⟩) 1 sc, .int .i64 t][i]?)) (first | exact ⟨q0, q1⟩ | exact ⟨R0.out _, R1.out _⟩) (fail)
  go_end0
  have hz : w.heap.size ≤ w0.heap.size := HB0.out.size
  have hsz : (w0.drewN 1).heap.size = w0.heap.size := rfl
  have hM : Mod (fun k => FS k ∨ k = q.nm) w (setBlock w1.drew q.nm (.map #[⟨.int .i64 1, noteV x, 0⟩] (0 + 1))) := by
    have h1 : Mod FS w w1 := (Mod.of_below (HB0.out)).trans ((Mod.drewN (Mod.refl FS w0) 1).trans HM1.out (fun _ _ f => f)) (fun _ _ f => f)
    exact Mod.set (h1.drew.mono (fun k _ f => .inl f)) (fun _ => .inr rfl) _
  have hS : SetAt (Up FS w) q.sp (some ⟨pa, m⟩) (setBlock w1.drew q.nm (.map #[⟨.int .i64 1, noteV x, 0⟩] (0 + 1))) := by
    have hs := HS1.out
    have hne : ∀ k, Up FS (w0.drewN 1) k → k ≠ q.nm := by
      intro k hf e
      rcases hf with hf | hf
      · exact (HIN.out k hf).2.2.2 e
      · rw [hsz] at hf
        omega
    exact SetAt.mono (F' := Up FS w) (hs.keep (fun k _ hf => (set_other (hne k hf)))) (fun k hk hf => up_back (w := w) (w1 := w0.drewN 1) (by rw [hsz]; exact hz) k hk hf)
  obtain ⟨h1, h2⟩ := HUP.out _ hS (set_same (show w1.drew.heap[q.nm]? = some (.map #[] 0) from HN1.out)) hM
  exact ⟨rfl, h1, h2⟩
end Go.Proofs.YtchdfogifhfclaaGreatDoor
namespace Go.Proofs.YtchdfogifhfclaaGreatDoor
open Go.RowKit Go.Maps Go.MapKept
open Go.ChangeMaps (setBlock)

def ExtdP (n : Int) (w : World) (e : Ending) (w' : World) : Prop := ∃ sb sc, e = .returned (.slice (some ⟨sb, 0, none⟩) 1 sc) ∧ Ck8.IntsV (fun k => w.heap.size ≤ k) w' (.slice (some ⟨sb, 0, none⟩) 1 sc) [n] ∧ Below w.heap.size w w'
theorem own1 {base : Nat} {w : World} {v : Value} {n : Int} (h : w.ownsRow base 3 1 v 1 [.int .i64 n]) : ∃ b c, v = .slice (some ⟨b, 0, none⟩) 1 c := by
  obtain ⟨_, ⟨_, hr⟩ | ⟨g, cap, cur, hr, _⟩⟩ := h
  · cases hr
  · exact ⟨g, cap, hr⟩
set_option maxRecDepth 100000 in
set_option maxHeartbeats 2000000 in
theorem extended_any (n : Int) (w : World) (h : 1 ≤ n ∧ n ≤ 1099511627776) : Calls Tryz.prog 46 #[.agg rootC, .int .i64 n] w (ExtdP n w) := by
  have HB := Lib.hid (below_one w (.cells rootC 49))
  have H := Lib.hid h
  clear h
  unfold rootC
  go_enter Tryz.func46, Tryz.ntmps46
  go_wp2_with fail
  refine (extend_any n _ H.out).mono ?_
  rintro e w1 ⟨v, rfl, hv, hb1⟩
  obtain ⟨sb, sc, rfl⟩ := own1 hv
  have HV := Lib.hid hv
  have HB1 := Lib.hid (below_step HB.out hb1)
  clear hv hb1
  go_wp2_with fail
  go_ret
  exact ⟨_, _, rfl, (Ck8.IntsV.of_own (l := [n]) HV.out).mono (fun k _ hk => by have := HB.out.size; exact Nat.le_trans this hk), HB1.out⟩
set_option maxRecDepth 100000 in
set_option maxHeartbeats 2000000 in
theorem rested_any (F : Nat → Prop) (q : Gs) (L : Lst) (os : Option Ent) (x now : Int) (Bn Bg : Nat) (w : World) (h : GrAt F q L os x w) (h0 : 0 ≤ now) (hn : w.cell? ⟨Bn, 0, none⟩ = some (.int .i64 now)) (hg : w.cell? ⟨Bg, 0, none⟩ = some (.pointer (some ⟨q.g, 0, none⟩))) :
    Calls Tryz.prog 30 #[.pointer (some ⟨Bn, 0, none⟩), .pointer (some ⟨Bg, 0, none⟩)] w (CodeP 0 w) := by
  have g0 := blk_cell h.head
  have d1 : decide (now < 0) = false := decide_eq_false (by omega)
  clear h h0
  unfold headC at g0
  go_enter Tryz.func30, Tryz.ntmps30
  go_wp2_with fail
  go_quiet (fail)
  go_wp2_with fail
  go_ret
  exact ⟨rfl, below_drewN _ _⟩
set_option maxRecDepth 100000 in
set_option maxHeartbeats 2000000 in
theorem free_of (R : Int) (q : Gs) (now who t : Int) (pa : ByteArray) (m : Int) (Bg Br : Nat) (w : World) (hg : w.cell? ⟨Bg, 0, none⟩ = some (.pointer (some ⟨q.g, 0, none⟩))) (hr : w.heap[Br]? = some (.cells (reqC now who t pa m) 90 (0, 0)))
    (hroom : Calls Tryz.prog 32 #[.pointer (some ⟨q.g, 0, none⟩), .agg (reqC now who t pa m)] w (CodeP R w)) :
    Calls Tryz.prog 31 #[.pointer (some ⟨Bg, 0, none⟩), .pointer (some ⟨Br, 0, none⟩)] w (CodeP R w) := by
  have HR := Lib.hid hr
  have HM := Lib.hid hroom
  clear hr hroom
  go_enter Tryz.func31, Tryz.ntmps31
  go_wp2_with (first
    | (refine wpList_load_row rfl 90 (.tmp 1) rfl Br rfl 90 (reqC now who t pa m) (0, 0) _ HR.out Tryz.underlying90 rfl (by kernel_rfl) ?_))
  refine HM.out.mono ?_
  rintro e w1 ⟨rfl, hb1⟩
  go_wp2_with fail
  go_ret
  exact ⟨rfl, hb1⟩
set_option maxRecDepth 100000 in
set_option maxHeartbeats 2000000 in
theorem longc_of (q : Gs) (t : Int) (Q : Ending → World → Prop) (Bg Bt : Nat) (w : World) (hg : w.cell? ⟨Bg, 0, none⟩ = some (.pointer (some ⟨q.g, 0, none⟩))) (ht : w.cell? ⟨Bt, 0, none⟩ = some (.int .i64 t))
    (hl : Calls Tryz.prog 36 #[.pointer (some ⟨q.g, 0, none⟩), .int .i64 t] w (fun e w' => e = .returned (.int .i64 0) ∧ Q e w')) :
    Calls Tryz.prog 35 #[.pointer (some ⟨Bg, 0, none⟩), .pointer (some ⟨Bt, 0, none⟩)] w (fun e w' => e = .returned (.int .i64 0) ∧ Q e w') := by
  have HM := Lib.hid hl
  clear hl
  go_enter Tryz.func35, Tryz.ntmps35
  go_wp2_with fail
  refine HM.out.mono ?_
  rintro e w1 ⟨rfl, hb1⟩
  go_wp2_with fail
  go_ret
  exact ⟨rfl, hb1⟩
set_option maxRecDepth 100000 in
set_option maxHeartbeats 2000000 in
theorem longr_of (q : Gs) (t : Int) (Q : Ending → World → Prop) (Bg Bt : Nat) (w : World) (hg : w.cell? ⟨Bg, 0, none⟩ = some (.pointer (some ⟨q.g, 0, none⟩))) (ht : w.cell? ⟨Bt, 0, none⟩ = some (.int .i64 t))
    (hl : Calls Tryz.prog 36 #[.pointer (some ⟨q.g, 0, none⟩), .int .i64 t] w (fun e w' => e = .returned (.int .i64 0) ∧ Q e w')) :
    Calls Tryz.prog 64 #[.pointer (some ⟨Bg, 0, none⟩), .pointer (some ⟨Bt, 0, none⟩)] w (fun e w' => e = .returned (.int .i64 0) ∧ Q e w') := by
  have HM := Lib.hid hl
  clear hl
  go_enter Tryz.func64, Tryz.ntmps64
  go_wp2_with fail
  refine HM.out.mono ?_
  rintro e w1 ⟨rfl, hb1⟩
  go_wp2_with fail
  go_ret
  exact ⟨rfl, hb1⟩
set_option maxRecDepth 100000 in
set_option maxHeartbeats 2000000 in
theorem sweepc_of (q : Gs) (now : Int) (Q : Ending → World → Prop) (Bg Bt : Nat) (w : World) (hg : w.cell? ⟨Bg, 0, none⟩ = some (.pointer (some ⟨q.g, 0, none⟩))) (ht : w.cell? ⟨Bt, 0, none⟩ = some (.int .i64 now))
    (hl : Calls Tryz.prog 38 #[.pointer (some ⟨q.g, 0, none⟩), .int .i64 now] w (fun e w' => e = .returned (.int .i64 0) ∧ Q e w')) :
    Calls Tryz.prog 37 #[.pointer (some ⟨Bg, 0, none⟩), .pointer (some ⟨Bt, 0, none⟩)] w (fun e w' => e = .returned (.int .i64 0) ∧ Q e w') := by
  have HM := Lib.hid hl
  clear hl
  go_enter Tryz.func37, Tryz.ntmps37
  go_wp2_with fail
  refine HM.out.mono ?_
  rintro e w1 ⟨rfl, hb1⟩
  go_wp2_with fail
  go_ret
  exact ⟨rfl, hb1⟩
end Go.Proofs.YtchdfogifhfclaaGreatDoor
namespace Go.Proofs.YtchdfogifhfclaaGreatDoor
open Go.RowKit Go.Maps Go.MapKept
open Go.ChangeMaps (setBlock)

/-- Boxes that stand apart from F. -/
structure Boxes (F : Nat → Prop) (q : Gs) (now t : Int) (Bg Bt Bn : Nat) (w : World) : Prop where
  g : w.cell? ⟨Bg, 0, none⟩ = some (.pointer (some ⟨q.g, 0, none⟩))
  t : w.cell? ⟨Bt, 0, none⟩ = some (.int .i64 t)
  n : w.cell? ⟨Bn, 0, none⟩ = some (.int .i64 now)
  out : ¬ F Bg ∧ ¬ F Bt ∧ ¬ F Bn
  lt : Bg < w.heap.size ∧ Bt < w.heap.size ∧ Bn < w.heap.size
theorem Boxes.mod {F : Nat → Prop} {q : Gs} {now t : Int} {Bg Bt Bn : Nat} {w w' : World} (h : Boxes F q now t Bg Bt Bn w) (hm : Mod F w w') : Boxes F q now t Bg Bt Bn w' :=
  ⟨(hm.cell (p := ⟨Bg, 0, none⟩) h.lt.1 h.out.1).trans h.g, (hm.cell (p := ⟨Bt, 0, none⟩) h.lt.2.1 h.out.2.1).trans h.t, (hm.cell (p := ⟨Bn, 0, none⟩) h.lt.2.2 h.out.2.2).trans h.n, h.out, ⟨Nat.lt_of_lt_of_le h.lt.1 hm.size, Nat.lt_of_lt_of_le h.lt.2.1 hm.size, Nat.lt_of_lt_of_le h.lt.2.2 hm.size⟩⟩
/-- A state within a list of questions: what of F the questions have written. -/
structure Within (F : Nat → Prop) (q : Gs) (L : Lst) (os : Option Ent) (x : Int) (w0 w : World) : Prop where
  gr : GrAt (Up F w0) q L os x w
  mod : Mod F w0 w
theorem Within.refl {F : Nat → Prop} {q : Gs} {L : Lst} {os : Option Ent} {x : Int} {w : World} (h : GrAt F q L os x w) : Within F q L os x w w := ⟨h.mono (fun _ _ f => .inl f), Mod.refl _ _⟩
theorem Within.below {F : Nat → Prop} {q : Gs} {L : Lst} {os : Option Ent} {x : Int} {w0 w w' : World} (h : Within F q L os x w0 w) (hb : Below w.heap.size w w') : Within F q L os x w0 w' := ⟨h.gr.below hb, h.mod.below hb⟩
theorem Within.step {F : Nat → Prop} {q : Gs} {L L' : Lst} {os os' : Option Ent} {x x' : Int} {w0 w w' : World} (h : Within F q L os x w0 w) (hg : GrAt (Up (Up F w0) w) q L' os' x' w') (hm : Mod (Up F w0) w w') : Within F q L' os' x' w0 w' :=
  ⟨hg.mono (fun k _ hf => by
    rcases hf with hf | hf
    · exact hf
    · exact .inr (Nat.le_trans h.mod.size hf)), h.mod.trans hm (fun k hk hf => by
    rcases hf with hf | hf
    · exact hf
    · omega)⟩
theorem Within.first {F : Nat → Prop} {q : Gs} {L : Lst} {os : Option Ent} {x : Int} {w w1 w' : World} (h : Within F q L os x w1 w') (hb : Below w.heap.size w w1) : Within F q L os x w w' :=
  ⟨h.gr.mono (up_back hb.size), (Mod.of_below hb).trans h.mod (fun _ _ f => f)⟩
set_option maxRecDepth 100000 in
set_option maxHeartbeats 2000000 in
theorem writec_any (F : Nat → Prop) (q : Gs) (x now t : Int) (Bg Bt Bn : Nat) (w : World) (h : GrAt F q ⟨0, 1, 0, none⟩ none x w) (hB : Boxes F q now t Bg Bt Bn w) (ht : 4 ≤ t ∧ t ≤ 1048576) (hF : ∀ k, F k → k < w.heap.size) :
    Calls Tryz.prog 33 #[.pointer (some ⟨Bg, 0, none⟩), .pointer (some ⟨Bt, 0, none⟩), .pointer (some ⟨Bn, 0, none⟩)] w (fun e w' => e = .returned (.int .i64 0) ∧ Within F q ⟨1, 1, t, none⟩ none x w w') := by
  have H := Lib.hid h
  have HB := Lib.hid hB
  have HT := Lib.hid ht
  have hmf : ∀ (fn : Fn) (first cap : Array Value) (w : World), (Instr.makeFunc fn first cap).run Tryz.prog w = .ok (.func fn first cap) w := fun _ _ _ _ => rfl
  have HF := Lib.hid hF
  clear h hB ht hF
  go_enter Tryz.func33, Tryz.ntmps33
  go_wp2_with fail
  generalize hw1 : w.alloc _ = w1
  have hcb : ∀ i, w1.cell? ⟨w.heap.size, i, none⟩ = #[Value.func (Fn.func 35) #[] #[.pointer (some ⟨Bg, 0, none⟩), .pointer (some ⟨Bt, 0, none⟩)], Value.func (Fn.func 37) #[] #[.pointer (some ⟨Bg, 0, none⟩), .pointer (some ⟨Bn, 0, none⟩)]][i]? := by rw [← hw1]; exact blk_cell (heap_at _ _ _ rfl)
  have hb1 : Below w.heap.size w w1 := by rw [← hw1]; exact below_one _ _
  have hlt : w.heap.size < w1.heap.size := by rw [← hw1]; simp
  have HB1 := Lib.hid hb1
  have hbx := HB.out.mod (Mod.of_below hb1)
  have HBX := Lib.hid hbx
  have HG1 := Lib.hid (H.out.below hb1)
  have HCB := Lib.hid hcb
  clear hb1 hbx hcb hw1 hmf
  refine (firsts_any [⟨35, #[], #[.pointer (some ⟨Bg, 0, none⟩), .pointer (some ⟨Bt, 0, none⟩)]⟩, ⟨37, #[], #[.pointer (some ⟨Bg, 0, none⟩), .pointer (some ⟨Bn, 0, none⟩)]⟩] w.heap.size 2
    (fun i W => Within F q (if i = 0 then ⟨0, 1, 0, none⟩ else ⟨1, 1, t, none⟩) none x w1 W) (fun W => Within F q ⟨1, 1, t, none⟩ none x w1 W) 2 0 w1 (.inr ⟨rfl, rfl⟩) (by simp) (by simp) (fun W _ h => h) (fun W h _ => absurd h (by simp)) ?_ ?_ ?_ ?_ (Within.refl HG1.out)).mono ?_
  · intro W i y hI hy
    have hc : W.cell? ⟨w.heap.size, i, none⟩ = w1.cell? ⟨w.heap.size, i, none⟩ := hI.mod.cell (p := ⟨w.heap.size, i, none⟩) hlt (fun hf => Nat.lt_irrefl _ (HF.out _ hf))
    rw [hc, HCB.out]
    match i, hy with
    | 0, hy => cases hy; rfl
    | 1, hy => cases hy; rfl
  · intro y hy args W
    simp only [List.mem_cons, List.not_mem_nil, or_false] at hy
    rcases hy with rfl | rfl <;> rfl
  · intro i y W hi hy hI
    have hbx := HBX.out.mod hI.mod
    match i, hy with
    | 0, hy =>
      cases hy
      refine (longc_of q t (fun _ W' => GrAt (Up (Up F w1) W) q ⟨1, 1, t, none⟩ none x W' ∧ Mod (Up F w1) W W') Bg Bt W hbx.g hbx.t (long_new _ q none x t W hI.gr HT.out)).mono ?_
      rintro e W' ⟨rfl, h1, h2⟩
      exact ⟨rfl, hI.step h1 h2⟩
    | 1, hy =>
      cases hy
      refine (sweepc_of q now (fun _ W' => Below W.heap.size W W') Bg Bn W hbx.g hbx.n (sweep_none _ q _ x now W hI.gr)).mono ?_
      rintro e W' ⟨rfl, h1⟩
      exact ⟨rfl, hI.below h1⟩
  · intro y W hy
    cases hy
  · rintro e W' ⟨rfl, hW⟩
    have HW := Lib.hid (hW.first HB1.out)
    clear hW
    go_wp2_with fail
    go_ret
    exact ⟨rfl, HW.out⟩
end Go.Proofs.YtchdfogifhfclaaGreatDoor
namespace Go.Proofs.YtchdfogifhfclaaGreatDoor
open Go.RowKit Go.Maps Go.MapKept
open Go.ChangeMaps (setBlock)

def askL (q : Gs) (now who t : Int) (pa : ByteArray) (m : Int) (Bg Bn Bt Br : Nat) : List FnV :=
  [⟨39, #[.agg (reqC now who t pa m)], #[]⟩, ⟨40, #[.agg (reqC now who t pa m)], #[]⟩, ⟨41, #[.agg (reqC now who t pa m)], #[]⟩,
   ⟨30, #[], #[.pointer (some ⟨Bn, 0, none⟩), .pointer (some ⟨Bg, 0, none⟩)]⟩,
   ⟨42, #[.agg (reqC now who t pa m)], #[]⟩, ⟨43, #[.agg (reqC now who t pa m)], #[]⟩, ⟨44, #[.agg (reqC now who t pa m)], #[]⟩,
   ⟨31, #[], #[.pointer (some ⟨Bg, 0, none⟩), .pointer (some ⟨Br, 0, none⟩)]⟩, ⟨45, #[.pointer (some ⟨q.g, 0, none⟩)], #[]⟩,
   ⟨33, #[], #[.pointer (some ⟨Bg, 0, none⟩), .pointer (some ⟨Bt, 0, none⟩), .pointer (some ⟨Bn, 0, none⟩)]⟩]
structure AskS (F : Nat → Prop) (q : Gs) (now who t : Int) (pa : ByteArray) (m : Int) (b Bg Bn Bt Br : Nat) (w : World) : Prop where
  cells : ∀ i y, (askL q now who t pa m Bg Bn Bt Br)[i]? = some y → w.cell? ⟨b, i, none⟩ = some y.val
  bx : Boxes F q now t Bg Bt Bn w
  req : w.heap[Br]? = some (.cells (reqC now who t pa m) 90 (0, 0))
  out : ¬ F b ∧ ¬ F Br ∧ b < w.heap.size ∧ ∀ k, F k → k < w.heap.size
set_option maxRecDepth 100000 in
theorem ask_ent (q : Gs) (now who t : Int) (pa : ByteArray) (m : Int) (Bg Bn Bt Br : Nat) : ∀ y ∈ askL q now who t pa m Bg Bn Bt Br, ∀ args w, (callFunc y.f args).run Tryz.prog w = .ok (.enter y.f args) w := by
  intro y hy args W
  simp only [askL, List.mem_cons, List.not_mem_nil, or_false] at hy
  rcases hy with rfl | rfl | rfl | rfl | rfl | rfl | rfl | rfl | rfl | rfl <;> rfl
theorem AskS.keep {F : Nat → Prop} {q : Gs} {now who t : Int} {pa : ByteArray} {m : Int} {b Bg Bn Bt Br : Nat} {w W : World} (h : AskS F q now who t pa m b Bg Bn Bt Br w) (hm : Mod F w W) : AskS F q now who t pa m b Bg Bn Bt Br W :=
  ⟨fun i y hy => (hm.cell (p := ⟨b, i, none⟩) h.out.2.2.1 h.out.1).trans (h.cells i y hy), h.bx.mod hm, (hm.block _ (lt_of_heap h.req) h.out.2.1).trans h.req, ⟨h.out.1, h.out.2.1, Nat.lt_of_lt_of_le h.out.2.2.1 hm.size, fun k hk => Nat.lt_of_lt_of_le (h.out.2.2.2 k hk) hm.size⟩⟩
section
variable {F : Nat → Prop} {q : Gs} {L : Lst} {os : Option Ent} {x now who t : Int} {pa : ByteArray} {m : Int} {b Bg Bn Bt Br : Nat} {w W : World}
/-- A question that writes nothing. -/
theorem Within.ask {r : Int} {f : Nat} {args : Array Value} (hI : Within F q L os x w W) (h : Calls Tryz.prog f args W (CodeP r W)) : Calls Tryz.prog f args W (IntP r (Within F q L os x w)) := by
  refine h.mono ?_
  rintro e W' ⟨rfl, hb⟩
  exact ⟨rfl, hI.below hb⟩
theorem ask_ok (hA : AskS F q now 1 t pa m b Bg Bn Bt Br w) (h : GrAt F q ⟨0, 1, 0, none⟩ none x w) (hr : ReqOK now 1 t) (hs : pa.size ≤ 140737488355328) (hp : pathOK pa = true) (hm : ModeB m = true) :
    Calls Tryz.prog 34 #[.slice (some ⟨b, 0, none⟩) 10 10] w (IntP 0 (Within F q ⟨1, 1, t, none⟩ none x w)) := by
  have hmm : m = 1 ∨ m = 2 := by
    unfold ModeB at hm
    simpa using hm
  have hwr : wordsR pa m = 0 := by unfold wordsR; rw [if_pos hp, if_pos hm]
  refine firsts_any (askL q now 1 t pa m Bg Bn Bt Br) b 10 (fun i W => Within F q (if i ≤ 9 then ⟨0, 1, 0, none⟩ else ⟨1, 1, t, none⟩) none x w W) _ 10 0 w (.inr ⟨rfl, rfl⟩) (by simp [askL]) (by simp [askL]) (fun W _ h => h) (fun W h _ => absurd h (by simp [askL]))
    (fun W i y hI hy => (hA.keep hI.mod).cells i y hy) (ask_ent _ _ _ _ _ _ _ _ _ _) ?_ ?_ (Within.refl h)
  · intro i y W hi hy hI
    have hA0 := hA
    have hA := hA.keep hI.mod
    match i, hy with
    | 0, hy => cases hy; exact Within.ask hI (numbers_any now 1 t pa m W hr)
    | 1, hy =>
      cases hy
      have := words_any now 1 t pa m W hs
      rw [hwr] at this
      exact Within.ask hI this
    | 2, hy => cases hy; exact Within.ask hI (length_any now 1 t pa m W hr)
    | 3, hy => cases hy; exact Within.ask hI (rested_any _ q _ _ x now Bn Bg W hI.gr hr.now.1 hA.bx.n hA.bx.g)
    | 4, hy => cases hy; exact Within.ask hI (borne_any now 1 t pa m W hr hp hm)
    | 5, hy => cases hy; exact Within.ask hI (deep_any now 1 t pa m W)
    | 6, hy => cases hy; exact Within.ask hI (outlasts_any now 1 t pa m W hr)
    | 7, hy => cases hy; exact Within.ask hI (free_of 0 q now 1 t pa m Bg Br W hA.bx.g hA.req (room_none _ q _ x now 1 t pa m W hI.gr hp hmm))
    | 8, hy => cases hy; exact Within.ask hI (counts_g _ q _ _ x W hI.gr (show (1 : Int) ≤ 3 by decide))
    | 9, hy =>
      cases hy
      have hg9 : GrAt (Up F w) q ⟨0, 1, 0, none⟩ none x W := hI.gr
      have hn9 : ∀ B, B < w.heap.size → ¬ F B → ¬ (Up F w B ∧ B < W.heap.size) := by
        rintro B h1 h2 ⟨h3 | h3, _⟩
        · exact h2 h3
        · omega
      refine (writec_any (fun k => Up F w k ∧ k < W.heap.size) q x now t Bg Bt Bn W (hg9.mono (fun k hk hf => ⟨hf, hk⟩)) ⟨hA.bx.g, hA.bx.t, hA.bx.n, ⟨hn9 _ hA0.bx.lt.1 hA0.bx.out.1, hn9 _ hA0.bx.lt.2.1 hA0.bx.out.2.1, hn9 _ hA0.bx.lt.2.2 hA0.bx.out.2.2⟩, hA.bx.lt⟩ hr.t (fun k hk => hk.2)).mono ?_
      rintro e W' ⟨rfl, hW⟩
      exact ⟨rfl, hI.step (hW.gr.mono (fun k _ hf => by
        rcases hf with hf | hf
        · exact .inl hf.1
        · exact .inr hf)) (hW.mod.mono (fun k _ hf => hf.1))⟩
  · intro y W hy
    cases hy
theorem ask_bad (hA : AskS F q now 1 t pa m b Bg Bn Bt Br w) (h : GrAt F q L none x w) (hr : ReqOK now 1 t) (hs : pa.size ≤ 140737488355328) (hw : wordsR pa m ≠ 0) :
    Calls Tryz.prog 34 #[.slice (some ⟨b, 0, none⟩) 10 10] w (IntP (wordsR pa m) (Within F q L none x w)) := by
  refine firsts_any (askL q now 1 t pa m Bg Bn Bt Br) b 10 (fun i W => Within F q L none x w W) _ 1 _ w (.inl ⟨by simp [askL], hw⟩) (by simp [askL]) (by simp [askL]) (fun W _ h => h) (fun W _ h => h)
    (fun W i y hI hy => (hA.keep hI.mod).cells i y hy) (ask_ent _ _ _ _ _ _ _ _ _ _) ?_ ?_ (Within.refl h)
  · intro i y W hi hy hI
    match i, hy with
    | 0, hy => cases hy; exact Within.ask hI (numbers_any now 1 t pa m W hr)
  · intro y W hy hI
    cases hy
    exact Within.ask hI (words_any now 1 t pa m W hs)
theorem ask_full {m0 : Int} (hA : AskS F q now 2 t pa 2 b Bg Bn Bt Br w) (h : GrAt F q L (some ⟨pa, m0⟩) x w) (hr : ReqOK now 2 t) (hp : pathOK pa = true) (hx : now < x) :
    Calls Tryz.prog 34 #[.slice (some ⟨b, 0, none⟩) 10 10] w (IntP 60 (Within F q L (some ⟨pa, m0⟩) x w)) := by
  have hs : pa.size ≤ 140737488355328 := by have := pathOK_size hp; omega
  have hm : ModeB 2 = true := rfl
  have hwr : wordsR pa 2 = 0 := by unfold wordsR; rw [if_pos hp, if_pos hm]
  refine firsts_any (askL q now 2 t pa 2 Bg Bn Bt Br) b 10 (fun i W => Within F q L (some ⟨pa, m0⟩) x w W) _ 7 60 w (.inl ⟨by simp [askL], by decide⟩) (by simp [askL]) (by simp [askL]) (fun W _ h => h) (fun W _ h => h)
    (fun W i y hI hy => (hA.keep hI.mod).cells i y hy) (ask_ent _ _ _ _ _ _ _ _ _ _) ?_ ?_ (Within.refl h)
  · intro i y W hi hy hI
    have hA := hA.keep hI.mod
    match i, hy with
    | 0, hy => cases hy; exact Within.ask hI (numbers_any now 2 t pa 2 W hr)
    | 1, hy =>
      cases hy
      have := words_any now 2 t pa 2 W hs
      rw [hwr] at this
      exact Within.ask hI this
    | 2, hy => cases hy; exact Within.ask hI (length_any now 2 t pa 2 W hr)
    | 3, hy => cases hy; exact Within.ask hI (rested_any _ q _ _ x now Bn Bg W hI.gr hr.now.1 hA.bx.n hA.bx.g)
    | 4, hy => cases hy; exact Within.ask hI (borne_any now 2 t pa 2 W hr hp hm)
    | 5, hy => cases hy; exact Within.ask hI (deep_any now 2 t pa 2 W)
    | 6, hy => cases hy; exact Within.ask hI (outlasts_any now 2 t pa 2 W hr)
  · intro y W hy hI
    have hA := hA.keep hI.mod
    cases hy
    exact Within.ask hI (free_of 60 q now 2 t pa 2 Bg Br W hA.bx.g hA.req (room_one _ q L x now 2 t pa 2 m0 W hI.gr hp (.inr rfl) (by simp [ClashB]) hx))
end
end Go.Proofs.YtchdfogifhfclaaGreatDoor
namespace Go.Proofs.YtchdfogifhfclaaGreatDoor
open Go.RowKit Go.Maps Go.MapKept
open Go.ChangeMaps (setBlock)

/-- Grant's variables. -/
def grantW (q : Gs) (now t : Int) (w : World) : World := ((((w.alloc (.cells #[.pointer (some ⟨q.g, 0, none⟩)] 36)).alloc (.cells #[.int .i64 now] 3)).alloc (.cells rootC 49)).alloc (.cells #[.int .i64 t] 3)).alloc (.cells (gC 0 0 estr 0 (.slice none 0 0) 0) 45)
structure GrantS (q : Gs) (now t : Int) (w w0 : World) : Prop where
  h0 : w0.heap[w.heap.size]? = some (.cells #[.pointer (some ⟨q.g, 0, none⟩)] 36 (0, 0))
  h1 : w0.heap[w.heap.size + 1]? = some (.cells #[.int .i64 now] 3 (0, 0))
  h2 : w0.heap[w.heap.size + 1 + 1]? = some (.cells rootC 49 (0, 0))
  h3 : w0.heap[w.heap.size + 1 + 1 + 1]? = some (.cells #[.int .i64 t] 3 (0, 0))
  h4 : w0.heap[w.heap.size + 1 + 1 + 1 + 1]? = some (.cells (gC 0 0 estr 0 (.slice none 0 0) 0) 45 (0, 0))
  b : Below w.heap.size w w0
theorem grantS (q : Gs) (now t : Int) (w : World) : GrantS q now t w (grantW q now t w) := by
  unfold grantW
  refine ⟨?_, ?_, ?_, ?_, ?_, ?_⟩
  · rw [heap_past _ _ _ (by (simp <;> omega)), heap_past _ _ _ (by (simp <;> omega)), heap_past _ _ _ (by (simp <;> omega)), heap_past _ _ _ (by (simp <;> omega)), heap_at _ _ _ rfl]
  · rw [heap_past _ _ _ (by (simp <;> omega)), heap_past _ _ _ (by (simp <;> omega)), heap_past _ _ _ (by (simp <;> omega)), heap_at _ _ _ (by (simp <;> omega))]
  · rw [heap_past _ _ _ (by (simp <;> omega)), heap_past _ _ _ (by simp), heap_at _ _ _ (by simp)]
  · rw [heap_past _ _ _ (by simp), heap_at _ _ _ (by simp)]
  · rw [heap_at _ _ _ (by simp)]
  · exact (((((Below.refl _ _).alloc (Nat.le_refl _) _).alloc (by simp) _).alloc (by simp; omega) _).alloc (by simp; omega) _).alloc (by simp; omega) _
theorem GrantS.below {q : Gs} {now t : Int} {w w0 w1 : World} (h : GrantS q now t w w0) (hb : Below w0.heap.size w0 w1) : GrantS q now t w w1 :=
  ⟨(hb.block _ (lt_of_heap h.h0)).trans h.h0, (hb.block _ (lt_of_heap h.h1)).trans h.h1, (hb.block _ (lt_of_heap h.h2)).trans h.h2, (hb.block _ (lt_of_heap h.h3)).trans h.h3, (hb.block _ (lt_of_heap h.h4)).trans h.h4, h.b.trans (hb.mono h.b.size)⟩
theorem GrantS.mod {F : Nat → Prop} {q : Gs} {now t : Int} {w w0 w1 : World} (h : GrantS q now t w w0) (hm : Mod F w0 w1) (hF : ∀ k, F k → k < w.heap.size) : ∀ k, w.heap.size ≤ k → k < w0.heap.size → w1.heap[k]? = w0.heap[k]? := fun k h1 h2 => hm.block k h2 (fun hf => by have := hF k hf; omega)
theorem askS_new (F : Nat → Prop) (q : Gs) (now who t : Int) (pa : ByteArray) (m : Int) (w w1 w2 : World) (Br b : Nat) (hS : GrantS q now t w w1) (hr : w1.heap[Br]? = some (.cells (reqC now who t pa m) 90 (0, 0))) (hBr : w.heap.size ≤ Br) (hb : b = w1.heap.size) (hF : ∀ k, F k → k < w.heap.size) (vs : Array Value) (ty : TypeId)
    (hv : vs = ((askL q now who t pa m w.heap.size (w.heap.size + 1) (w.heap.size + 1 + 1 + 1) Br).map FnV.val).toArray) (h2 : w2 = w1.alloc (.cells vs ty)) : AskS F q now who t pa m b w.heap.size (w.heap.size + 1) (w.heap.size + 1 + 1 + 1) Br w2 ∧ GrantS q now t w w2 ∧ w2.heap[Br]? = some (.cells (reqC now who t pa m) 90 (0, 0)) := by
  have hb2 : Below w1.heap.size w1 w2 := by rw [h2]; exact below_one _ _
  have hS2 := hS.below hb2
  have hr2 := (hb2.block _ (lt_of_heap hr)).trans hr
  have l := lt_of_heap hS2.h4
  have hz : w1.heap.size < w2.heap.size := by rw [h2]; simp
  have hz1 := lt_of_heap hS.h4
  refine ⟨⟨fun i y hy => ?_, ⟨blk_cell hS2.h0 0, blk_cell hS2.h3 0, blk_cell hS2.h1 0, ⟨fun hf => by have := hF _ hf; omega, fun hf => by have := hF _ hf; omega, fun hf => by have := hF _ hf; omega⟩, ⟨by omega, by omega, by omega⟩⟩, hr2, ⟨fun hf => by have := hF _ hf; omega, fun hf => by have := hF _ hf; omega, by omega, fun k hf => by have := hF _ hf; omega⟩⟩, hS2, hr2⟩
  rw [h2, blk_cell (heap_at w1 _ _ hb) i, hv]
  simp [hy]
theorem Within.row {F : Nat → Prop} {q : Gs} {L : Lst} {os : Option Ent} {x : Int} {w w2 w3 : World} {g : Nat} (h : Within F q L os x w2 w3) (hb : Below w.heap.size w w2) (h1 : w.heap.size ≤ g) (h2 : g < w2.heap.size) (h3 : ¬ F g) (cs : Array Value) : Within F q L os x w (w3.setRow g cs) := by
  refine ⟨(h.gr.keep (fun k hk hf => setRow_other w3 g k cs ?_) (by rw [setRow_size]; exact Nat.le_refl _)).mono (up_back hb.size), ?_⟩
  · rintro rfl
    rcases hf with hf | hf
    · exact h3 hf
    · omega
  · have hm := (h.first hb).mod
    exact ⟨hm.os, hm.tape, hm.output, by rw [setRow_size]; exact hm.size, fun k hk hf => (setRow_other w3 g k cs (by omega)).trans (hm.block k hk hf)⟩
set_option maxRecDepth 100000 in
set_option maxHeartbeats 4000000 in
theorem grant_err (F : Nat → Prop) (q : Gs) (L : Lst) (os : Option Ent) (x now who t : Int) (pa : ByteArray) (m r : Int) (w : World) (h : GrAt F q L os x w) (hF : ∀ k, F k → k < w.heap.size) (hr0 : r ≠ 0)
    (hfirst : ∀ W b Bg Bn Bt Br, AskS F q now who t pa m b Bg Bn Bt Br W → GrAt F q L os x W → Calls Tryz.prog 34 #[.slice (some ⟨b, 0, none⟩) 10 10] W (IntP r (Within F q L os x W))) :
    Calls Tryz.prog 10 #[.pointer (some ⟨q.g, 0, none⟩), .int .i64 now, .agg rootC, .int .i64 who, .string pa, .int .i64 m, .int .i64 t] w (fun e w' => e = .returned (.tuple #[.agg (gC 0 0 estr 0 (.slice none 0 0) 0), .int .i64 r]) ∧ Within F q L os x w w') := by
  obtain ⟨iG, hiG, hz0, hz1, hz2⟩ := info_parts Tryz.infoG
  obtain ⟨w0, hw0⟩ : ∃ w0, w0 = grantW q now t w := ⟨_, rfl⟩
  have hS := grantS q now t w
  rw [← hw0] at hS
  have HS := Lib.hid hS
  have H := Lib.hid h
  have HF := Lib.hid hF
  have HFI := Lib.hid hfirst
  have hmf : ∀ (fn : Fn) (first cap : Array Value) (w : World), (Instr.makeFunc fn first cap).run Tryz.prog w = .ok (.func fn first cap) w := fun _ _ _ _ => rfl
  have d1 : (r != 0) = true := by rw [bne_iff_ne]; exact hr0
  have c0 := blk_cell hS.h0 0
  have c1 := blk_cell hS.h1 0
  have c3 := blk_cell hS.h3 0
  have l0 := lt_of_heap hS.h4
  clear h hF hS hfirst hr0
  unfold grantW rootC gC estr at hw0
  unfold rootC estr
  go_enter Tryz.func10, Tryz.ntmps10
  go_upto_region 1 with fail
  rw [← hw0]
  clear hw0
  go_upto_region 4 with (first
    | (refine wpList_load_row rfl 49 (.tmp 9) rfl (w.heap.size + 1 + 1) rfl 49 rootC (0, 0) _ HS.out.h2 Tryz.underlying49 rfl (by kernel_rfl) ?_; unfold rootC estr))
  clear c0 c1 c3
  generalize hw1 : w0.alloc _ = w1
  have hb1 : Below w0.heap.size w0 w1 := by rw [← hw1]; exact below_one _ _
  have hS1 := HS.out.below hb1
  have hx1 : w1.heap[w0.heap.size]? = some (.cells (reqC now who t pa m) 90 (0, 0)) := by rw [← hw1]; exact heap_at _ _ _ rfl
  have HX1 := Lib.hid hx1
  have HS1 := Lib.hid hS1
  have c0 := blk_cell hS1.h0 0
  have l1 := lt_of_heap hS1.h4
  clear hw1 hb1 hx1 hS1
  go_upto_region 8 with (first
    | (refine wpList_load_row rfl 90 (.tmp 16) rfl w0.heap.size rfl 90 (reqC now who t pa m) (0, 0) _ HX1.out Tryz.underlying90 rfl (by kernel_rfl) ?_))
  generalize hw2 : w1.alloc _ = w2
  have hlt := lt_of_heap HX1.out
  have hz0 := HS.out.b.size
  obtain ⟨ha, hS2, hx2⟩ := askS_new F q now who t pa m w w1 w2 w0.heap.size w1.heap.size HS1.out HX1.out hz0 rfl HF.out _ _ rfl hw2.symm
  have hgw := H.out.below hS2.b
  refine (HFI.out _ _ _ _ _ _ ha hgw).mono ?_
  rintro e w3 ⟨rfl, hW⟩
  have HW := Lib.hid (fun cs => hW.row (g := w.heap.size + 1 + 1 + 1 + 1) hS2.b (by omega) (lt_of_heap hS2.h4) (fun hf => by have := HF.out _ hf; omega) cs)
  have hz2 := hS2.b.size
  have l2 := lt_of_heap hS2.h4
  have HX3 := Lib.hid ((hW.mod.block _ l2 (fun hf => by have := HF.out _ hf; omega)).trans hS2.h4)
  have l3 := lt_of_heap HX3.out
  clear ha hS2 hx2 hW hw2 hgw c0
  go_wp2_with (first
    | (refine wpList_store_row rfl 45 (.tmp 14) (.tmp 58) rfl (w.heap.size + 1 + 1 + 1 + 1) (gC 0 0 estr 0 (.slice none 0 0) 0) rfl rfl 45 _ HX3.out (by kernel_rfl) rfl (gC_one _ _ _ _ _ _ _ _) ?_))
  refine bodyPost_ret (v := .tuple #[.agg (gC 0 0 estr 0 (.slice none 0 0) 0), .int .i64 r]) (results_cell_tmp2 (fn := Tryz.f10) rfl _ _ (w.heap.size + 1 + 1 + 1 + 1) 45 (gC 0 0 estr 0 (.slice none 0 0) 0) (0, 0) _ _ rfl rfl (setRow_heap _ _ _ _ _ _ HX3.out) Tryz.underlying45 rfl (by kernel_rfl)) rfl ⟨rfl, HW.out _⟩
end Go.Proofs.YtchdfogifhfclaaGreatDoor
namespace Go.Proofs.YtchdfogifhfclaaGreatDoor
open Go.RowKit Go.Maps Go.MapKept
open Go.ChangeMaps (setBlock)

/-- Grant's variables, whatever else was written. -/
structure GrantT (q : Gs) (now t : Int) (w w0 : World) : Prop where
  h0 : w0.heap[w.heap.size]? = some (.cells #[.pointer (some ⟨q.g, 0, none⟩)] 36 (0, 0))
  h1 : w0.heap[w.heap.size + 1]? = some (.cells #[.int .i64 now] 3 (0, 0))
  h2 : w0.heap[w.heap.size + 1 + 1]? = some (.cells rootC 49 (0, 0))
  h3 : w0.heap[w.heap.size + 1 + 1 + 1]? = some (.cells #[.int .i64 t] 3 (0, 0))
  h4 : w0.heap[w.heap.size + 1 + 1 + 1 + 1]? = some (.cells (gC 0 0 estr 0 (.slice none 0 0) 0) 45 (0, 0))
theorem GrantS.toT {q : Gs} {now t : Int} {w w0 : World} (h : GrantS q now t w w0) : GrantT q now t w w0 := ⟨h.h0, h.h1, h.h2, h.h3, h.h4⟩
theorem GrantT.mod {q : Gs} {now t : Int} {w w0 w1 : World} {D : Nat → Prop} (h : GrantT q now t w w0) (hm : Mod D w0 w1) (hD : ∀ k, w.heap.size ≤ k → k ≤ w.heap.size + 1 + 1 + 1 + 1 → ¬ D k) : GrantT q now t w w1 :=
  ⟨(hm.block _ (lt_of_heap h.h0) (hD _ (by omega) (by omega))).trans h.h0, (hm.block _ (lt_of_heap h.h1) (hD _ (by omega) (by omega))).trans h.h1, (hm.block _ (lt_of_heap h.h2) (hD _ (by omega) (by omega))).trans h.h2, (hm.block _ (lt_of_heap h.h3) (hD _ (by omega) (by omega))).trans h.h3, (hm.block _ (lt_of_heap h.h4) (hD _ (by omega) (by omega))).trans h.h4⟩
theorem GrantT.below {q : Gs} {now t : Int} {w w0 w1 : World} (h : GrantT q now t w w0) (hb : Below w0.heap.size w0 w1) : GrantT q now t w w1 := h.mod (D := fun _ => False) (Mod.of_below hb) (fun _ _ _ h => h)
/-- Behind the stamp's making and the grant's: in whichever order. -/
structure ExtS (w4 : World) (nb : Nat) (pa : ByteArray) (m t : Int) (sb sc : Nat) (w5 : World) : Prop where
  hb : w5.heap[nb]? = some (.cells (gC 1 1 pa m (.slice (some ⟨sb, 0, none⟩) 1 sc) t) 45 (0, 0))
  iv : Ck8.IntsV (fun _ => True) w5 (.slice (some ⟨sb, 0, none⟩) 1 sc) [1]
  b : Below w4.heap.size w4 w5
  nb : w4.heap.size ≤ nb
theorem ExtS.one {w4 w5 : World} {pa : ByteArray} {m t : Int} {sb sc : Nat} (hb : Below w4.heap.size w4 w5) (hi : Ck8.IntsV (fun k => w4.heap.size ≤ k) w5 (.slice (some ⟨sb, 0, none⟩) 1 sc) [1]) :
    ExtS w4 w5.heap.size pa m t sb sc (w5.alloc (.cells (gC 1 1 pa m (.slice (some ⟨sb, 0, none⟩) 1 sc) t) 45)) :=
  ⟨heap_at _ _ _ rfl, (hi.below (below_one _ _)).mono (fun _ _ _ => trivial), below_step hb (below_one _ _), hb.size⟩
theorem ExtS.two {w4 w5 : World} {pa : ByteArray} {m t : Int} {sb sc : Nat} (hb : Below w4.heap.size w4 w5) (hz : w5.heap[w4.heap.size]? = some (.cells (gC 0 0 estr 0 (.slice none 0 0) 0) 45 (0, 0))) (hi : Ck8.IntsV (fun k => w4.heap.size + 1 ≤ k) w5 (.slice (some ⟨sb, 0, none⟩) 1 sc) [1]) :
    ExtS w4 w4.heap.size pa m t sb sc ((((((w5.setCell ⟨w4.heap.size, 0, none⟩ (.int .i64 1)).setCell ⟨w4.heap.size, 1, none⟩ (.int .i64 1)).setCell ⟨w4.heap.size, 2, none⟩ (.string pa)).setCell ⟨w4.heap.size, 3, none⟩ (.int .i64 m)).setCell ⟨w4.heap.size, 4, none⟩ (.slice (some ⟨sb, 0, none⟩) 1 sc)).setCell ⟨w4.heap.size, 5, none⟩ (.int .i64 t)) := by
  refine ⟨blk_set (blk_set (blk_set (blk_set (blk_set (blk_set hz 0 _) 1 _) 2 _) 3 _) 4 _) 5 _, ?_, ?_, Nat.le_refl _⟩
  · refine (hi.keep (fun k hk hd => ?_) (by simp [World.setCell])).mono (fun _ _ _ => trivial)
    have hd : w4.heap.size + 1 ≤ k := hd
    rw [Below.heap_setCell _ _ _ _ (by show k ≠ w4.heap.size; omega), Below.heap_setCell _ _ _ _ (by show k ≠ w4.heap.size; omega), Below.heap_setCell _ _ _ _ (by show k ≠ w4.heap.size; omega), Below.heap_setCell _ _ _ _ (by show k ≠ w4.heap.size; omega), Below.heap_setCell _ _ _ _ (by show k ≠ w4.heap.size; omega), Below.heap_setCell _ _ _ _ (by show k ≠ w4.heap.size; omega)]
  · exact (((((hb.setCell (p := ⟨w4.heap.size, 0, none⟩) (Nat.le_refl _) _).setCell (p := ⟨w4.heap.size, 1, none⟩) (Nat.le_refl _) _).setCell (p := ⟨w4.heap.size, 2, none⟩) (Nat.le_refl _) _).setCell (p := ⟨w4.heap.size, 3, none⟩) (Nat.le_refl _) _).setCell (p := ⟨w4.heap.size, 4, none⟩) (Nat.le_refl _) _).setCell (p := ⟨w4.heap.size, 5, none⟩) (Nat.le_refl _) _
def GrantOk (F : Nat → Prop) (q : Gs) (x now t : Int) (pa : ByteArray) (m : Int) (w : World) (e : Ending) (w' : World) : Prop := ∃ sb sc, e = .returned (.tuple #[.agg (gC 1 1 pa m (.slice (some ⟨sb, 0, none⟩) 1 sc) t), .int .i64 0]) ∧ Within F q ⟨2, 2, t, some ⟨pa, m, 1, t⟩⟩ (some ⟨pa, m⟩) (now + t) w w'
set_option maxRecDepth 100000 in
set_option maxHeartbeats 8000000 in
theorem grant_ok (F : Nat → Prop) (q : Gs) (x now t : Int) (pa : ByteArray) (m : Int) (w : World) (h : GrAt F q ⟨0, 1, 0, none⟩ none x w) (hF : ∀ k, F k → k < w.heap.size) (hr : ReqOK now 1 t) (hs : pa.size ≤ 140737488355328) (hp : pathOK pa = true) (hm : ModeB m = true) :
    Calls Tryz.prog 10 #[.pointer (some ⟨q.g, 0, none⟩), .int .i64 now, .agg rootC, .int .i64 1, .string pa, .int .i64 m, .int .i64 t] w (GrantOk F q x now t pa m w) := by
  obtain ⟨iG, hiG, hz0, hz1, hz2⟩ := info_parts Tryz.infoG
  obtain ⟨w0, hw0⟩ : ∃ w0, w0 = grantW q now t w := ⟨_, rfl⟩
  have hS := grantS q now t w
  rw [← hw0] at hS
  have HS := Lib.hid hS
  have H := Lib.hid h
  have HF := Lib.hid hF
  have hmf : ∀ (fn : Fn) (first cap : Array Value) (w : World), (Instr.makeFunc fn first cap).run Tryz.prog w = .ok (.func fn first cap) w := fun _ _ _ _ => rfl
  have c0 := blk_cell hS.h0 0
  have c1 := blk_cell hS.h1 0
  have c3 := blk_cell hS.h3 0
  have l0 := lt_of_heap hS.h4
  have HR := Lib.hid hr
  have HSZ := Lib.hid hs
  have HP := Lib.hid hp
  have HM := Lib.hid hm
  clear h hF hS hr hs hp hm
  unfold grantW rootC gC estr at hw0
  unfold rootC estr
  go_enter Tryz.func10, Tryz.ntmps10
  go_upto_region 1 with fail
  rw [← hw0]
  clear hw0
  go_upto_region 4 with (first
    | (refine wpList_load_row rfl 49 (.tmp 9) rfl (w.heap.size + 1 + 1) rfl 49 rootC (0, 0) _ HS.out.h2 Tryz.underlying49 rfl (by kernel_rfl) ?_; unfold rootC estr))
  clear c0 c1 c3
  generalize hw1 : w0.alloc _ = w1
  have hb1 : Below w0.heap.size w0 w1 := by rw [← hw1]; exact below_one _ _
  have hS1 := HS.out.below hb1
  have hx1 : w1.heap[w0.heap.size]? = some (.cells (reqC now 1 t pa m) 90 (0, 0)) := by rw [← hw1]; exact heap_at _ _ _ rfl
  have HX1 := Lib.hid hx1
  have HS1 := Lib.hid hS1
  have c0 := blk_cell hS1.h0 0
  have l1 := lt_of_heap hS1.h4
  clear hw1 hb1 hx1 hS1
  go_upto_region 8 with (first
    | (refine wpList_load_row rfl 90 (.tmp 16) rfl w0.heap.size rfl 90 (reqC now 1 t pa m) (0, 0) _ HX1.out Tryz.underlying90 rfl (by kernel_rfl) ?_))
  generalize hw2 : w1.alloc _ = w2
  have hlt := lt_of_heap HX1.out
  have hz0 := HS.out.b.size
  obtain ⟨ha, hS2, hx2⟩ := askS_new F q now 1 t pa m w w1 w2 w0.heap.size w1.heap.size HS1.out HX1.out hz0 rfl HF.out _ _ rfl hw2.symm
  have hgw := H.out.below hS2.b
  refine (ask_ok ha hgw HR.out HSZ.out HP.out HM.out).mono ?_
  rintro e w3 ⟨rfl, hW⟩
  have HW := Lib.hid hW
  have HB2 := Lib.hid hS2.b
  have HL2 := Lib.hid (lt_of_heap hS2.h4)
  have HT3 := Lib.hid (hS2.toT.mod hW.mod (fun k hk _ hf => by have := HF.out _ hf; omega))
  obtain ⟨F3, hF3⟩ : ∃ F3 : Nat → Prop, F3 = fun k => Up F w2 k ∧ k < w3.heap.size := ⟨_, rfl⟩
  have HF3 := Lib.hid hF3
  have hg3 : GrAt F3 q ⟨1, 1, t, none⟩ none x w3 := by rw [hF3]; exact hW.gr.mono (fun k hk hf => ⟨hf, hk⟩)
  have HG3 := Lib.hid hg3
  have HBK := Lib.hid hg3.book
  have c3 := blk_cell HT3.out.h0 0
  have l3 := lt_of_heap HT3.out.h0
  have g3 := blk_cell hg3.head
  have lg3 := lt_of_heap hg3.head
  clear ha hS2 hx2 hW hw2 hgw c0 hg3 hF3
  unfold headC at g3
  go_wp2_with fail
  refine HBK.out.mono ?_
  rintro e w4 ⟨gs, rfl, hgs, hb4⟩
  have hfb := Tryz.fieldB 1 0 t gs w4
  have HT4 := Lib.hid (HT3.out.below hb4)
  have HG4 := Lib.hid (HG3.out.below hb4)
  have HB4 := Lib.hid hb4
  have c0 := blk_cell HT4.out.h0
  have c1 := blk_cell HT4.out.h3
  have c2 := blk_cell HT4.out.h2
  have c4 := blk_cell HT4.out.h1
  clear hgs hb4 c3 g3
  unfold rootC estr at c2
  unfold bV
  go_wp2_with fail
  have hlw := lt_of_heap HT4.out.h4
  go_region_held_law (fun u => (∀ i, u.cell? ⟨w.heap.size, i, none⟩ = #[Value.pointer (some ⟨q.g, 0, none⟩)][i]?) ∧ (∀ i, u.cell? ⟨w.heap.size + 1 + 1 + 1, i, none⟩ = #[Value.int .i64 t][i]?) ∧ (∀ i, u.cell? ⟨w.heap.size + 1 + 1, i, none⟩ = #[.int .i64 0, .int .i64 0, .string ⟨#[]⟩, .int .i64 2, .slice none 0 0, .int .i64 0, .int .i64 0, .int .i64 4611686018427387904, .bool false][i]?)) ((go_split_ands; refine ⟨?_, ?_, ?_⟩ <;> (repeat (first | (with_reducible assumption) | (with_reducible refine cells_drew ?_) | ((with_reducible refine cells_set ?_ _ _ ?_); rotate_left; (dsimp only; omega)) | (with_reducible refine cells_alloc ?_ (by first | assumption | omega) _))))) (first
    | (go_simp; go_at_call 46; (refine (extended_any 1 _ (by omega)).mono ?_); rintro e w5 ⟨sb, sc, rfl, hi5, hb5⟩; have HI5 := Lib.hid hi5; first
        | (have hchk : Below w4.drew.heap.size w4.drew w5 := hb5; have HB5 := Lib.hid (below_step (Ck8.below_drew w4) hchk); have q0 := blk_cell ((HB5.out.block _ (lt_of_heap HT4.out.h0)).trans HT4.out.h0); have q1 := blk_cell ((HB5.out.block _ (lt_of_heap HT4.out.h3)).trans HT4.out.h3); have q2 := blk_cell ((HB5.out.block _ (lt_of_heap HT4.out.h2)).trans HT4.out.h2); have q3 : w4.heap.size ≤ w5.heap.size := hchk.size; clear hb5 hi5 hchk; unfold rootC estr at q2)
        | (have hchk : Below (w4.drew.alloc (.cells #[.int .i64 0, .int .i64 0, .string ⟨#[]⟩, .int .i64 0, .slice none 0 0, .int .i64 0] 45)).heap.size (w4.drew.alloc (.cells #[.int .i64 0, .int .i64 0, .string ⟨#[]⟩, .int .i64 0, .slice none 0 0, .int .i64 0] 45)) w5 := hb5; have HB5 := Lib.hid (below_step (Ck8.below_drew w4) (below_step (below_one w4.drew _) hchk)); have hz := (hchk.block w4.heap.size (by simp)).trans (heap_at w4.drew _ w4.heap.size rfl); have z0 := blk_cell hz; have zf := blk_free hz; have HZ := Lib.hid hz; have q0 := blk_cell ((HB5.out.block _ (lt_of_heap HT4.out.h0)).trans HT4.out.h0); have q1 := blk_cell ((HB5.out.block _ (lt_of_heap HT4.out.h3)).trans HT4.out.h3); have q2 := blk_cell ((HB5.out.block _ (lt_of_heap HT4.out.h2)).trans HT4.out.h2); have q3 : w4.heap.size ≤ w5.heap.size := HB5.out.size; clear hb5 hi5 hchk hz; unfold rootC estr at q2)))
  all_goals first
    | (obtain ⟨nb, hnb⟩ : ∃ nb, nb = w5.heap.size := ⟨_, rfl⟩; obtain ⟨w6, hw6⟩ : ∃ w6, w6 = w5.alloc (.cells (gC 1 1 pa m (.slice (some ⟨sb, 0, none⟩) 1 sc) t) 45) := ⟨_, rfl⟩; have HS6 := Lib.hid (show ExtS w4 nb pa m t sb sc w6 by rw [hw6, hnb]; exact ExtS.one HB5.out HI5.out); unfold gC at hw6; rw [← hw6, ← hnb])
    | (obtain ⟨nb, hnb⟩ : ∃ nb, nb = w4.heap.size := ⟨_, rfl⟩; obtain ⟨w6, hw6⟩ : ∃ w6, w6 = ((((((w5.setCell ⟨w4.heap.size, 0, none⟩ (.int .i64 1)).setCell ⟨w4.heap.size, 1, none⟩ (.int .i64 1)).setCell ⟨w4.heap.size, 2, none⟩ (.string pa)).setCell ⟨w4.heap.size, 3, none⟩ (.int .i64 m)).setCell ⟨w4.heap.size, 4, none⟩ (.slice (some ⟨sb, 0, none⟩) 1 sc)).setCell ⟨w4.heap.size, 5, none⟩ (.int .i64 t)) := ⟨_, rfl⟩; have HS6 := Lib.hid (show ExtS w4 nb pa m t sb sc w6 by rw [hw6, hnb]; exact ExtS.two HB5.out HZ.out (HI5.out.mono (fun k _ hk => by simpa using hk))); rw [← hw6, ← hnb]; clear z0 zf HZ)
  all_goals
    clear hw6 hnb q0 q1 q2 q3 c0 c1 c2 c4 HI5 HB5
    have HT6 := Lib.hid (HT4.out.below HS6.out.b)
    have hg6 := HG4.out.below HS6.out.b
    obtain ⟨FL, hled, hsub, hup⟩ := hg6.led
    have HUP := Lib.hid (hup ⟨2, 2, t, some ⟨pa, m, 1, t⟩⟩)
    have HW6 := Lib.hid ((HW.out.below HB4.out).below HS6.out.b)
    have HOUT := Lib.hid (fun k (hk : F3 k) => show k < w3.heap.size ∧ ¬ (w.heap.size ≤ k ∧ k ≤ w.heap.size + 1 + 1 + 1 + 1) from by
      have hk := hk
      rw [HF3.out] at hk
      refine ⟨hk.2, fun hh => ?_⟩
      rcases hk.1 with hf | hf
      · have := HF.out _ hf; omega
      · have := HL2.out; omega)
    have HSU := Lib.hid (fun k (hk : F3 k) => show Up F w2 k from by
      have hk := hk
      rw [HF3.out] at hk
      exact hk.1)
    have HNB := Lib.hid (show w3.heap.size ≤ nb ∧ nb < w6.heap.size ∧ w2.heap.size ≤ w6.heap.size ∧ w.heap.size + 1 + 1 + 1 + 1 < w2.heap.size from ⟨Nat.le_trans HB4.out.size HS6.out.nb, lt_of_heap HS6.out.hb, HW6.out.mod.size, HL2.out⟩)
    have HLED := Lib.hid hled
    have HSUB := Lib.hid hsub
    have HG6 := Lib.hid hg6.head
    have c0 := blk_cell HT6.out.h0
    have c1 := blk_cell HG6.out
    have c2 := blk_cell HS6.out.hb
    have l1 := lt_of_heap HG6.out
    have l2 := lt_of_heap HS6.out.hb
    have l3 := lt_of_heap HT6.out.h4
    have HAP := Lib.hid (show Calls Tryz.prog 47 #[.pointer (some ⟨q.lp, 0, none⟩), .agg #[.int .i64 4, .int .i64 1, .int .i64 1, .string pa, .int .i64 m, .slice (some ⟨sb, 0, none⟩) 1 sc, .int .i64 t, .int .i64 0, .slice none 0 0, .int .i64 0, .int .i64 0, .int .i64 0]] (w6.drew) (AppPost FL q.lp q.d q.s 2 2 t (some ⟨pa, m, 1, t⟩) (w6.drew)) from
      append_grant FL (fun _ => True) q.lp q.d q.s 1 t ⟨pa, m, 1, t⟩ (.slice (some ⟨sb, 0, none⟩) 1 sc) (w6.drew) (hled.below (Ck8.below_drew w6)) (by omega) (.inr HR.out.t) ⟨HP.out, by have := HM.out; unfold ModeB at this; simpa using this, (by show (1 : Int) ≤ 1 ∧ (1 : Int) ≤ 2; decide), HR.out.t⟩ rfl (HS6.out.iv.below (Ck8.below_drew w6)))
    clear hg6 hled hsub hup
    unfold headC at c1
    unfold gC at c2
    go_wp2_with fail
    go_region_held_law (fun u => (∀ i, u.cell? ⟨w.heap.size, i, none⟩ = #[Value.pointer (some ⟨q.g, 0, none⟩)][i]?) ∧ (∀ i, u.cell? ⟨q.g, i, none⟩ = #[Value.pointer (some ⟨q.lp, 0, none⟩), .pointer (some ⟨q.sp, 0, none⟩), .map (some q.nm), .int .i64 0][i]?) ∧ (∀ i, u.cell? ⟨nb, i, none⟩ = #[Value.int .i64 1, Value.int .i64 1, Value.string pa, Value.int .i64 m, Value.slice (some ⟨sb, 0, none⟩) 1 sc, Value.int .i64 t][i]?)) ((go_split_ands; refine ⟨?_, ?_, ?_⟩ <;> (repeat (first | (with_reducible assumption) | (with_reducible refine cells_drew ?_))))) (first
      | (go_simp; go_at_call 47; (refine HAP.out.mono ?_); rintro e w7 ⟨rfl, hl7, hm7⟩; have HL7 := Lib.hid hl7; have HM7 := Lib.hid ((Mod.of_below (F := FL) (Ck8.below_drew w6)).trans hm7 (fun _ _ f => f)); clear hl7 hm7; have HT7 := Lib.hid (HT6.out.mod HM7.out (fun k hk1 hk2 hf => (HOUT.out k (HSUB.out k hf).1).2 ⟨hk1, hk2⟩)); have HN7 := Lib.hid ((HM7.out.block _ (lt_of_heap HS6.out.hb) (fun hf => by have := (HOUT.out _ (HSUB.out _ hf).1).1; have := HNB.out.1; omega)).trans HS6.out.hb); have HG7 := Lib.hid ((HM7.out.block _ (lt_of_heap HG6.out) (fun hf => (HSUB.out _ hf).2 rfl)).trans HG6.out); have q0 := blk_cell HT7.out.h0; have q1 := blk_cell HG7.out; have q2 := blk_cell HN7.out; unfold headC at q1; unfold gC at q2))
    have hg7 := HUP.out w7 (HL7.out.mono (fun _ _ h => h)) HM7.out
    have HW7 := Lib.hid (HW6.out.step (hg7.1.mono (fun k _ hf => by
      rcases hf with hf | hf
      · exact .inl (HSU.out k hf)
      · exact .inr hf)) (hg7.2.mono (fun k _ hf => HSU.out k hf)))
    obtain ⟨F7, hF7⟩ : ∃ F7 : Nat → Prop, F7 = fun k => Up F3 w6 k ∧ k < w7.heap.size := ⟨_, rfl⟩
    have hg77 : GrAt F7 q ⟨2, 2, t, some ⟨pa, m, 1, t⟩⟩ none x w7 := by rw [hF7]; exact hg7.1.mono (fun k hk hf => ⟨hf, hk⟩)
    have HG77 := Lib.hid hg77
    have HF7 := Lib.hid hF7
    have c7 := blk_cell HT7.out.h1
    have c8 := blk_cell HT7.out.h3
    have l7 := lt_of_heap HN7.out
    have l8 := lt_of_heap HT7.out.h4
    have hwr : IntKind.i64.wrap (now + t) = now + t := by
      have h1 := HR.out.now
      have h2 := HR.out.t
      rw [IntKind.wrap_i64]; omega
    clear hg7 hg77 hF7 c0 c1 c2 q1
    go_wp2_with (first
      | (refine wpList_load_row rfl 45 (.tmp 22) rfl nb rfl 45 (gC 1 1 pa m (.slice (some ⟨sb, 0, none⟩) 1 sc) t) (0, 0) _ HN7.out Tryz.underlying45 rfl (by kernel_rfl) ?_; unfold gC))
    refine (keep_any F7 q ⟨2, 2, t, some ⟨pa, m, 1, t⟩⟩ x (now + t) pa m t sb 0 sc _ HG77.out HP.out (by have := HM.out; unfold ModeB at this; simpa using this)).mono ?_
    rintro e w8 ⟨rfl, hg8, hm8⟩
    have HO7 := Lib.hid (fun k (hk : F7 k) => show Up F3 w6 k from by
      have hk := hk
      rw [HF7.out] at hk
      exact hk.1)
    have hsz6 := HW6.out.mod.size
    have HU7 := Lib.hid (fun k (hk : F7 k) => show Up F w2 k from by
      rcases HO7.out k hk with hf | hf
      · exact HSU.out k hf
      · exact .inr (Nat.le_trans hsz6 hf))
    have HW8 := Lib.hid (HW7.out.step (hg8.mono (fun k _ hf => by
      rcases hf with hf | hf
      · exact .inl (HU7.out k hf)
      · exact .inr hf)) (hm8.mono (fun k _ hf => HU7.out k hf)))
    have HN8 := Lib.hid ((hm8.block _ (lt_of_heap HN7.out) (fun hf => by
      rcases HO7.out _ hf with hf | hf
      · have := (HOUT.out _ hf).1; have := HNB.out.1; omega
      · have := HNB.out.2.1; omega)).trans HN7.out)
    have HT8 := Lib.hid ((hm8.block _ (lt_of_heap HT7.out.h4) (fun hf => by
      rcases HO7.out _ hf with hf | hf
      · exact (HOUT.out _ hf).2 ⟨by omega, by omega⟩
      · have := HNB.out.2.2.1; have := HNB.out.2.2.2; omega)).trans HT7.out.h4)
    have l9 := lt_of_heap HN8.out
    have l10 := lt_of_heap HT8.out
    clear hg8 hm8 c7 c8 q0 q2 hsz6
    go_wp2_with (first
      | (refine wpList_load_row rfl 45 (.tmp 22) rfl nb rfl 45 (gC 1 1 pa m (.slice (some ⟨sb, 0, none⟩) 1 sc) t) (0, 0) _ HN8.out Tryz.underlying45 rfl (by kernel_rfl) ?_)
      | (refine wpList_store_row rfl 45 (.tmp 14) (.tmp 92) rfl (w.heap.size + 1 + 1 + 1 + 1) (gC 1 1 pa m (.slice (some ⟨sb, 0, none⟩) 1 sc) t) rfl rfl 45 _ HT8.out (by kernel_rfl) rfl (gC_one _ _ _ _ _ _ _ _) ?_))
    refine bodyPost_ret (v := .tuple #[.agg (gC 1 1 pa m (.slice (some ⟨sb, 0, none⟩) 1 sc) t), .int .i64 0]) (results_cell_tmp2 (fn := Tryz.f10) rfl _ _ (w.heap.size + 1 + 1 + 1 + 1) 45 (gC 1 1 pa m (.slice (some ⟨sb, 0, none⟩) 1 sc) t) (0, 0) _ _ rfl rfl (setRow_heap _ _ _ _ _ _ HT8.out) Tryz.underlying45 rfl (by kernel_rfl)) rfl ⟨sb, sc, rfl, ?_⟩
    exact HW8.out.row (g := w.heap.size + 1 + 1 + 1 + 1) HB2.out (by omega) HNB.out.2.2.2 (fun hf => by have := HF.out _ hf; omega) _
end Go.Proofs.YtchdfogifhfclaaGreatDoor
namespace Go.Proofs.YtchdfogifhfclaaGreatDoor
open Go.RowKit Go.Maps Go.MapKept
open Go.ChangeMaps (setBlock)

/-- A held grant's cells. -/
def hC (p : ByteArray) (m : Int) (sv : Value) (t x : Int) : Array Value := #[.int .i64 1, .int .i64 1, .string p, .int .i64 m, sv, .int .i64 t, .int .i64 x, .int .i64 0, .int .i64 0]
theorem Tryz.infoH : (Tryz.prog.info? 114).map (fun i => (i.zero, i.size, i.bytes)) = some (some (.agg (#[.int .i64 0, .int .i64 0, .string estr, .int .i64 0, .slice none 0 0, .int .i64 0, .int .i64 0, .int .i64 0, .int .i64 0])), 9, 96) := by kernel_rfl
def ListP (g : Gr) (x : Int) (w : World) (e : Ending) (w' : World) : Prop := ∃ b c sb so sc, e = .returned (.slice (some ⟨b, 0, none⟩) 1 c) ∧ 1 ≤ c ∧ w.heap.size ≤ b ∧ b < w'.heap.size ∧ (∀ i, i < 9 → w'.cell? ⟨b, i, none⟩ = (hC g.p g.m (.slice (some ⟨sb, so, none⟩) 1 sc) g.t x)[i]?) ∧ Ck8.IntsV (fun k => w.heap.size ≤ k) w' (.slice (some ⟨sb, so, none⟩) 1 sc) [g.s] ∧ Below w.heap.size w w'
theorem row_cells9 {w : World} {base g cap : Nat} {e : TypeId} {cs : Array Value} (h : w.ownsRow base e 9 (.slice (some ⟨g, 0, none⟩) 1 cap) 1 cs.toList) (hs : cs.size = 9) : (base ≤ g ∧ g < w.heap.size ∧ 1 ≤ cap) ∧ ∀ i, i < 9 → w.cell? ⟨g, i, none⟩ = cs[i]? := by
  obtain ⟨_, ⟨hr, _⟩ | ⟨g', cap', cur, hr, h1, h2, h3, h4, h5, h6⟩⟩ := h
  · cases hr
  · cases hr
    refine ⟨⟨h1, lt_of_heap h2, h3⟩, fun i hi => ?_⟩
    rw [blk_cell h2 i]
    have h7 := congrArg (fun l => l[i]?) h6
    simp only [List.getElem?_take] at h7
    rw [if_pos (by omega)] at h7
    simpa using h7
set_option maxRecDepth 100000 in
set_option maxHeartbeats 4000000 in
theorem glist_any (F : Nat → Prop) (q : Gs) (L : Lst) (g : Gr) (en : Ent) (x : Int) (w : World) (h : GrAt F q L (some en) x w) (ho : L.o = some g) : Calls Tryz.prog 108 #[.pointer (some ⟨q.g, 0, none⟩)] w (ListP g x w) := by
  obtain ⟨iH, hiH, hz0, hz1, hz2⟩ := info_parts Tryz.infoH
  have hbk := h.book
  rw [ho] at hbk
  have HBK := Lib.hid hbk
  have H := Lib.hid h
  have g0 := blk_cell h.head
  have l0 := lt_of_heap h.head
  clear h hbk ho
  unfold headC at g0
  go_enter Tryz.func108, Tryz.ntmps108
  go_wp2_with fail
  refine HBK.out.mono ?_
  rintro e w1 ⟨gs, rfl, hgs, hb1⟩
  have hfb := Tryz.fieldBg L.next 0 L.longest gs w1
  obtain ⟨b, c, sv, rfl, hc1, hc2, hD, hb, hcell, hfr, hiv⟩ := hgs
  obtain ⟨sb, so, sc, rfl, _, _, _, _, _⟩ := hiv.at_ (j := 0) rfl
  have k0 := hcell 0 (by omega)
  have k1 := hcell 1 (by omega)
  have k2 := hcell 2 (by omega)
  have k3 := hcell 3 (by omega)
  have k4 := hcell 4 (by omega)
  have k5 := hcell 5 (by omega)
  obtain ⟨pa, m, st, t⟩ := g
  simp only at k0 k1 k2 k3 k4 k5 hiv
  have HIV := Lib.hid hiv
  have HB1 := Lib.hid hb1
  have HH1 := Lib.hid (H.out.below hb1)
  clear g0 hcell hfr hiv hb1 hD
  unfold gC at k0 k1 k2 k3 k4 k5
  unfold bV
  go_wp2_with fail
  refine wp_loop_rounds 2 ?_
  rw [rounds_succ]
  go_wp2_with fail
  obtain ⟨w2, hw2⟩ : ∃ w2, w2 = w1.alloc (.cells (gC 1 1 pa m (.slice (some ⟨sb, so, none⟩) 1 sc) t) 45) := ⟨_, rfl⟩
  have hb2 : Below w1.heap.size w1 w2 := by rw [hw2]; exact below_one _ _
  have hx2 : w2.heap[w1.heap.size]? = some (.cells (gC 1 1 pa m (.slice (some ⟨sb, so, none⟩) 1 sc) t) 45 (0, 0)) := by rw [hw2, heap_at _ _ _ rfl]
  have HB2 := Lib.hid (below_step HB1.out hb2)
  have HX2 := Lib.hid hx2
  have HIV2 := Lib.hid (HIV.out.below hb2)
  have hh2 := HH1.out.below hb2
  have HH2 := Lib.hid hh2
  have g0 := blk_cell hh2.head
  have g1 := blk_cell hx2
  have l1 := lt_of_heap hh2.head
  have l2 := lt_of_heap hx2
  have hnote : w2.heap[q.nm]? = some (.map #[⟨.int .i64 1, noteV x, 0⟩] 1) := hh2.note
  have hl1 := mlook_one (w := w2.drew) (int_keyed Tryz.underlying3) Tryz.underlying82 (show w2.drew.heap[q.nm]? = _ from hnote) (keyI (x := 1) (by omega)) false
  have hl2 := fun o => mlook_one (w := (w2.alloc o).drew) (int_keyed Tryz.underlying3) Tryz.underlying82 (show (w2.alloc o).drew.heap[q.nm]? = _ from (heap_past w2 o q.nm (lt_of_heap hnote)).trans hnote) (keyI (x := 1) (by omega)) false
  clear hx2 hb2 hh2 hnote k0 k1 k2 k3 k4 k5 hfb
  unfold noteV at hl1 hl2
  unfold headC at g0
  unfold gC at g1 hw2
  rw [← hw2]
  clear hw2
  go_region_held_law (fun u => (∀ i, u.cell? ⟨q.g, i, none⟩ = #[Value.pointer (some ⟨q.lp, 0, none⟩), .pointer (some ⟨q.sp, 0, none⟩), .map (some q.nm), .int .i64 0][i]?) ∧ (∀ i, u.cell? ⟨w1.heap.size, i, none⟩ = #[Value.int .i64 1, Value.int .i64 1, Value.string pa, Value.int .i64 m, Value.slice (some ⟨sb, so, none⟩) 1 sc, Value.int .i64 t][i]?)) ((go_split_ands; refine ⟨?_, ?_⟩ <;> (repeat (first | (with_reducible assumption) | (with_reducible refine cells_drew ?_) | ((with_reducible refine cells_set ?_ _ _ ?_); rotate_left; (dsimp only; omega)) | (with_reducible refine cells_alloc ?_ (by first | assumption | omega) _))))) (fail)
  all_goals
    obtain ⟨w3, hw3⟩ : ∃ w3, w3 = (w2.alloc (.cells #[.int .i64 x, .int .i64 0, .int .i64 0] 119)).drew := ⟨_, rfl⟩
    have hb3 : Below w2.heap.size w2 w3 := by rw [hw3]; exact below_step (below_one w2 _) (Ck8.below_drew _)
    have hx3 : w3.heap[w2.heap.size]? = some (.cells #[.int .i64 x, .int .i64 0, .int .i64 0] 119 (0, 0)) := by rw [hw3]; exact heap_at w2 _ _ rfl
    have HB3 := Lib.hid hb3
    have c3 := blk_cell hx3
    have c4 := blk_cell ((hb3.block _ (lt_of_heap HX2.out)).trans HX2.out)
    have l3 := lt_of_heap hx3
    have HIV3 := Lib.hid (HIV2.out.below hb3)
    rw [← hw3]
    clear hw3 hx3 hb3 g0 g1 hl1 hl2
    unfold gC at c4
    go_wp2_with (first
      | (at_builtin; refine wpList_append_lies _ rfl (.tmp 27) (.tmp 36) _ rfl w3.heap.size 114 iH _ 9 96 Tryz.underlying169 hiH hz0 hz1 hz2 rfl (by omega) (.slice none 0 0) 0 [] rfl (World.ownsRow_nil _ _ _ _) ⟨w3.heap.size, 0, none⟩ 1 1 (hC pa m (.slice (some ⟨sb, so, none⟩) 1 sc) t x).toList rfl rfl (World.news_of_block (heap_at _ (.cells (hC pa m (.slice (some ⟨sb, so, none⟩) 1 sc) t x) 114) _ (by simp))) (by simp [hC, Value.oneCell']) (by omega) (by unfold maxLen; omega) (by omega) (by simp) _ rfl ?_; intro g6 cap6 w6 hown6 hgrow6 hat6 hlt6; have HOWN := Lib.hid hown6; have HG6 := Lib.hid hgrow6; clear hown6 hgrow6 hat6 hlt6))
    rw [rounds_succ]
    go_wp2_with fail
    go_ret
    obtain ⟨hg1, hg2⟩ := row_cells9 (cs := hC pa m (.slice (some ⟨sb, so, none⟩) 1 sc) t x) (by simpa using HOWN.out) rfl
    have hbz : Below w3.heap.size w3 w6 := below_step (below_one w3 _) ((Below.refl _ _).grown HG6.out (Nat.le_refl _) (by intro k hk; cases hk))
    have hz := (HB2.out.size)
    have hz3 := HB3.out.size
    exact ⟨g6, cap6, sb, so, sc, rfl, hg1.2.2, by omega, hg1.2.1, hg2, HIV3.out.below hbz, below_step (below_step HB2.out HB3.out) hbz⟩
end Go.Proofs.YtchdfogifhfclaaGreatDoor
