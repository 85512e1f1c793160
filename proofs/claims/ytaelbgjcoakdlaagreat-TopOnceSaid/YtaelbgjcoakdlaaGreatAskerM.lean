/- sends: a message into the bag.  The asker: what it is, where it lies. -/
import Derived.Test.YtaelbgjcoakdlaaGreatReps
import Derived.Test.YtaelbgjcoakdlaaGreatStateM
namespace Go.Proofs.YtaelbgjcoakdlaaGreat
open Go.RowKit Go.Maps

/-- The packet of a message. -/
def pkt (m : Ms) : Bg7.Pkt := ⟨m.src, m.dst, code m⟩
theorem NewBytes.bytes {w w' : World} {v : Value} {l : List UInt8} (h : NewBytes w w' v l) : BytesV (fun k => w.heap.size ≤ k) w' v l := by
  obtain ⟨n, h⟩ := h
  exact BytesV.of_own h
theorem bag_lt {G : Nat → Prop} {w : World} {p : Nat} {b : Bg7.Bg} (h : Bg7.BagAt G w p b) : G p ∧ p < w.heap.size := by
  obtain ⟨h1, h2, h2', h2'', h3, _⟩ := h
  exact h3
/-- What sends reads. -/
structure SendS (w : World) (G : Nat → Prop) (pb : Nat) (b : Bg7.Bg) (m : Ms) (v : Value) (u : World) : Prop where
  bag : Bg7.BagAt (fun k => G k ∧ k < w.heap.size) u pb b
  dat : BytesV (fun k => w.heap.size + 1 ≤ k) u v (code m)
  mod : Mod (fun k => G k ∧ k < w.heap.size) w u
def SendH (w : World) (q pb : Nat) (m : Ms) (u : World) : Prop := u.cell? ⟨q, 2, none⟩ = some (.pointer (some ⟨pb, 0, none⟩)) ∧ u.cell? ⟨w.heap.size, 1, none⟩ = some (.int .i64 m.src) ∧ u.cell? ⟨w.heap.size, 2, none⟩ = some (.int .i64 m.dst)
theorem SendH.after {w u u' : World} {G : Nat → Prop} {q pb : Nat} {m : Ms} (h : SendH w q pb m u) (hm : Mod (fun k => G k ∧ k < w.heap.size) u u') (hG : ¬ G q) : SendH w q pb m u' := by
  obtain ⟨h1, h2, h3⟩ := h
  refine ⟨(World.cell?_of_block (hm.block q (World.block_lt_of_cell? u ⟨q, 2, none⟩ h1) (fun h => hG h.1))).trans h1, ?_, ?_⟩
  · exact (World.cell?_of_block (hm.block w.heap.size (World.block_lt_of_cell? u ⟨w.heap.size, 1, none⟩ h2) (fun h => absurd h.2 (Nat.lt_irrefl _)))).trans h2
  · exact (World.cell?_of_block (hm.block w.heap.size (World.block_lt_of_cell? u ⟨w.heap.size, 1, none⟩ h2) (fun h => absurd h.2 (Nat.lt_irrefl _)))).trans h3
def SendsPost (G : Nat → Prop) (pb : Nat) (b' : Bg7.Bg) (w : World) (e : Ending) (w' : World) : Prop := e = .returned (.tuple #[]) ∧ Bg7.BagAt (Up G w) w' pb b' ∧ Mod G w w'
set_option maxRecDepth 100000 in
set_option maxHeartbeats 1000000 in
theorem sends_any (G : Nat → Prop) (q pb : Nat) (m : Ms) (b : Bg7.Bg) (w : World) (hG : ¬ G q) (hq : w.cell? ⟨q, 2, none⟩ = some (.pointer (some ⟨pb, 0, none⟩))) (h : Bg7.BagAt G w pb b) (hf : Fine m) (hs : b.sent + 1 < 4611686018427387904) (hl : b.lost + 1 < 4611686018427387904) :
    Calls Tryz.prog 14 #[.pointer (some ⟨q, 0, none⟩), m.val] w (SendsPost G pb (b.send (pkt m)) w) := by
  have HF := Lib.hid hf
  have HB := Lib.hid h
  have HQ := Lib.hid hq
  have hbA : Below w.heap.size w (w.alloc (.cells m.cells 51)) := (Below.refl _ _).alloc (Nat.le_refl _) _
  have HM := Lib.hid (show MsgAt (w.alloc (.cells m.cells 51)) w.heap.size m from heap_at w _ _ rfl)
  have HBA := Lib.hid hbA
  clear hf h hbA hq
  unfold Ms.val
  go_enter Tryz.func14, Tryz.ntmps14
  go_wp2_with (refine wpList_load_row rfl 51 (.tmp 3) rfl w.heap.size rfl 51 m.cells (0, 0) _ HM.out Tryz.underlying51 rfl (by kernel_rfl) ?_)
  refine (encode_any m _ HF.out).mono ?_
  rintro e w1 ⟨v, rfl, hv, hb1⟩
  obtain ⟨va, vn, vc, rfl⟩ := new_slice hv
  have hpl : pb < w.heap.size := (bag_lt HB.out).2
  have hql : q < w.heap.size := World.block_lt_of_cell? w ⟨q, 2, none⟩ HQ.out
  have hS : SendS w G pb b m (.slice va vn vc) w1 := ⟨(HB.out.tight.below HBA.out).below hb1, hv.bytes.mono (fun k _ h => by simpa using h), (Mod.of_below HBA.out).below hb1⟩
  have g0 : w1.cell? ⟨q, 2, none⟩ = some (.pointer (some ⟨pb, 0, none⟩)) := (World.cell?_of_block (hS.mod.block q hql (fun h => hG h.1))).trans HQ.out
  have gm : w1.heap[w.heap.size]? = some (.cells m.cells 51 (0, 0)) := HM.out.below hb1
  have g1 : w1.cell? ⟨w.heap.size, 1, none⟩ = some (.int .i64 m.src) := blk_cell gm 1
  have g2 : w1.cell? ⟨w.heap.size, 2, none⟩ = some (.int .i64 m.dst) := blk_cell gm 2
  have HS := Lib.hid hS
  clear hv hb1 gm hS
  go_wp2_with fail
  have hH0 : SendH w q pb m w1.drew := ⟨g0, g1, g2⟩
  have hS0 : SendS w G pb b m (.slice va vn vc) w1.drew := ⟨HS.out.bag.keep (fun _ _ _ => rfl) (Nat.le_refl _), HS.out.dat.keep (fun _ _ _ => rfl) (Nat.le_refl _), HS.out.mod.drew⟩
  go_region_held_law (fun u => u.cell? ⟨q, 2, none⟩ = some (.pointer (some ⟨pb, 0, none⟩)) ∧ u.cell? ⟨w.heap.size, 1, none⟩ = some (.int .i64 m.src) ∧ u.cell? ⟨w.heap.size, 2, none⟩ = some (.int .i64 m.dst)) (first | (go_split_ands; exact ⟨by assumption, by assumption, by assumption⟩) | go_keep) (first
    | (go_at_call 27; (refine (Bg7.send_any (fun k => G k ∧ k < w.heap.size) (fun k => w.heap.size + 1 ≤ k) pb b (pkt m) (.slice va vn vc) _ hS0.bag hS0.dat (fun k _ hk => by omega) hs hl).mono ?_); rintro e w3 ⟨rfl, hb3, hm3⟩; (obtain ⟨hz0, hz1, hz2⟩ := hH0.after hm3 hG)))
  go_end0
  refine ⟨rfl, hb3.mono (fun k _ hk => ?_), (hS0.mod.trans hm3 (fun _ _ h => h)).mono (fun _ _ h => h.1)⟩
  rcases hk with hk | hk
  · exact .inl hk.1
  · exact .inr (Nat.le_trans HS.out.mod.size hk)
end Go.Proofs.YtaelbgjcoakdlaaGreat
namespace Go.Proofs.YtaelbgjcoakdlaaGreat
open Go.RowKit Go.Maps

def I8 (x : Int) : Value := .int .i64 x
structure Ak where
  c : Cl
  r : Rep
  b : Bg7.Bg
  done : List Int
  told : List Int
  seen : List Int
  x : Nat → Option Obj
structure Hd where
  pc : Nat
  pr : Nat
  pb : Nat
  vd : Value
  vt : Value
  vs : Value
/-- A row of ints, of the colour i. -/
def Row (own : Nat → Nat) (i base : Nat) (w : World) (v : Value) (l : List Int) : Prop := w.ownsRow base 3 1 v l.length (l.map I8) ∧ ∀ g, v.ownBlock = some g → own g = i
structure AkAt (own : Nat → Nat) (base : Nat) (w : World) (q : Nat) (h : Hd) (a : Ak) : Prop where
  head : w.heap[q]? = some (.cells #[.pointer (some ⟨h.pc, 0, none⟩), .pointer (some ⟨h.pr, 0, none⟩), .pointer (some ⟨h.pb, 0, none⟩), h.vd, h.vt, h.vs] 34 (0, 0))
  hq : own q = 7
  calls : CallsAt (fun k => own k = 1) w h.pc a.c
  rep : RepAt w h.pr a.r
  hr : own h.pr = 2
  bag : Bg7.BagAt (fun k => own k = 3) w h.pb a.b
  done : Row own 4 base w h.vd a.done
  told : Row own 5 base w h.vt a.told
  seen : Row own 6 base w h.vs a.seen
  back : ∀ k, own k ≠ 0 → base ≤ k ∧ k < w.heap.size
  ext : ∀ k o, a.x k = some o → own k = 8 ∧ w.heap[k]? = some o
theorem Row.keep {own : Nat → Nat} {i base : Nat} {w w' : World} {v : Value} {l : List Int} (h : Row own i base w v l) (hk : ∀ k, k < w.heap.size → own k = i → w'.heap[k]? = w.heap[k]?) : Row own i base w' v l :=
  ⟨Bg7.ownsRow_keep h.1 (fun g hg => hk g (h.1.lt g hg).2 (h.2 g hg)), h.2⟩
theorem Row.paint {own own' : Nat → Nat} {i base : Nat} {w : World} {v : Value} {l : List Int} (h : Row own i base w v l) (ho : ∀ k, k < w.heap.size → own' k = own k) : Row own' i base w v l :=
  ⟨h.1, fun g hg => (ho g (h.1.lt g hg).2).trans (h.2 g hg)⟩
theorem AkAt.keep {own : Nat → Nat} {base : Nat} {w w' : World} {q : Nat} {h : Hd} {a : Ak} (H : AkAt own base w q h a) (hk : ∀ k, k < w.heap.size → own k ≠ 0 → w'.heap[k]? = w.heap[k]?) (hs : w.heap.size ≤ w'.heap.size) : AkAt own base w' q h a :=
  ⟨(hk q (lt_of_heap H.head) (by rw [H.hq]; decide)).trans H.head, H.hq, H.calls.keep (fun k hl e => hk k hl (by rw [e]; decide)), H.rep.keep (hk _ H.rep.lt (by rw [H.hr]; decide)), H.hr, H.bag.keep (fun k hl e => hk k hl (by rw [e]; decide)) hs,
    H.done.keep (fun k hl e => hk k hl (by rw [e]; decide)), H.told.keep (fun k hl e => hk k hl (by rw [e]; decide)), H.seen.keep (fun k hl e => hk k hl (by rw [e]; decide)), fun k e => ⟨(H.back k e).1, Nat.lt_of_lt_of_le (H.back k e).2 hs⟩, fun k o e => have e1 := H.ext k o e; ⟨e1.1, (hk k (lt_of_heap e1.2) (by rw [e1.1]; decide)).trans e1.2⟩⟩
theorem AkAt.below {own : Nat → Nat} {base : Nat} {w w' : World} {q : Nat} {h : Hd} {a : Ak} (H : AkAt own base w q h a) (hb : Below w.heap.size w w') : AkAt own base w' q h a := H.keep (fun k hl _ => hb.block k hl) hb.size
theorem AkAt.upCalls {own : Nat → Nat} {base : Nat} {w w' : World} {q : Nat} {h : Hd} {a : Ak} {c' : Cl} (H : AkAt own base w q h a) (hc : CallsAt (fun k => own k = 1) w' h.pc c') (hm : Mod (fun k => own k = 1) w w') : AkAt own base w' q h { a with c := c' } :=
  have hk : ∀ k, k < w.heap.size → own k ≠ 1 → w'.heap[k]? = w.heap[k]? := fun k hl e => hm.block k hl e
  ⟨(hk q (lt_of_heap H.head) (by rw [H.hq]; decide)).trans H.head, H.hq, hc, H.rep.keep (hk _ H.rep.lt (by rw [H.hr]; decide)), H.hr, H.bag.keep (fun k hl e => hk k hl (by rw [e]; decide)) hm.size,
    H.done.keep (fun k hl e => hk k hl (by rw [e]; decide)), H.told.keep (fun k hl e => hk k hl (by rw [e]; decide)), H.seen.keep (fun k hl e => hk k hl (by rw [e]; decide)), fun k e => ⟨(H.back k e).1, Nat.lt_of_lt_of_le (H.back k e).2 hm.size⟩, fun k o e => have e1 := H.ext k o e; ⟨e1.1, (hk k (lt_of_heap e1.2) (by rw [e1.1]; decide)).trans e1.2⟩⟩
theorem AkAt.upRep {own : Nat → Nat} {base : Nat} {w w' : World} {q : Nat} {h : Hd} {a : Ak} {r' : Rep} (H : AkAt own base w q h a) (hc : RepAt w' h.pr r') (hm : Mod (fun k => k = h.pr) w w') : AkAt own base w' q h { a with r := r' } :=
  have hk : ∀ k, k < w.heap.size → own k ≠ 2 → w'.heap[k]? = w.heap[k]? := fun k hl e => hm.block k hl (fun e2 => e (e2 ▸ H.hr))
  ⟨(hk q (lt_of_heap H.head) (by rw [H.hq]; decide)).trans H.head, H.hq, H.calls.keep (fun k hl e => hk k hl (by rw [e]; decide)), hc, H.hr, H.bag.keep (fun k hl e => hk k hl (by rw [e]; decide)) hm.size,
    H.done.keep (fun k hl e => hk k hl (by rw [e]; decide)), H.told.keep (fun k hl e => hk k hl (by rw [e]; decide)), H.seen.keep (fun k hl e => hk k hl (by rw [e]; decide)), fun k e => ⟨(H.back k e).1, Nat.lt_of_lt_of_le (H.back k e).2 hm.size⟩, fun k o e => have e1 := H.ext k o e; ⟨e1.1, (hk k (lt_of_heap e1.2) (by rw [e1.1]; decide)).trans e1.2⟩⟩
/-- New blocks get the colour i. -/
def paint (own : Nat → Nat) (w w' : World) (i k : Nat) : Nat := if k < w.heap.size then own k else if k < w'.heap.size then i else 0
theorem paint_old {own : Nat → Nat} {w w' : World} {i k : Nat} (h : k < w.heap.size) : paint own w w' i k = own k := if_pos h
theorem AkAt.upBag {own : Nat → Nat} {base : Nat} {w w' : World} {q : Nat} {h : Hd} {a : Ak} {b' : Bg7.Bg} (H : AkAt own base w q h a) (hB : base ≤ w.heap.size) (hc : Bg7.BagAt (Up (fun k => own k = 3) w) w' h.pb b') (hm : Mod (fun k => own k = 3) w w') : AkAt (paint own w w' 3) base w' q h { a with b := b' } := by
  have hk : ∀ k, k < w.heap.size → own k ≠ 3 → w'.heap[k]? = w.heap[k]? := fun k hl e => hm.block k hl e
  refine ⟨(hk q (lt_of_heap H.head) (by rw [H.hq]; decide)).trans H.head, (paint_old (lt_of_heap H.head)).trans H.hq, (H.calls.keep (fun k hl e => hk k hl (by rw [e]; decide))).mono ?_, H.rep.keep (hk _ H.rep.lt (by rw [H.hr]; decide)), (paint_old H.rep.lt).trans H.hr, ?_,
    (H.done.paint (fun k hl => paint_old hl)).keep (fun k hl e => hk k hl (by rw [paint_old hl] at e; rw [e]; decide)), (H.told.paint (fun k hl => paint_old hl)).keep (fun k hl e => hk k hl (by rw [paint_old hl] at e; rw [e]; decide)), (H.seen.paint (fun k hl => paint_old hl)).keep (fun k hl e => hk k hl (by rw [paint_old hl] at e; rw [e]; decide)), fun k e => ?_, fun k o e => ?_⟩
  · intro k _ e
    exact (paint_old (H.back k (by rw [e]; decide)).2).trans e
  · refine hc.tight.mono fun k _ hk => ?_
    obtain ⟨hk | hk, hl⟩ := hk
    · exact (paint_old (H.back k (by rw [hk]; decide)).2).trans hk
    · unfold paint; rw [if_neg (by omega), if_pos hl]
  · by_cases hl : k < w.heap.size
    · rw [paint_old hl] at e
      exact ⟨(H.back k e).1, Nat.lt_of_lt_of_le hl hm.size⟩
    · refine ⟨by omega, ?_⟩
      unfold paint at e
      rw [if_neg hl] at e
      by_cases hl2 : k < w'.heap.size
      · exact hl2
      · rw [if_neg hl2] at e; exact absurd rfl e
  · have e1 := H.ext k o e
    exact ⟨(paint_old (lt_of_heap e1.2)).trans e1.1, (hk k (lt_of_heap e1.2) (by rw [e1.1]; decide)).trans e1.2⟩
theorem AkAt.belowOf {own : Nat → Nat} {base i : Nat} {w w' : World} {q : Nat} {h : Hd} {a : Ak} (H : AkAt own base w q h a) (hB : base ≤ w.heap.size) (hi : i ≠ 0) (hm : Mod (fun k => own k = i) w w') : Below base w w' := hm.toBelow hB (fun k e => (H.back k (by rw [e]; exact hi)).1)
/-- sends, over the asker. -/
def SendsAk (base q : Nat) (h : Hd) (a' : Ak) (w : World) (e : Ending) (w' : World) : Prop := e = .returned (.tuple #[]) ∧ ∃ own', AkAt own' base w' q h a' ∧ Below base w w'
theorem sends_ak {own : Nat → Nat} {base : Nat} {w : World} {q : Nat} {h : Hd} {a : Ak} (m : Ms) (H : AkAt own base w q h a) (hB : base ≤ w.heap.size) (hf : Fine m) (hs : a.b.sent ≤ 10000) (hl : a.b.lost ≤ 10000) :
    Calls Tryz.prog 14 #[.pointer (some ⟨q, 0, none⟩), m.val] w (SendsAk base q h { a with b := a.b.send (pkt m) } w) := by
  refine (sends_any (fun k => own k = 3) q h.pb m a.b w (by show ¬ own q = 3; rw [H.hq]; decide) (blk_cell H.head 2) H.bag hf (by omega) (by omega)).mono ?_
  rintro e w' ⟨rfl, h1, h2⟩
  exact ⟨rfl, _, H.upBag hB h1 h2, H.belowOf hB (by decide) h2⟩
end Go.Proofs.YtaelbgjcoakdlaaGreat
