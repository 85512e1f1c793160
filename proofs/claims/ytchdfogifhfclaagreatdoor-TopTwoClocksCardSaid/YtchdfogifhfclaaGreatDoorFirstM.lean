/- The ledger: Append of a record, whatever the record (its contracts are handed in).  The ledger: Append at the three records; Book.  The grantor: first, of a list of questions. -/
import Derived.Test.YtchdfogifhfclaaGreatDoorBkkM
import Derived.Test.YtchdfogifhfclaaGreatDoorClashM
namespace Go.Proofs.YtchdfogifhfclaaGreatDoor
open Go.RowKit

def ledI (d n : Nat) (next longest : Int) (gs : Value) : Array Value := #[.pointer (some ⟨d, 0, none⟩), .int .i64 1, .int .i64 0, .int .i64 (n : Int), .int .i64 (n : Int), .int .i64 next, .int .i64 0, .int .i64 longest, gs, .bool false]
/-- A ledger at p of n records, all in blocks of F. -/
structure LedAt (F : Nat → Prop) (p d s n : Nat) (next longest : Int) (o : Option Gr) (w : World) : Prop where
  head : ∃ gs, w.heap[p]? = some (.cells (ledI d n next longest gs) 75 (0, 0)) ∧ GsV (fun k => F k ∧ k ≠ p ∧ ¬ Fd d s k) w gs o
  disk : DiskOk w d s (1 + n)
  own : F p ∧ F d ∧ F s
  n : n ≤ 3
theorem LedAt.keep {F : Nat → Prop} {p d s n : Nat} {next longest : Int} {o : Option Gr} {w w' : World} (h : LedAt F p d s n next longest o w) (hk : ∀ k, k < w.heap.size → F k → w'.heap[k]? = w.heap[k]?) (hs : w.heap.size ≤ w'.heap.size) : LedAt F p d s n next longest o w' := by
  obtain ⟨⟨gs, h1, h2⟩, h3, h4, h5⟩ := h
  exact ⟨⟨gs, (hk _ (lt_of_heap h1) h4.1).trans h1, h2.keep (fun k hk2 hf => hk k hk2 hf.1) hs⟩, h3.keep (hk _ h3.lt.1 h4.2.1) (hk _ h3.lt.2 h4.2.2), h4, h5⟩
theorem LedAt.below {F : Nat → Prop} {p d s n : Nat} {next longest : Int} {o : Option Gr} {w w' : World} (h : LedAt F p d s n next longest o w) (hb : Below w.heap.size w w') : LedAt F p d s n next longest o w' := h.keep (fun k hk _ => hb.block k hk) hb.size
theorem LedAt.mono {F F' : Nat → Prop} {p d s n : Nat} {next longest : Int} {o : Option Gr} {w : World} (h : LedAt F p d s n next longest o w) (hF : ∀ k, k < w.heap.size → F k → F' k) : LedAt F' p d s n next longest o w := by
  obtain ⟨⟨gs, h1, h2⟩, h3, h4, h5⟩ := h
  exact ⟨⟨gs, h1, h2.mono (fun k hk hf => ⟨hF k hk hf.1, hf.2⟩)⟩, h3, ⟨hF _ (lt_of_heap h1) h4.1, hF _ h3.lt.1 h4.2.1, hF _ h3.lt.2 h4.2.2⟩, h5⟩
def AppPost (F : Nat → Prop) (p d s n : Nat) (next longest : Int) (o : Option Gr) (w : World) (e : Ending) (w' : World) : Prop := e = .returned (.int .i64 0) ∧ LedAt (Up F w) p d s n next longest o w' ∧ Mod F w w'
theorem cells_alloc {w : World} {b : Nat} {cs : Array Value} (h : ∀ i, w.cell? ⟨b, i, none⟩ = cs[i]?) (hb : b < w.heap.size) (o : Obj) : ∀ i, (w.alloc o).cell? ⟨b, i, none⟩ = cs[i]? := fun i => (World.cell?_alloc_lt _ _ _ hb).trans (h i)
theorem cells_drew {w : World} {b : Nat} {cs : Array Value} (h : ∀ i, w.cell? ⟨b, i, none⟩ = cs[i]?) : ∀ i, w.drew.cell? ⟨b, i, none⟩ = cs[i]? := h
theorem cells_set {w : World} {b : Nat} {cs : Array Value} (h : ∀ i, w.cell? ⟨b, i, none⟩ = cs[i]?) (q : Addr) (v : Value) (hb : b ≠ q.block) : ∀ i, (w.setCell q v).cell? ⟨b, i, none⟩ = cs[i]? := fun i => (World.cell?_setCell_other _ _ _ _ (fun e => hb (by rw [e]))).trans (h i)
theorem ledI_eq {d n : Nat} {next longest : Int} {gs : Value} (h : 0 ≤ next ∧ 0 ≤ longest) : ledI d n next longest gs = ledC d 1 n n next.toNat longest.toNat gs := by
  unfold ledI ledC
  rw [Int.toNat_of_nonneg h.1, Int.toNat_of_nonneg h.2]
  rfl
theorem put_app {p d s n : Nat} {next longest : Int} {gs : Value} {D : Nat → Prop} {b o m c : Nat} {l : List UInt8} {w : World} (h : w.heap[p]? = some (.cells (ledI d n next longest gs) 75 (0, 0))) (hnn : 0 ≤ next ∧ 0 ≤ longest) (hd : DiskOk w d s (1 + n)) (hn : n ≤ 2) (hm : 1 ≤ m ∧ m ≤ 47) (hmc : m ≤ c) (hb : BytesV D w (.slice (some ⟨b, o, none⟩) m c) l) :
    Calls Tryz.prog 94 #[.pointer (some ⟨p, 0, none⟩), .int .i64 (1 + (n : Int)), .int .i64 1, .int .i64 (n : Int), .slice (some ⟨b, o, none⟩) m c] w (WrOk d s (1 + n) w) := by
  rw [ledI_eq hnn] at h
  have := ledPut_any p d s (1 + n) n 1 n n next.toNat longest.toNat gs (1 + n) D b o m c l w h hd (by omega) (by omega) (by omega) hm hmc hb
  rw [show ((1 + n : Nat) : Int) = 1 + (n : Int) by omega] at this
  exact this
/-- Behind Apply: the next book in a block of its own. -/
structure AppS (w w0 : World) (p nb : Nat) (pc rc : Array Value) (next' longest' : Int) (v : Value) (o' : Option Gr) (w3 : World) : Prop where
  hb : w3.heap[nb]? = some (.cells (bC next' longest' v) 72 (0, 0))
  h0 : w3.heap[w.heap.size]? = some (.cells rc 98 (0, 0))
  h1 : w3.heap[p]? = some (.cells pc 75 (0, 0))
  gs : GsV (fun k => w0.heap.size ≤ k) w3 v o'
  b : Below w0.heap.size w0 w3
  nb : w0.heap.size ≤ nb
theorem AppS.below {w w0 w3 w4 : World} {p nb : Nat} {pc rc : Array Value} {next' longest' : Int} {v : Value} {o' : Option Gr} (h : AppS w w0 p nb pc rc next' longest' v o' w3) (hb : Below w3.heap.size w3 w4) : AppS w w0 p nb pc rc next' longest' v o' w4 :=
  ⟨(hb.block _ (lt_of_heap h.hb)).trans h.hb, (hb.block _ (lt_of_heap h.h0)).trans h.h0, (hb.block _ (lt_of_heap h.h1)).trans h.h1, h.gs.below hb, h.b.trans (hb.mono h.b.size), h.nb⟩
theorem AppS.one {w w0 w2 : World} {p : Nat} {pc rc : Array Value} {next' longest' : Int} {a : Option Addr} {n c : Nat} {o' : Option Gr} (h0 : w0.heap[w.heap.size]? = some (.cells rc 98 (0, 0))) (h1 : w0.heap[p]? = some (.cells pc 75 (0, 0))) (hb : Below w0.heap.size w0 w2) (hg : GsV (fun k => w0.heap.size ≤ k) w2 (.slice a n c) o') :
    AppS w w0 p w2.heap.size pc rc next' longest' (.slice a n c) o' (w2.alloc (.cells (bC next' longest' (.slice a n c)) 72)) :=
  have hs : Below w2.heap.size w2 (w2.alloc (.cells (bC next' longest' (.slice a n c)) 72)) := (Below.refl _ _).alloc (Nat.le_refl _) _
  ⟨heap_at _ _ _ rfl, (heap_past _ _ _ (Nat.lt_of_lt_of_le (lt_of_heap h0) hb.size)).trans ((hb.block _ (lt_of_heap h0)).trans h0), (heap_past _ _ _ (Nat.lt_of_lt_of_le (lt_of_heap h1) hb.size)).trans ((hb.block _ (lt_of_heap h1)).trans h1), hg.below hs, hb.alloc hb.size _, hb.size⟩
theorem AppS.two {w w0 w2 : World} {p : Nat} {pc rc : Array Value} {next' longest' : Int} {a : Option Addr} {n c : Nat} {o' : Option Gr} (h0 : w0.heap[w.heap.size]? = some (.cells rc 98 (0, 0))) (h1 : w0.heap[p]? = some (.cells pc 75 (0, 0))) (hb : Below w0.heap.size w0 w2) (hz : w2.heap[w0.heap.size]? = some (.cells (bC 0 0 (.slice none 0 0)) 72 (0, 0))) (hg : GsV (fun k => w0.heap.size + 1 ≤ k) w2 (.slice a n c) o') :
    AppS w w0 p w0.heap.size pc rc next' longest' (.slice a n c) o' ((((w2.setCell ⟨w0.heap.size, 0, none⟩ (.int .i64 next')).setCell ⟨w0.heap.size, 1, none⟩ (.int .i64 0)).setCell ⟨w0.heap.size, 2, none⟩ (.int .i64 longest')).setCell ⟨w0.heap.size, 3, none⟩ (.slice a n c)) := by
  have l0 := lt_of_heap h0
  have l1 := lt_of_heap h1
  refine ⟨blk_set (blk_set (blk_set (blk_set hz 0 _) 1 _) 2 _) 3 _, ?_, ?_, ?_, ?_, Nat.le_refl _⟩
  · exact blk_far (blk_far (blk_far (blk_far ((hb.block _ l0).trans h0) (by show _ ≠ w0.heap.size; omega) _) (by show _ ≠ w0.heap.size; omega) _) (by show _ ≠ w0.heap.size; omega) _) (by show _ ≠ w0.heap.size; omega) _
  · exact blk_far (blk_far (blk_far (blk_far ((hb.block _ l1).trans h1) (by show _ ≠ w0.heap.size; omega) _) (by show _ ≠ w0.heap.size; omega) _) (by show _ ≠ w0.heap.size; omega) _) (by show _ ≠ w0.heap.size; omega) _
  · refine (hg.keep (fun k hk hd => ?_) (by simp [World.setCell])).mono (fun k _ hd => by show w0.heap.size ≤ k; have : w0.heap.size + 1 ≤ k := hd; omega)
    have hd : w0.heap.size + 1 ≤ k := hd
    rw [Below.heap_setCell _ _ _ _ (by show k ≠ w0.heap.size; omega), Below.heap_setCell _ _ _ _ (by show k ≠ w0.heap.size; omega), Below.heap_setCell _ _ _ _ (by show k ≠ w0.heap.size; omega), Below.heap_setCell _ _ _ _ (by show k ≠ w0.heap.size; omega)]
  · exact (((hb.setCell (p := ⟨w0.heap.size, 0, none⟩) (Nat.le_refl _) _).setCell (p := ⟨w0.heap.size, 1, none⟩) (Nat.le_refl _) _).setCell (p := ⟨w0.heap.size, 2, none⟩) (Nat.le_refl _) _).setCell (p := ⟨w0.heap.size, 3, none⟩) (Nat.le_refl _) _
theorem app_end {F : Nat → Prop} {p d s n : Nat} {next longest next' longest' : Int} {gs : Value} {a : Option Addr} {gn gc : Nat} {o' : Option Gr} {w w4 w8 : World} (hb : Below w.heap.size w w4) (hg : GsV (fun k => w.heap.size ≤ k) w4 (.slice a gn gc) o') (hown : F p ∧ F d ∧ F s) (hlt : p < w.heap.size) (hd : d < w.heap.size ∧ s < w.heap.size) (hnf : ¬ Fd d s p) (hn : n ≤ 2)
    (hp8 : w8.heap[p]? = some (.cells #[.pointer (some ⟨d, 0, none⟩), .int .i64 1, .int .i64 0, .int .i64 ((n : Int) + 1), .int .i64 ((n : Int) + 1), .int .i64 next, .int .i64 0, .int .i64 longest, gs, .bool false] 75 (0, 0))) (hm8 : Mod (fun k => k = p ∨ Fd d s k) w4 w8) (hd8 : DiskOk w8 d s (1 + n + 1)) :
    AppPost F p d s (n + 1) next' longest' o' w (.returned (.int .i64 0)) ((((w8.setCell ⟨p, 5, none⟩ (.int .i64 next')).setCell ⟨p, 6, none⟩ (.int .i64 0)).setCell ⟨p, 7, none⟩ (.int .i64 longest')).setCell ⟨p, 8, none⟩ (.slice a gn gc)) := by
  have hF : ∀ k, k = p ∨ Fd d s k → F k := by
    rintro k (rfl | rfl | rfl)
    · exact hown.1
    · exact hown.2.1
    · exact hown.2.2
  have hdp : d ≠ p := fun e => hnf (.inl e.symm)
  have hsp : s ≠ p := fun e => hnf (.inr e.symm)
  have hset : ∀ k, k ≠ p → ((((w8.setCell ⟨p, 5, none⟩ (.int .i64 next')).setCell ⟨p, 6, none⟩ (.int .i64 0)).setCell ⟨p, 7, none⟩ (.int .i64 longest')).setCell ⟨p, 8, none⟩ (.slice a gn gc)).heap[k]? = w8.heap[k]? := fun k hk => by
    rw [Below.heap_setCell _ _ _ _ hk, Below.heap_setCell _ _ _ _ hk, Below.heap_setCell _ _ _ _ hk, Below.heap_setCell _ _ _ _ hk]
  have hm4 : Mod F w4 w8 := hm8.mono (fun k _ h => hF k h)
  have hmw : Mod F w ((((w8.setCell ⟨p, 5, none⟩ (.int .i64 next')).setCell ⟨p, 6, none⟩ (.int .i64 0)).setCell ⟨p, 7, none⟩ (.int .i64 longest')).setCell ⟨p, 8, none⟩ (.slice a gn gc)) :=
    (((((Mod.of_below (F := F) hb).trans hm4 (fun _ _ h => h)).setCell (p := ⟨p, 5, none⟩) (fun _ => hown.1) _).setCell (p := ⟨p, 6, none⟩) (fun _ => hown.1) _).setCell (p := ⟨p, 7, none⟩) (fun _ => hown.1) _).setCell (p := ⟨p, 8, none⟩) (fun _ => hown.1) _
  refine ⟨rfl, ⟨⟨.slice a gn gc, ?_, ?_⟩, ?_, ⟨.inl hown.1, .inl hown.2.1, .inl hown.2.2⟩, by omega⟩, hmw⟩
  · have h := blk_set (blk_set (blk_set (blk_set hp8 5 (.int .i64 next')) 6 (.int .i64 0)) 7 (.int .i64 longest')) 8 (.slice a gn gc)
    unfold ledI
    rw [show (((n + 1 : Nat) : Int)) = (n : Int) + 1 by omega]
    exact h
  · refine (hg.keep (fun k hk hk2 => ?_) ?_).mono (fun k hk hk2 => ⟨.inr hk2, ?_, ?_⟩)
    · have hk2 : w.heap.size ≤ k := hk2
      rw [hset k (by omega)]
      exact hm8.block k hk (by rintro (rfl | rfl | rfl) <;> omega)
    · simpa [World.setCell] using hm8.size
    · have hk2 : w.heap.size ≤ k := hk2
      omega
    · have hk2 : w.heap.size ≤ k := hk2
      rintro (rfl | rfl) <;> omega
  · have h := hd8.keep (hset d hdp) (hset s hsp)
    rwa [show 1 + (n + 1) = 1 + n + 1 by omega]
set_option maxRecDepth 100000 in
set_option maxHeartbeats 4000000 in
theorem append_of (F : Nat → Prop) (p d s n : Nat) (next longest : Int) (o : Option Gr) (k id h : Int) (pa : ByteArray) (m : Int) (sa : Option Addr) (sn sc : Nat) (t rid : Int) (ra : Option Addr) (rn rc : Nat) (n2 l2 next' longest' : Int) (o' : Option Gr) (w : World) (hled : LedAt F p d s n next longest o w) (hn : n ≤ 2) (hnn : 0 ≤ next ∧ 0 ≤ longest)
    (happ : ∀ W ga gn gc, Below w.heap.size w W → GsV F W (.slice ga gn gc) o → Calls Tryz.prog 81 #[bV next longest (.slice ga gn gc), .agg (rC k id h pa m (.slice sa sn sc) t rid (.slice ra rn rc) n2 l2)] W (ApplyPost next' longest' o' W))
    (henc : ∀ W, Below w.heap.size w W → Calls Tryz.prog 92 #[.agg (rC k id h pa m (.slice sa sn sc) t rid (.slice ra rn rc) n2 l2)] W (EncPost W)) :
    Calls Tryz.prog 47 #[.pointer (some ⟨p, 0, none⟩), .agg (rC k id h pa m (.slice sa sn sc) t rid (.slice ra rn rc) n2 l2)] w (AppPost F p d s (n + 1) next' longest' o' w) := by
  have HLED := Lib.hid hled
  obtain ⟨⟨gs, hp, hg⟩, hdk, hown, -⟩ := hled
  obtain ⟨ga, gn, gc, rfl⟩ := hg.slice
  have hlt := lt_of_heap hp
  obtain ⟨w0, hw0⟩ : ∃ w0, w0 = w.alloc (.cells (rC k id h pa m (.slice sa sn sc) t rid (.slice ra rn rc) n2 l2) 98) := ⟨_, rfl⟩
  have hB0 : Below w.heap.size w w0 := by rw [hw0]; exact (Below.refl _ _).alloc (Nat.le_refl _) _
  have hx0 : w0.heap[w.heap.size]? = some (.cells (rC k id h pa m (.slice sa sn sc) t rid (.slice ra rn rc) n2 l2) 98 (0, 0)) := by rw [hw0, heap_at _ _ _ rfl]
  have hx1 := (hB0.block p hlt).trans hp
  have HG := Lib.hid (hg.mono (fun k _ hk => hk.1))
  have HB0 := Lib.hid hB0
  have HX0 := Lib.hid hx0
  have HX1 := Lib.hid hx1
  have HA := Lib.hid happ
  have HE := Lib.hid henc
  have HD := Lib.hid hdk
  have HSZ := Lib.hid (show w0.heap.size = w.heap.size + 1 by rw [hw0]; simp)
  have hq0 := lt_of_heap hx0
  have hq1 := lt_of_heap hx1
  have c0 := blk_cell hx0
  have c1 := blk_cell hx1
  have cw := blk_cell hp
  clear happ henc hdk hB0 hx0 hx1 hg hp
  unfold rC at hw0 c0
  unfold ledI at c1 cw
  unfold rC
  go_enter Tryz.func47, Tryz.ntmps47
  go_wp2_with fail
  rw [← hw0]
  clear hw0 cw
  go_region_held_law (fun u => (∀ i, u.cell? ⟨p, i, none⟩ = #[.pointer (some ⟨d, 0, none⟩), .int .i64 1, .int .i64 0, .int .i64 (n : Int), .int .i64 (n : Int), .int .i64 next, .int .i64 0, .int .i64 longest, .slice ga gn gc, .bool false][i]?) ∧ (∀ i, u.cell? ⟨w.heap.size, i, none⟩ = #[.int .i64 k, .int .i64 id, .int .i64 h, .string pa, .int .i64 m, .slice sa sn sc, .int .i64 t, .int .i64 rid, .slice ra rn rc, .int .i64 n2, .int .i64 0, .int .i64 l2][i]?)) ((go_split_ands; refine ⟨?_, ?_⟩ <;> (repeat (first | (with_reducible assumption) | (with_reducible refine cells_drew ?_) | ((with_reducible refine cells_set ?_ _ _ ?_); rotate_left; (dsimp only; omega)) | (with_reducible refine cells_alloc ?_ (by first | assumption | omega) _))))) (first
    | (go_simp; go_at_call 81; (refine (HA.out _ ga gn gc (by first | exact HB0.out.trans ((Ck8.below_drew w0).mono HB0.out.size) | exact (HB0.out.trans ((Ck8.below_drew w0).mono HB0.out.size)).alloc (by have := HSZ.out; show _ ≤ w0.heap.size; omega) _) (by first | exact (HG.out.below HB0.out).below (Ck8.below_drew w0) | exact (((HG.out.below HB0.out).below (Ck8.below_drew w0))).below ((Below.refl _ _).alloc (Nat.le_refl _) _))).mono ?_); rintro e w2 ⟨xa, xn, xc, rfl, hgs2, hb2⟩; have HGS2 := Lib.hid hgs2; first
        | (have hchk : Below w0.drew.heap.size w0.drew w2 := hb2; have q0 := blk_cell ((hchk.block _ (lt_of_heap HX0.out)).trans HX0.out); have q1 := blk_cell ((hchk.block _ (lt_of_heap HX1.out)).trans HX1.out); have q2 : w0.heap.size ≤ w2.heap.size := hchk.size; have HB2 := Lib.hid (below_step (Ck8.below_drew w0) hchk); clear hb2 hgs2 hchk; unfold rC at q0; unfold ledI at q1; unfold bV)
        | (have hchk : Below (w0.drew.alloc (.cells #[.int .i64 0, .int .i64 0, .int .i64 0, .slice none 0 0] 72)).heap.size (w0.drew.alloc (.cells #[.int .i64 0, .int .i64 0, .int .i64 0, .slice none 0 0] 72)) w2 := hb2; have HB2 := Lib.hid (below_step (Ck8.below_drew w0) (below_step ((Below.refl w0.drew.heap.size w0.drew).alloc (Nat.le_refl _) _) hchk)); have hz := (hchk.block w0.heap.size (by simp)).trans (heap_at w0.drew _ w0.heap.size rfl); have z0 := blk_cell hz; have zf := blk_free hz; have HZ := Lib.hid hz; have q0 := blk_cell ((HB2.out.block _ (lt_of_heap HX0.out)).trans HX0.out); have q1 := blk_cell ((HB2.out.block _ (lt_of_heap HX1.out)).trans HX1.out); have q2 : w0.heap.size ≤ w2.heap.size := HB2.out.size; clear hb2 hgs2 hchk hz; unfold rC at q0; unfold ledI at q1; unfold bV)))
  all_goals first
    | (obtain ⟨nb, hnb⟩ : ∃ nb, nb = w2.heap.size := ⟨_, rfl⟩; obtain ⟨w3, hw3⟩ : ∃ w3, w3 = w2.alloc (.cells (bC next' longest' (.slice xa xn xc)) 72) := ⟨_, rfl⟩; have HS3 := Lib.hid (show AppS w w0 p nb _ _ next' longest' (.slice xa xn xc) o' w3 by rw [hw3, hnb]; exact AppS.one HX0.out HX1.out HB2.out (HGS2.out.mono (fun _ _ h => h))); unfold bC at hw3; (rw [← hw3, ← hnb]); clear HZ)
    | (obtain ⟨nb, hnb⟩ : ∃ nb, nb = w0.heap.size := ⟨_, rfl⟩; obtain ⟨w3, hw3⟩ : ∃ w3, w3 = (((w2.setCell ⟨w0.heap.size, 0, none⟩ (.int .i64 next')).setCell ⟨w0.heap.size, 1, none⟩ (.int .i64 0)).setCell ⟨w0.heap.size, 2, none⟩ (.int .i64 longest')).setCell ⟨w0.heap.size, 3, none⟩ (.slice xa xn xc) := ⟨_, rfl⟩; have HS3 := Lib.hid (show AppS w w0 p nb _ _ next' longest' (.slice xa xn xc) o' w3 by rw [hw3, hnb]; exact AppS.two HX0.out HX1.out HB2.out HZ.out (HGS2.out.mono (fun k _ hk => by simpa using hk))); rw [← hw3, ← hnb])
    | (obtain ⟨nb, hnb⟩ : ∃ nb, nb = w2.heap.size := ⟨_, rfl⟩; obtain ⟨w3, hw3⟩ : ∃ w3, w3 = w2.alloc (.cells (bC next' longest' (.slice xa xn xc)) 72) := ⟨_, rfl⟩; have HS3 := Lib.hid (show AppS w w0 p nb _ _ next' longest' (.slice xa xn xc) o' w3 by rw [hw3, hnb]; exact AppS.one HX0.out HX1.out HB2.out (HGS2.out.mono (fun _ _ h => h))); unfold bC at hw3; rw [← hw3, ← hnb])
  all_goals
    have c0 := blk_cell HS3.out.h0
    have c1 := blk_cell HS3.out.h1
    clear q0 q1 q2 HB2 HGS2 hw3 hnb
    unfold rC at c0
    unfold ledI at c1
    go_wp2_with fail
    refine (HE.out _ (HB0.out.trans (HS3.out.b.mono HB0.out.size))).mono ?_
    rintro e w4 ⟨eb, eo, em, ec, el, rfl, hem, hec, hbv, hb4⟩
    have HS4 := Lib.hid (HS3.out.below hb4)
    have HBV := Lib.hid hbv
    have HEM := Lib.hid hem
    have HEC := Lib.hid hec
    have c1 := blk_cell HS4.out.h1
    have hD4 : DiskOk w4 d s (1 + n) := HD.out.below ((HB0.out.trans (HS3.out.b.mono HB0.out.size)).trans (hb4.mono (by have := HB0.out.size; have := HS3.out.b.size; omega)))
    have HD4 := Lib.hid hD4
    clear hb4 hbv hem hec c0 hD4 HS3
    unfold ledI at c1
    go_wp2_with fail
    have a1 : IntKind.i64.wrap ((n : Int) + 1) = (n : Int) + 1 := by rw [IntKind.wrap_i64]; omega
    have a2 : decide (24 < (n : Int) + 1) = false := decide_eq_false (by omega)
    go_quiet ((go_at_call 82; exact quiet_eq (width_any em HEM.out _)))
    obtain ⟨n1, rfl⟩ : ∃ n1 : Nat, n1 = nq := ⟨_, rfl⟩
    go_wp2_with fail
    have a3 : IntKind.i64.wrap (1 + (n : Int)) = 1 + (n : Int) := by rw [IntKind.wrap_i64]; omega
    have hput := fun q => put_app (w := w4.drewN q) HS4.out.h1 hnn (HD4.out.keep rfl rfl) hn HEM.out HEC.out (HBV.out.keep (fun _ _ _ => rfl) (Nat.le_refl _))
    have HPUT := Lib.hid hput
    have hnf : ¬ Fd d s p := HD4.out.apart (c1 0) (by simp) (fun x => by simp [B8])
    have HNF := Lib.hid hnf
    have hlt4 := lt_of_heap HS4.out.h1
    clear hput hnf
    go_region_held_law (fun u => ∀ i, u.cell? ⟨p, i, none⟩ = #[.pointer (some ⟨d, 0, none⟩), .int .i64 1, .int .i64 0, .int .i64 (n : Int), .int .i64 (n : Int), .int .i64 next, .int .i64 0, .int .i64 longest, .slice ga gn gc, .bool false][i]?) (first | (with_reducible assumption) | exact c1) (first
      | (go_at_call 95; (refine (first_any _).mono ?_); rintro e w5 ⟨rfl, rfl⟩)
      | (go_at_call 94; (refine (HPUT.out _).mono ?_); rintro e w6 ⟨rfl, hd6, hm6⟩; have r1 : ∀ i, w6.cell? ⟨p, i, none⟩ = _ := fun i => (hm6.cell (p := ⟨p, i, none⟩) hlt4 HNF.out).trans (c1 i); have HD6 := Lib.hid hd6; have HM6 := Lib.hid hm6; clear hd6 hm6))
    have hp6 := (HM6.out.block p hlt4 HNF.out).trans HS4.out.h1
    have hs6 : AppS w w0 p nb (ledI d n next longest (.slice ga gn gc)) (rC k id h pa m (.slice sa sn sc) t rid (.slice ra rn rc) n2 l2) next' longest' (.slice xa xn xc) o' w4 := HS4.out
    have HP6 := Lib.hid hp6
    have s1 := blk_cell hp6
    have sf := blk_free hp6
    clear hp6 hs6 r1 c1
    unfold ledI at s1
    go_wp2_with fail
    have hnbF : ¬ Fd d s nb := HD4.out.apart (blk_cell HS4.out.hb 0) (by simp [bC]) (fun x => by simp [bC, B8])
    have hnb6 := (HM6.out.block nb (lt_of_heap HS4.out.hb) hnbF).trans HS4.out.hb
    have hpw := hlt
    have hnbp : nb ≠ p := by have := HS4.out.nb; have := HSZ.out; omega
    obtain ⟨w7, hw7⟩ : ∃ w7, w7 = w6.setCell ⟨p, 3, none⟩ (.int .i64 ((n : Int) + 1)) := ⟨_, rfl⟩
    rw [← hw7]
    have hp7 : w7.heap[p]? = some (.cells #[.pointer (some ⟨d, 0, none⟩), .int .i64 1, .int .i64 0, .int .i64 ((n : Int) + 1), .int .i64 (n : Int), .int .i64 next, .int .i64 0, .int .i64 longest, .slice ga gn gc, .bool false] 75 (0, 0)) := by rw [hw7]; exact blk_set HP6.out 3 _
    have hnb7 : w7.heap[nb]? = some (.cells (bC next' longest' (.slice xa xn xc)) 72 (0, 0)) := by rw [hw7]; exact blk_far hnb6 hnbp _
    have hm7 : Mod (fun k => k = p ∨ Fd d s k) w4 w7 := by
      rw [hw7]
      exact (((Mod.refl (fun k => k = p ∨ Fd d s k) w4).drewN _).trans HM6.out (fun k _ h => .inr h)).setCell (p := ⟨p, 3, none⟩) (fun _ => .inl rfl) _
    have hd7 : DiskOk w7 d s (1 + n + 1) := by
      rw [hw7]
      have h1 := HNF.out
      exact HD6.out.keep (Below.heap_setCell _ _ _ _ (by show d ≠ p; intro e; exact h1 (.inl e.symm))) (Below.heap_setCell _ _ _ _ (by show s ≠ p; intro e; exact h1 (.inr e.symm)))
    have HP7 := Lib.hid hp7
    have HNB7 := Lib.hid hnb7
    have HM7 := Lib.hid hm7
    have HD7 := Lib.hid hd7
    have t1 := blk_cell hp7
    have tf := blk_free hp7
    clear hnbF hnb6 hw7 hp7 hnb7 hm7 hd7 s1 sf HM6 HD6 HP6
    go_region_with (go_at_call 82; (refine (width_any em HEM.out _).mono ?_); rintro e w8 ⟨rfl, rfl⟩)
    all_goals
      obtain ⟨w8, hw8⟩ : ∃ w8, w8 = (w7.setCell ⟨p, 4, none⟩ (.int .i64 ((n : Int) + 1))).drew := ⟨_, rfl⟩
      rw [← hw8]
      have hp8 : w8.heap[p]? = some (.cells #[.pointer (some ⟨d, 0, none⟩), .int .i64 1, .int .i64 0, .int .i64 ((n : Int) + 1), .int .i64 ((n : Int) + 1), .int .i64 next, .int .i64 0, .int .i64 longest, .slice ga gn gc, .bool false] 75 (0, 0)) := by rw [hw8]; exact blk_set HP7.out 4 _
      have hnb8 : w8.heap[nb]? = some (.cells (bC next' longest' (.slice xa xn xc)) 72 (0, 0)) := by rw [hw8]; exact blk_far HNB7.out hnbp _
      have hm8 : Mod (fun k => k = p ∨ Fd d s k) w4 w8 := by rw [hw8]; exact (HM7.out.setCell (p := ⟨p, 4, none⟩) (fun _ => .inl rfl) _).drew
      have hd8 : DiskOk w8 d s (1 + n + 1) := by
        rw [hw8]
        have h1 := HNF.out
        exact HD7.out.keep (Below.heap_setCell _ _ _ _ (by show d ≠ p; intro e; exact h1 (.inl e.symm))) (Below.heap_setCell _ _ _ _ (by show s ≠ p; intro e; exact h1 (.inr e.symm)))
      have HP8 := Lib.hid hp8
      have HM8 := Lib.hid hm8
      have HD8 := Lib.hid hd8
      have v1 := blk_cell hp8
      have vf := blk_free hp8
      have b1 := blk_cell hnb8
      clear hw8 hp8 hnb8 hm8 hd8 t1 tf
      unfold bC at b1
      go_wp2_with fail
      go_ret
      exact app_end ((HB0.out.trans (HS4.out.b.mono HB0.out.size))) (HS4.out.gs.mono (fun k _ hk => Nat.le_trans HB0.out.size hk)) hown hlt HD.out.lt HNF.out hn HP8.out HM8.out HD8.out
end Go.Proofs.YtchdfogifhfclaaGreatDoor
namespace Go.Proofs.YtchdfogifhfclaaGreatDoor
open Go.RowKit

theorem append_long (F : Nat → Prop) (p d s : Nat) (t : Int) (w : World) (h : LedAt F p d s 0 1 0 none w) (ht : 4 ≤ t ∧ t ≤ 1048576) : Calls Tryz.prog 47 #[.pointer (some ⟨p, 0, none⟩), recLong t] w (AppPost F p d s 1 1 t none w) :=
  append_of F p d s 0 1 0 none 2 0 0 estr 0 none 0 0 0 0 none 0 0 0 t 1 t none w h (by omega) (by omega) (fun W ga gn gc _ hg => by
    have e : Value.slice ga gn gc = .slice none 0 0 := hg
    rw [e]; exact apply_long t W ht) (fun W _ => encode_long t W ht)
theorem append_grant (F D : Nat → Prop) (p d s n : Nat) (longest : Int) (g : Gr) (sv : Value) (w : World) (h : LedAt F p d s n 1 longest none w) (hn : n ≤ 2) (hl : longest = 0 ∨ (4 ≤ longest ∧ longest ≤ 1048576)) (hg : g.OK) (h1 : g.s = 1) (hs : Ck8.IntsV D w sv [g.s]) :
    Calls Tryz.prog 47 #[.pointer (some ⟨p, 0, none⟩), recGrant g.p g.m sv g.t] w (AppPost F p d s (n + 1) 2 longest (some g) w) := by
  obtain ⟨sb, so, sc, rfl, _, _, _, _, _⟩ := hs.at_ (j := 0) rfl
  exact append_of F p d s n 1 longest none 4 1 1 g.p g.m (some ⟨sb, so, none⟩) [g.s].length sc g.t 0 none 0 0 0 0 2 longest (some g) w h hn (by omega) (fun W ga gn gc hb hgs => by
    have e : Value.slice ga gn gc = .slice none 0 0 := hgs
    rw [e]; exact apply_grant D longest g _ W hl hg h1 (hs.below hb)) (fun W hb => encode_grant D g _ W hg h1 (hs.below hb))
theorem append_fresh (F D : Nat → Prop) (p d s n : Nat) (longest : Int) (pa : ByteArray) (m t : Int) (sv : Value) (w : World) (h : LedAt F p d s n 2 longest (some ⟨pa, m, 1, t⟩) w) (hn : n ≤ 2) (hl : 4 ≤ longest ∧ longest ≤ 1048576) (hg : (Gr.mk pa m 1 t).OK) (hs : Ck8.IntsV D w sv [2]) :
    Calls Tryz.prog 47 #[.pointer (some ⟨p, 0, none⟩), recFresh sv] w (AppPost F p d s (n + 1) 3 longest (some ⟨pa, m, 2, t⟩) w) := by
  obtain ⟨sb, so, sc, rfl, _, _, _, _, _⟩ := hs.at_ (j := 0) rfl
  exact append_of F p d s n 2 longest (some ⟨pa, m, 1, t⟩) 5 0 0 estr 0 none 0 0 0 1 (some ⟨sb, so, none⟩) [(2 : Int)].length sc 0 0 3 longest (some ⟨pa, m, 2, t⟩) w h hn (by omega) (fun W ga gn gc hb hgs => apply_fresh D F longest pa m t _ _ W hl hg hgs (hs.below hb)) (fun W hb => encode_fresh D _ W (hs.below hb))
def BookPost (next longest : Int) (o : Option Gr) (w : World) (e : Ending) (w' : World) : Prop := ∃ gs, e = .returned (bV next longest gs) ∧ GsV (fun k => w.heap.size ≤ k) w' gs o ∧ Below w.heap.size w w'
set_option maxRecDepth 100000 in
set_option maxHeartbeats 1000000 in
theorem ledBook_none (F : Nat → Prop) (p d s n : Nat) (next longest : Int) (w : World) (h : LedAt F p d s n next longest none w) : Calls Tryz.prog 26 #[.pointer (some ⟨p, 0, none⟩)] w (BookPost next longest none w) := by
  obtain ⟨⟨gs, hp, hg⟩, -, -, -⟩ := h
  have e : gs = .slice none 0 0 := hg
  subst e
  have hlt := lt_of_heap hp
  have c := blk_cell hp
  clear hp hg
  unfold ledI at c
  go_enter Tryz.func26, Tryz.ntmps26
  go_wp2_with fail
  refine wp_loop_rounds 1 ?_
  rw [rounds_succ]
  go_wp2_with fail
  refine bodyPost_ret (v := .agg #[.int .i64 next, .int .i64 0, .int .i64 longest, .slice none 0 0]) (by simp [results, Tryz.results26, go_sem]) rfl ⟨_, rfl, rfl, ?_⟩
  exact ((Below.refl _ _).alloc (Nat.le_refl _) _).alloc (by simp) _
set_option maxRecDepth 100000 in
set_option maxHeartbeats 2000000 in
theorem ledBook_some (F : Nat → Prop) (p d s n : Nat) (next longest : Int) (g : Gr) (w : World) (h : LedAt F p d s n next longest (some g) w) : Calls Tryz.prog 26 #[.pointer (some ⟨p, 0, none⟩)] w (BookPost next longest (some g) w) := by
  obtain ⟨iG, hiG, hz0, hz1, hz2⟩ := info_parts Tryz.infoG
  obtain ⟨i3, hi3, hy0, hy1, hy2⟩ := info_parts Ck8.Tryz.info3
  obtain ⟨⟨gs, hp, hg⟩, -, -, -⟩ := h
  obtain ⟨b, c, sv, rfl, hc1, hc2, hD, hb, hcell, hfr, hiv⟩ := hg
  obtain ⟨sb, so, sc, rfl, _, _, _, _, _⟩ := hiv.at_ (j := 0) rfl
  have k0 := hcell 0 (by omega)
  have k1 := hcell 1 (by omega)
  have k2 := hcell 2 (by omega)
  have k3 := hcell 3 (by omega)
  have k4 := hcell 4 (by omega)
  have k5 := hcell 5 (by omega)
  obtain ⟨pa, m, st, t⟩ := g
  simp only at k0 k1 k2 k3 k4 k5 hiv
  have hlt := lt_of_heap hp
  have pc := blk_cell hp
  obtain ⟨w0, hw0⟩ : ∃ w0, w0 = ((w.alloc (.cells (bC 0 0 (.slice none 0 0)) 72)).alloc (.cells (bC next longest (.slice none 0 0)) 72)).alloc (.cells (gC 1 1 pa m (.slice (some ⟨sb, so, none⟩) 1 sc) t) 45) := ⟨_, rfl⟩
  have hB0 : Below w.heap.size w w0 := by rw [hw0]; exact (((Below.refl _ _).alloc (Nat.le_refl _) _).alloc (by simp) _).alloc (by simp; omega) _
  have hx1 : w0.heap[w.heap.size]? = some (.cells (bC 0 0 (.slice none 0 0)) 72 (0, 0)) := by rw [hw0, heap_past _ _ _ (by simp; omega), heap_past _ _ _ (by simp), heap_at _ _ _ rfl]
  have hx2 : w0.heap[w.heap.size + 1]? = some (.cells (bC next longest (.slice none 0 0)) 72 (0, 0)) := by rw [hw0, heap_past _ _ _ (by simp), heap_at _ _ _ (by simp)]
  have hx3 : w0.heap[w.heap.size + 2]? = some (.cells (gC 1 1 pa m (.slice (some ⟨sb, so, none⟩) 1 sc) t) 45 (0, 0)) := by rw [hw0, heap_at _ _ _ (by simp)]
  have HB0 := Lib.hid hB0
  have HX1 := Lib.hid hx1
  have HX2 := Lib.hid hx2
  have HX3 := Lib.hid hx3
  have HIV := Lib.hid (hiv.below hB0)
  have HS0 := Lib.hid (show w0.heap.size = w.heap.size + 3 by rw [hw0]; simp)
  clear hB0 hx1 hx2 hcell hfr hiv hD hp
  have g4 := blk_cell hx3 4
  clear hx3
  unfold gC bC at hw0
  unfold gC at k0 k1 k2 k3 k4 k5 g4
  unfold ledI at pc
  go_enter Tryz.func26, Tryz.ntmps26
  go_wp2_with fail
  refine wp_loop_rounds 2 ?_
  rw [rounds_succ]
  go_upto_region 8 with fail
  rw [← hw0]
  clear hw0 k0 k1 k2 k3 k4 k5 pc
  go_upto_region 8 with fail
  go_wp2_with (first
    | (at_builtin; refine Ck8.wpList_append_ints rfl (.const (.slice none 0 0)) (.tmp 25) _ rfl w0.heap.size 3 i3 Tryz.underlying43 hi3 hy0 hy1 hy2 (.slice none 0 0) 0 [] rfl (World.ownsRow_nil _ _ _ _) _ (.slice (some ⟨sb, so, none⟩) 1 sc) [st] rfl HIV.out (by simp) (Nat.le_refl _) ?_; intro v1 w1 hown1 hgrow1 hat1; have HV := Lib.hid hown1; (obtain ⟨va, vc, rfl⟩ := own_slice hown1); have HB1 := Lib.hid ((Below.refl w0.heap.size w0).grown hgrow1 (Nat.le_refl _) (by intro k hk; simp [Value.ownBlock] at hk)); have HY1 := Lib.hid ((HB1.out.block _ (lt_of_heap HX1.out)).trans HX1.out); have HY2 := Lib.hid ((HB1.out.block _ (lt_of_heap HX2.out)).trans HX2.out); have hy3 := (HB1.out.block _ (lt_of_heap HX3.out)).trans HX3.out; have j4 := blk_cell hy3 4; have jf := blk_free hy3 4; have HY3 := Lib.hid hy3; have b0 := blk_cell HY2.out; have bf := blk_free HY2.out; have HL := Lib.hid (show (w1.setCell ⟨w.heap.size + 2, 4, none⟩ (.slice va 1 vc)).heap[w.heap.size + 2]? = some (.cells (gC 1 1 pa m (.slice va 1 vc) t) 45 (0, 0)) from blk_set hy3 4 _); clear hy3 hown1 hgrow1 hat1; unfold gC at j4; unfold bC at b0)
    | (refine wpList_load_row rfl 45 (.tmp 5) rfl (w.heap.size + 1 + 1) rfl 45 (gC 1 1 pa m (.slice va 1 vc) t) (0, 0) _ HL.out Tryz.underlying45 rfl (by kernel_rfl) ?_; unfold gC)
    | (at_builtin; refine wpList_append_lies _ rfl (.tmp 29) (.tmp 31) _ rfl (w.heap.size + 3) 45 iG _ 6 72 Tryz.underlying70 hiG hz0 hz1 hz2 rfl (by omega) (.slice none 0 0) 0 [] rfl (World.ownsRow_nil _ _ _ _) ⟨w1.heap.size, 0, none⟩ 1 1 (gC 1 1 pa m (.slice va 1 vc) t).toList rfl rfl (World.news_of_block (heap_at _ (.cells (gC 1 1 pa m (.slice va 1 vc) t) 45) _ (by simp [World.setCell]))) (fun u hu => by have := gC_one 1 1 pa m va 1 vc t; rw [Array.all_eq_true_iff_forall_mem] at this; exact this u (by simpa using hu)) (by omega) (by unfold maxLen; omega) (by omega) (by have := HS0.out; have := HB1.out.size; simp [World.setCell]; omega) _ rfl ?_; intro g6 cap6 w6 hown6 hgrow6 hat6 hlt6; have HOWN := Lib.hid hown6; have HG6 := Lib.hid hgrow6; have hk6 : ∀ k, k < w1.heap.size → k ≠ w.heap.size + 2 → w6.heap[k]? = w1.heap[k]? := (fun k hk hne => (hgrow6.block k (by simp [World.setCell]; omega) (by simp [Value.ownBlock])).trans ((heap_past _ _ _ (by simpa [World.setCell] using hk)).trans (Below.heap_setCell _ _ _ _ hne))); have hz1 := (hk6 _ (lt_of_heap HY1.out) (by omega)).trans HY1.out; have hz2 := (hk6 _ (lt_of_heap HY2.out) (by omega)).trans HY2.out; have HZ1 := Lib.hid hz1; have HZ2 := Lib.hid hz2; have HK6 := Lib.hid hk6; have y3 := blk_cell hz2 3; have yf := blk_free hz2 3; have HL2 := Lib.hid (show (w6.setCell ⟨w.heap.size + 1, 3, none⟩ (.slice (some ⟨g6, 0, none⟩) 1 cap6)).heap[w.heap.size + 1]? = some (.cells (bC next longest (.slice (some ⟨g6, 0, none⟩) 1 cap6)) 72 (0, 0)) from blk_set hz2 3 _); have HL1 := Lib.hid (show (w6.setCell ⟨w.heap.size + 1, 3, none⟩ (.slice (some ⟨g6, 0, none⟩) 1 cap6)).heap[w.heap.size]? = some (.cells (bC 0 0 (.slice none 0 0)) 72 (0, 0)) from blk_far hz1 (by show w.heap.size ≠ w.heap.size + 1; omega) _); clear hown6 hgrow6 hat6 hlt6 hk6 hz1 hz2; unfold bC at y3))
  rw [rounds_succ]
  go_wp2_with (first
    | (refine wpList_load_row rfl 72 (.tmp 3) rfl (w.heap.size + 1) rfl 72 (bC next longest (.slice (some ⟨g6, 0, none⟩) 1 cap6)) (0, 0) _ HL2.out Tryz.underlying72 rfl (by kernel_rfl) ?_)
    | (refine wpList_store_row rfl 72 (.tmp 2) (.tmp 35) rfl w.heap.size (bC next longest (.slice (some ⟨g6, 0, none⟩) 1 cap6)) rfl rfl 72 _ HL1.out (by kernel_rfl) rfl (bC_one _ _ _ _ _) ?_))
  refine bodyPost_ret (v := .agg (bC next longest (.slice (some ⟨g6, 0, none⟩) 1 cap6))) (results_cell_row (fn := Tryz.f26) rfl _ _ w.heap.size 72 (bC next longest (.slice (some ⟨g6, 0, none⟩) 1 cap6)) (0, 0) _ rfl (setRow_heap _ _ _ _ _ _ HL1.out) Tryz.underlying72 rfl (by kernel_rfl)) rfl ⟨_, rfl, ?_, ?_⟩
  · have h1 : Ck8.IntsV (fun k => w0.heap.size ≤ k) w1 (.slice va 1 vc) [st] := Ck8.IntsV.of_own (base := w0.heap.size) (by simpa using HV.out)
    have hs0 := HS0.out
    have h2 : Ck8.IntsV (fun k => w.heap.size + 3 ≤ k) w6 (.slice va 1 vc) [st] := (h1.keep (fun k hk hd => HK6.out k hk (by have : w0.heap.size ≤ k := hd; omega)) (by have := HG6.out.size; simp [World.setCell] at this; omega)).mono (fun k _ hd => by have : w0.heap.size ≤ k := hd; show _ ≤ k; omega)
    have h6 := OneG.of_own (g := ⟨pa, m, st, t⟩) HOWN.out h2
    refine (h6.keep (fun k hk hD => ?_) (by simp [World.setCell])).mono (fun k hk hD => by show w.heap.size ≤ k; have : w.heap.size + 3 ≤ k := hD; omega)
    have hD : w.heap.size + 3 ≤ k := hD
    rw [setRow_other _ _ _ _ (by omega)]
    exact Below.heap_setCell w6 ⟨w.heap.size + 1, 3, none⟩ _ k (by show k ≠ w.heap.size + 1; omega)
  · refine below_row (Below.setCell (p := ⟨w.heap.size + 1, 3, none⟩) ?_ (by show _ ≤ w.heap.size + 1; omega) _) (Nat.le_refl _) _
    have h1 : Below w.heap.size w (w1.setCell ⟨w.heap.size + 2, 4, none⟩ (.slice va 1 vc)) := (HB0.out.trans (HB1.out.mono HB0.out.size)).setCell (p := ⟨w.heap.size + 2, 4, none⟩) (by show _ ≤ w.heap.size + 2; omega) _
    exact (h1.alloc h1.size _).grown HG6.out (Nat.le_trans h1.size (by simp)) (by intro k hk; simp [Value.ownBlock] at hk)
end Go.Proofs.YtchdfogifhfclaaGreatDoor
namespace Go.Proofs.YtchdfogifhfclaaGreatDoor
open Go.RowKit

/-- A function value: its number, what is bound, what is captured. -/
structure FnV where
  f : Nat
  pre : Array Value
  cap : Array Value
def FnV.val (x : FnV) : Value := .func (.func x.f) x.pre x.cap
def IntP (r : Int) (J : World → Prop) (e : Ending) (w' : World) : Prop := e = .returned (.int .i64 r) ∧ J w'
set_option maxRecDepth 100000 in
set_option maxHeartbeats 1000000 in
theorem firsts_any (l : List FnV) (b c : Nat) (I : Nat → World → Prop) (J : World → Prop) (k : Nat) (r : Int) (w : World) (hk : (k < l.length ∧ r ≠ 0) ∨ (k = l.length ∧ r = 0)) (hn : l.length ≤ 100) (hc : l.length ≤ c)
    (hJ0 : ∀ W, k = l.length → I k W → J W) (hJ1 : ∀ W, k < l.length → I (k + 1) W → J W) (hcells : ∀ W i x, I i W → l[i]? = some x → W.cell? ⟨b, i, none⟩ = some x.val)
    (hent : ∀ x ∈ l, ∀ args w, (callFunc x.f args).run Tryz.prog w = .ok (.enter x.f args) w)
    (hok : ∀ i x W, i < k → l[i]? = some x → I i W → Calls Tryz.prog x.f (x.pre ++ x.cap) W (IntP 0 (I (i + 1))))
    (herr : ∀ x W, l[k]? = some x → I k W → Calls Tryz.prog x.f (x.pre ++ x.cap) W (IntP r (I (k + 1)))) (h0 : I 0 w) :
    Calls Tryz.prog 34 #[.slice (some ⟨b, 0, none⟩) l.length c] w (IntP r J) := by
  have HK := Lib.hid hk
  have HJ0 := Lib.hid hJ0
  have HJ1 := Lib.hid hJ1
  have HC := Lib.hid hcells
  have HEN := Lib.hid hent
  have HOK := Lib.hid hok
  have HER := Lib.hid herr
  have H0 := Lib.hid h0
  have hn2 : (l.length : Int) ≤ 100 := by omega
  clear hk hJ0 hJ1 hcells hent hok herr h0
  go_enter Tryz.func34, Tryz.ntmps34
  go_wp2_with fail
  go_loopw [8] (fun i wr => ∃ j : Nat, j ≤ k ∧ i = .int .i64 (j : Int) ∧ Hid (I j wr)) (fun i _ => l.length - (Go.RowKit.intOf i).toNat)
  case atStart => exact ⟨0, Nat.zero_le _, rfl, H0⟩
  case round =>
    obtain ⟨j, hj, rfl, HI⟩ := hrel
    have j0 : (0 : Int) ≤ (j : Int) := by omega
    by_cases hlt : j < l.length
    · obtain ⟨x, hx⟩ : ∃ x, l[j]? = some x := ⟨_, List.getElem?_eq_getElem hlt⟩
      have hcl := HC.out wr j x HI.out hx
      have he := HEN.out x (List.mem_of_getElem? hx)
      have HX := Lib.hid hx
      have j1 : (j : Int) < (l.length : Int) := by omega
      obtain ⟨f, pre, cap⟩ := x
      unfold FnV.val at hcl
      simp only at hcl he
      clear hx
      go_wp2_with fail
      by_cases hjk : j < k
      · refine (HOK.out j _ wr hjk HX.out HI.out).mono ?_
        rintro e w1 ⟨rfl, hi⟩
        have HI1 := Lib.hid hi
        clear hi
        go_wp2_with fail
        exact ⟨⟨j + 1, by omega, by push_cast; rfl, HI1⟩, by simp only [Go.RowKit.intOf]; omega⟩
      · obtain rfl : j = k := by omega
        have hr0 : r ≠ 0 := by
          rcases HK.out with h | h
          · exact h.2
          · omega
        have d1 : (r != 0) = true := by rw [bne_iff_ne]; exact hr0
        clear hr0
        refine (HER.out _ wr HX.out HI.out).mono ?_
        rintro e w1 ⟨rfl, hi⟩
        have HI1 := Lib.hid (HJ1.out _ hlt hi)
        clear hi
        go_wp2_with fail
        go_ret
        exact ⟨rfl, HI1.out⟩
    · have hkl : k = l.length ∧ r = 0 := by
        rcases HK.out with h | h
        · omega
        · exact h
      obtain ⟨rfl, rfl⟩ := hkl
      obtain rfl : j = l.length := by omega
      go_wp2_with fail
      go_ret
      exact ⟨rfl, HJ0.out _ (by trivial) HI.out⟩
end Go.Proofs.YtchdfogifhfclaaGreatDoor
