/- Scan of sectors of zeros: a panic that is recovered.  The ledger: named and name, on a new disk.  The ledger: recover of an empty area, Open of a new disk.  The ledger: Open of a new disk.  The ledger: width, put. -/
import Derived.Test.YtchdfogifhfclaaGreatDoorRegion
import Derived.Defers
import Derived.Recover
import Derived.Handy
import Derived.Laws.NewBlocks
import Derived.Test.YtchdfogifhfclaaGreatDoorPack
import Derived.Test.YtchdfogifhfclaaGreatDoorWranyM
namespace Go.Proofs.YtchdfogifhfclaaGreatDoor
open Go.RowKit

def PartPost (w : World) (e : Ending) (w' : World) : Prop := e = .panicked [{ v := .iface 190 (.agg #[]), recovered := false }] ∧ Below w.heap.size w w'
set_option maxRecDepth 100000 in
set_option maxHeartbeats 1000000 in
theorem part_zero (B p : Nat) (sv : Value) (w : World) (h : w.heap[p]? = some (.cells #[sv, .int .i64 1, .int .i64 0] 188 (0, 0))) (hs : Side B w sv 24) :
    Calls Tryz.prog 165 #[.pointer (some ⟨p, 0, none⟩), .int .i64 0, .int .i64 0, .int .i64 0, .int .i64 0] w (PartPost w) := by
  obtain ⟨xs, hx1, hx2⟩ := hs.row
  obtain ⟨b, cs, e1, e2, e3⟩ := hx2 (by omega)
  obtain ⟨g, cap, rfl, _⟩ := hx1.form (by omega)
  have c0 := blk_cell h 0
  have hp := lt_of_heap h
  have g0 : w.cell? ⟨g, 0, none⟩ = some (.slice (some ⟨b, 0, none⟩) 64 64) := by
    have := hx1.cells (g := g) rfl 0 _ e1
    simpa [Addr.add] using this
  have E2 := Lib.hid e2
  have E3 := Lib.hid e3
  have hb := lt_of_heap e2
  clear hs hx1 hx2 e1 e2 e3 h
  go_enter Tryz.func165, Tryz.ntmps165
  go_wp2_with fail
  refine (lookZero_any (b := b) (by exact (Below.heap_alloc _ _ _ hb).trans E2.out) E3.out).mono ?_
  rintro e w1 ⟨rfl, z⟩
  have HZ := Lib.hid z
  have hz := z.size
  simp at hz
  clear z
  go_wp2_with fail
  go_quiet (fail)
  go_wp2_with fail
  refine ⟨rfl, rfl, ?_⟩
  exact below_drewNx ((((Below.refl _ w).alloc (Nat.le_refl _) _).trans (HZ.out.mono (by simp))).alloc (by omega) _) _
set_option maxRecDepth 100000 in
set_option maxHeartbeats 1000000 in
theorem record_zero (B p : Nat) (sv : Value) (w : World) (h : w.heap[p]? = some (.cells #[sv, .int .i64 1, .int .i64 0] 188 (0, 0))) (hs : Side B w sv 24) :
    Calls Tryz.prog 121 #[.pointer (some ⟨p, 0, none⟩), .int .i64 0] w (PartPost w) := by
  have c2 := blk_cell h 2
  have H := Lib.hid h
  have HS := Lib.hid hs
  clear h hs
  go_enter Tryz.func121, Tryz.ntmps121
  go_wp2_with fail
  refine (part_zero B p sv _ H.out HS.out).mono ?_
  rintro e w1 ⟨rfl, z⟩
  go_wp2_with fail
  exact ⟨rfl, rfl, z⟩
theorem assert_broken (w : World) : (Instr.typeAssert (.iface 190 (.agg #[])) 20 190 true).run Tryz.prog w = .ok (.tuple #[.agg #[], .bool true]) w := by
  simp [Instr.typeAssert, run_underlying Tryz.underlying190, go_sem, Result.andThen]
set_option maxRecDepth 100000 in
set_option maxHeartbeats 1000000 in
theorem catch_scan (p q sp : Nat) (v sv : Value) (w : World) (hq : w.heap[q]? = some (.cells #[.int .i64 0] 3 (0, 0))) (hp : w.heap[p]? = some (.cells #[.pointer (some ⟨sp, 0, none⟩)] 186 (0, 0))) (h : w.heap[sp]? = some (.cells #[sv, .int .i64 1, .int .i64 0] 188 (0, 0))) :
    CallsD Tryz.prog 120 #[.pointer (some ⟨p, 0, none⟩), .pointer (some ⟨q, 0, none⟩)] (.panicking [{ v := .iface 190 (.agg #[]), recovered := false }]) w fun e u' w' =>
      e = .returned (.tuple #[]) ∧ u' = .panicking [{ v := .iface 190 (.agg #[]), recovered := true }] ∧ ∃ o, w' = (w.alloc o).setCell ⟨q, 0, none⟩ (.int .i64 0) := by
  have c0 := blk_cell hq 0
  have c1 := blk_cell hp 0
  have c2 := blk_cell h 2
  have d0 := blk_free hq 0
  refine callsD_of_wpS Tryz.func120 rfl fun c₀ cs hu => ?_
  apply wpS_seq
  apply wpS_region
  simp [wpOpsS, go_sem, recoverD, hu, Tryz.ntmps120, Exit.thenS, assert_broken, Array.replicate]
  apply wpS_seq
  apply wpS_region
  simp [wpOpsS, go_sem, Exit.thenS, Array.replicate]
  refine wpS_cond (t := true) (by simp [Act.eval, Array.replicate]) ?_
  simp only [if_true]
  have e1 : (w.alloc (.cells #[] 190)).cell? ⟨p, 0, none⟩ = some (.pointer (some ⟨sp, 0, none⟩)) := (World.cell?_alloc_past _ _ _ (lt_of_heap hp)).trans c1
  have e2 : (w.alloc (.cells #[] 190)).cell? ⟨sp, 2, none⟩ = some (.int .i64 0) := (World.cell?_alloc_past _ _ _ (lt_of_heap h)).trans c2
  have e3 : (w.alloc (.cells #[] 190)).cell? ⟨q, 0, none⟩ = some (.int .i64 0) := (World.cell?_alloc_past _ _ _ (lt_of_heap hq)).trans c0
  have e4 : (w.alloc (.cells #[] 190)).frozen? ⟨q, 0, none⟩ = false := blk_free ((Below.heap_alloc _ _ _ (lt_of_heap hq)).trans hq) 0
  apply wpS_region
  simp [wpOpsS, go_sem, Exit.thenS, Array.replicate, e1, e2, e3, e4, bodyPostS, results, Tryz.results120]
  exact ⟨_, rfl⟩
def ScanPost (w : World) (e : Ending) (w' : World) : Prop := e = .returned (.tuple #[.slice none 0 0, .int .i64 0]) ∧ Below w.heap.size w w'
set_option maxRecDepth 100000 in
set_option maxHeartbeats 1000000 in
theorem scan_zero (B : Nat) (sv : Value) (w : World) (hs : Side B w sv 24) : Calls Tryz.prog 79 #[sv, .int .i64 1] w (ScanPost w) := by
  have hmf : ∀ (fn : Fn) (first cap : Array Value) (w : World), (Instr.makeFunc fn first cap).run Tryz.prog w = .ok (.func fn first cap) w := fun _ _ _ _ => rfl
  obtain ⟨xs, hx1, hx2⟩ := hs.row
  obtain ⟨g, cap, rfl, _⟩ := hx1.form (by omega)
  have HS := Lib.hid hs
  clear hs hx1 hx2
  go_enter_defers Tryz.func79, Tryz.ntmps79
  go_wp2_with fail
  refine wp_loop_rounds 1 ?_
  rw [rounds_succ]
  go_wp2_with fail
  have hb3 : Below w.heap.size w (((w.alloc (.cells #[.int .i64 0] 3)).alloc (.cells #[.slice (some ⟨g, 0, none⟩) 24 cap, .int .i64 1, .int .i64 0] 188)).alloc (.cells #[.pointer (some ⟨w.heap.size + 1, 0, none⟩)] 186)) := (((Below.refl _ w).alloc (Nat.le_refl _) _).alloc (by simp) _).alloc (by simp; omega) _
  have hq : (((w.alloc (.cells #[.int .i64 0] 3)).alloc (.cells #[.slice (some ⟨g, 0, none⟩) 24 cap, .int .i64 1, .int .i64 0] 188)).alloc (.cells #[.pointer (some ⟨w.heap.size + 1, 0, none⟩)] 186)).heap[w.heap.size]? = some (.cells #[.int .i64 0] 3 (0, 0)) := (Below.heap_alloc _ _ _ (by simp; omega)).trans ((Below.heap_alloc _ _ _ (by simp)).trans (heap_at _ _ _ rfl))
  have hsp : (((w.alloc (.cells #[.int .i64 0] 3)).alloc (.cells #[.slice (some ⟨g, 0, none⟩) 24 cap, .int .i64 1, .int .i64 0] 188)).alloc (.cells #[.pointer (some ⟨w.heap.size + 1, 0, none⟩)] 186)).heap[w.heap.size + 1]? = some (.cells #[.slice (some ⟨g, 0, none⟩) 24 cap, .int .i64 1, .int .i64 0] 188 (0, 0)) := (Below.heap_alloc _ _ _ (by simp)).trans (heap_at _ _ _ (by simp))
  have hp : (((w.alloc (.cells #[.int .i64 0] 3)).alloc (.cells #[.slice (some ⟨g, 0, none⟩) 24 cap, .int .i64 1, .int .i64 0] 188)).alloc (.cells #[.pointer (some ⟨w.heap.size + 1, 0, none⟩)] 186)).heap[w.heap.size + 1 + 1]? = some (.cells #[.pointer (some ⟨w.heap.size + 1, 0, none⟩)] 186 (0, 0)) := heap_at _ _ _ (by simp)
  refine (record_zero B (w.heap.size + 1) _ _ hsp (HS.out.keep hb3)).mono ?_
  rintro e w4 ⟨rfl, z⟩
  refine leaves_cons (f := 120) (args := #[.pointer (some ⟨w.heap.size + 1 + 1, 0, none⟩), .pointer (some ⟨w.heap.size, 0, none⟩)]) (by simp) (by simp [go_sem]) ?_
  have zq := (z.block _ (lt_of_heap hq)).trans hq
  have zp := (z.block _ (lt_of_heap hp)).trans hp
  have zs := (z.block _ (lt_of_heap hsp)).trans hsp
  refine (catch_scan _ _ (w.heap.size + 1) (.int .i64 0) _ w4 zq zp zs).mono ?_
  rintro e u' w'' ⟨rfl, rfl, o, rfl⟩
  have hz := z.size
  simp at hz
  have hb4 : Below w.heap.size w ((w4.alloc o).setCell ⟨w.heap.size, 0, none⟩ (.int .i64 0)) := ((hb3.trans (z.mono (by simp; omega))).alloc (by omega) _).setCell (Nat.le_refl _) _
  have hr : ((w4.alloc o).setCell ⟨w.heap.size, 0, none⟩ (.int .i64 0)).cell? ⟨w.heap.size, 0, none⟩ = some (.int .i64 0) := blk_cell (blk_set (blk_alloc zq o) 0 (.int .i64 0)) 0
  simp [Leaves, settle, results, Tryz.results79, go_sem, hr]
  exact ⟨rfl, hb4⟩
end Go.Proofs.YtchdfogifhfclaaGreatDoor
namespace Go.Proofs.YtchdfogifhfclaaGreatDoor
open Go.RowKit

theorem DiskOk.apart {w : World} {p s k : Nat} (h : DiskOk w p s k) {q : Nat} {v : Value} (hc : w.cell? ⟨q, 0, none⟩ = some v) (h1 : v ≠ .slice (some ⟨s, 0, none⟩) 49 49) (h2 : ∀ x, v ≠ B8 x) : ¬ Fd p s q := by
  obtain ⟨f, wr, h, _⟩ := h
  rintro (rfl | rfl)
  · have := (blk_cell h.head 0).symm.trans hc
    simp at this
    exact h1 this.symm
  · obtain ⟨cs, e1, e2, e3⟩ := h.sec
    have := ((blk_cell e1 0).trans (e3 0 0 (by omega) (by omega))).symm.trans hc
    injection this with this
    exact h2 _ this.symm
/-- A ledger's cells. -/
def ledC (d gen seq used next longest : Nat) (gs : Value) : Array Value := #[.pointer (some ⟨d, 0, none⟩), .int .i64 (gen : Int), .int .i64 0, .int .i64 (seq : Int), .int .i64 (used : Int), .int .i64 (next : Int), .int .i64 0, .int .i64 (longest : Int), gs, .bool false]
def NamedPost (w : World) (e : Ending) (w' : World) : Prop := e = .returned (.tuple #[.bool false, .int .i64 0]) ∧ Below w.heap.size w w'
set_option maxRecDepth 100000 in
set_option maxHeartbeats 1000000 in
theorem named_zero (p d s gen seq used next longest : Nat) (gs : Value) (f : Nat → Nat → UInt8) (k : Nat) (w : World) (h : w.heap[p]? = some (.cells (ledC d gen seq used next longest gs) 75 (0, 0))) (hd : DiskAt w d s 49 f k) (hz : ∀ j, j < 64 → f 0 j = 0) :
    Calls Tryz.prog 22 #[.pointer (some ⟨p, 0, none⟩)] w (NamedPost w) := by
  have c0 := blk_cell h 0
  have HD := Lib.hid hd
  have HZ := Lib.hid hz
  clear h hd hz
  unfold ledC at c0
  go_enter Tryz.func22, Tryz.ntmps22
  go_wp2_with fail
  refine (diskRead_any d s 49 f k 0 _ HD.out (by omega)).mono ?_
  rintro e w1 ⟨rfl, z1, z2⟩
  have HZ1 := Lib.hid z1
  have HZ2 := Lib.hid z2
  clear z1 z2
  go_wp2_with fail
  refine (lookZero_any HZ1.out (fun j hj => by rw [List.getElem?_toArray, secC_at hj, HZ.out j hj]; rfl)).mono ?_
  rintro e w2 ⟨rfl, z3⟩
  have HZ3 := Lib.hid z3
  clear z3
  go_wp2_with fail
  go_ret2
  have hs1 := HZ2.out.size
  have hs2 := HZ3.out.size
  exact ⟨rfl, (HZ2.out.trans (HZ3.out.mono hs1)).alloc (by omega) _⟩
theorem DiskAt.ok {w : World} {p s k : Nat} {f : Nat → Nat → UInt8} (h : DiskAt w p s 49 f k) : DiskOk w p s k := ⟨f, k, h, Nat.le_refl _⟩
/-- Sector 0 is written; the others are as they were. -/
def WrKeep (p s : Nat) (f : Nat → Nat → UInt8) (k : Nat) (w : World) (e : Ending) (w' : World) : Prop := e = .returned (.int .i64 0) ∧ (∃ g, DiskAt w' p s 49 (fun i => if i = 0 then g else f i) (k + 1)) ∧ Mod (Fd p s) w w'
theorem write_keep (p s : Nat) (f : Nat → Nat → UInt8) (k b : Nat) (w : World) (h : DiskAt w p s 49 f k) (hk : k < 1000) (hr : RowB w b 64) : Calls Tryz.prog 77 #[.pointer (some ⟨p, 0, none⟩), .int .i64 0, .slice (some ⟨b, 0, none⟩) 64 64] w (WrKeep p s f k w) := by
  obtain ⟨g, hg⟩ := hr.sec
  refine (diskWrite_any p s 49 f k 0 g b 0 64 w h (by omega) (by omega) hg (Nat.le_refl _)).mono ?_
  rintro e w' ⟨rfl, h3, h4⟩
  exact ⟨rfl, ⟨_, h3⟩, h4⟩
set_option maxRecDepth 100000 in
set_option maxHeartbeats 1000000 in
theorem name_any (p d s gen seq used next longest : Nat) (gs : Value) (f : Nat → Nat → UInt8) (k : Nat) (w : World) (h : w.heap[p]? = some (.cells (ledC d gen seq used next longest gs) 75 (0, 0))) (hd : DiskAt w d s 49 f k) (hk : k < 1000) :
    Calls Tryz.prog 23 #[.pointer (some ⟨p, 0, none⟩), .int .i64 1, .int .i64 0] w (WrKeep d s f k w) := by
  have hp := lt_of_heap h
  have H := Lib.hid h
  have HD := Lib.hid hd
  clear h hd
  have hb0 : (w.alloc (.cells #[.int .u8 0] 5)).heap[w.heap.size]? = some (.cells #[.int .u8 0] 5 (0, 0)) := heap_at _ _ _ rfl
  have HB0 := Lib.hid (BytesV.of_block (l := [0]) (c := 1) hb0 (fun j x hj => by
    match j, hj with
    | 0, hj =>
      simp at hj
      subst hj
      rfl) (Nat.le_refl _) (by decide))
  clear hb0
  go_enter Tryz.func23, Tryz.ntmps23
  go_wp2_with fail
  refine (pack_any _ w.heap.size 0 1 1 0 [0] _ HB0.out ⟨by omega, by omega⟩ (Nat.le_refl _) (by omega)).mono ?_
  rintro e w1 ⟨g, cap, bb, rfl, z1, z2, z3, z4⟩
  have hB1 : Below w.heap.size w w1 := ((Below.refl _ w).alloc (Nat.le_refl _) _).trans (z3.mono (by simp))
  have c0 := blk_cell ((hB1.block _ hp).trans H.out) 0
  unfold ledC at c0
  have HB1 := Lib.hid hB1
  have HZ2 := Lib.hid z2
  have HD1 := Lib.hid (HD.out.below hB1)
  clear z2 z3 hB1
  go_wp2_with fail
  have n1 : ¬ Fd d s p := (DiskAt.ok HD1.out).apart c0 (by simp) (fun x => by simp [B8])
  have n2 : ¬ Fd d s g := (DiskAt.ok HD1.out).apart z1 (by simp) (fun x => by simp [B8])
  have hp1 : p < w1.heap.size := by have := HB1.out.size; omega
  have hwr : Calls Tryz.prog 77 #[.pointer (some ⟨d, 0, none⟩), .int .i64 0, .slice (some ⟨bb, 0, none⟩) 64 64] w1.drew (WrKeep d s f k w1.drew) := write_keep d s f k bb w1.drew (HD1.out.keep rfl rfl) hk (HZ2.out.keep rfl)
  go_region_held_law (fun v => v.cell? ⟨p, 0, none⟩ = some (.pointer (some ⟨d, 0, none⟩)) ∧ v.cell? ⟨g, 0, none⟩ = some (.slice (some ⟨bb, 0, none⟩) 64 64)) (exact ⟨by assumption, by assumption⟩) (first
    | (go_at_call 77; (refine hwr.mono ?_); rintro e w2 ⟨rfl, z5, z6⟩; have q1 := (z6.cell (p := ⟨p, 0, none⟩) hp1 n1).trans c0; have q2 := (z6.cell (p := ⟨g, 0, none⟩) z4 n2).trans z1; have HZ5 := Lib.hid z5; have HZ6 := Lib.hid z6; clear z5 z6))
  all_goals go_wp2_with fail
  all_goals go_ret
  all_goals exact ⟨rfl, HZ5.out, (Mod.of_below (F := Fd d s) HB1.out).trans ((Mod.refl _ w1).drew.trans HZ6.out (fun _ _ h => h)) (fun _ _ h => h)⟩
end Go.Proofs.YtchdfogifhfclaaGreatDoor
namespace Go.Proofs.YtchdfogifhfclaaGreatDoor
open Go.RowKit

def RecPost (w : World) (e : Ending) (w' : World) : Prop := e = .returned (.int .i64 0) ∧ Below w.heap.size w w'
set_option maxRecDepth 100000 in
set_option maxHeartbeats 1000000 in
theorem recover_zero (p d s seq used next longest : Nat) (gs : Value) (f : Nat → Nat → UInt8) (k : Nat) (w : World) (h : w.heap[p]? = some (.cells (ledC d 1 seq used next longest gs) 75 (0, 0))) (hd : DiskAt w d s 49 f k) (hz : ∀ j, j < 64 → f 1 j = 0) :
    Calls Tryz.prog 24 #[.pointer (some ⟨p, 0, none⟩)] w (RecPost w) := by
  have hmf : ∀ (fn : Fn) (first cap : Array Value) (w : World), (Instr.makeFunc fn first cap).run Tryz.prog w = .ok (.func fn first cap) w := fun _ _ _ _ => rfl
  have c0 := blk_cell h 0
  have c2 := blk_cell h 2
  have c1 := blk_cell h 1
  have hp := lt_of_heap h
  have H := Lib.hid h
  have HD := Lib.hid hd
  have HZ := Lib.hid hz
  clear h hd hz
  unfold ledC at c0 c1 c2
  go_enter Tryz.func24, Tryz.ntmps24
  go_upto_region 1 with fail
  go_region_held_law (fun v => v.cell? ⟨p, 0, none⟩ = some (.pointer (some ⟨d, 0, none⟩)) ∧ v.cell? ⟨p, 2, none⟩ = some (.int .i64 0)) (exact ⟨by assumption, by assumption⟩) (first
    | (go_at_call 78; go_loud (refine (region_any d s f k w.drew (HD.out.keep rfl rfl) HZ.out).mono ?_); go_loud (rintro e w2 ⟨v, rfl, z1, z2⟩); have q1 := (z2.cell (p := ⟨p, 0, none⟩) hp).trans c0; go_loud (have q2 := (z2.cell (p := ⟨p, 2, none⟩) hp).trans c2); have q3 := (z2.cell (p := ⟨p, 1, none⟩) hp).trans c1; have HZ1 := Lib.hid z1; have HZ2 := Lib.hid z2; clear z1 z2))
  go_wp2_with fail
  refine (scan_zero _ v w2 HZ1.out).mono ?_
  rintro e w3 ⟨rfl, z5⟩
  have HZ5 := Lib.hid z5
  clear z5
  go_wp2_with fail
  refine wp_loop_rounds 1 ?_
  rw [rounds_succ]
  go_wp2_with fail
  go_ret
  exact ⟨rfl, (Below.refl _ w).drew.trans (HZ2.out.trans (HZ5.out.mono HZ2.out.size))⟩
end Go.Proofs.YtchdfogifhfclaaGreatDoor
namespace Go.Proofs.YtchdfogifhfclaaGreatDoor
open Go.RowKit

def LedNew (d s : Nat) (w : World) (e : Ending) (w' : World) : Prop := ∃ p, e = .returned (.tuple #[.pointer (some ⟨p, 0, none⟩), .int .i64 0]) ∧ w'.heap[p]? = some (.cells (ledC d 1 0 0 1 0 (.slice none 0 0)) 75 (0, 0)) ∧ w.heap.size ≤ p ∧ DiskOk w' d s 1 ∧ Mod (Fd d s) w w'
theorem bookNew_any (w : World) : Calls Tryz.prog 21 #[] w fun e w' => e = .returned (.agg #[.int .i64 1, .int .i64 0, .int .i64 0, .slice none 0 0]) ∧ Below w.heap.size w w' := by
  go_enter Tryz.func21, Tryz.ntmps21
  go_wp2_with fail
  refine bodyPost_ret (v := .agg #[.int .i64 1, .int .i64 0, .int .i64 0, .slice none 0 0]) (by simp [results, Tryz.results21, go_sem]) rfl ⟨rfl, ?_⟩
  exact (Below.refl _ w).alloc (Nat.le_refl _) _
set_option maxRecDepth 100000 in
set_option maxHeartbeats 1000000 in
theorem openLed_any (d s : Nat) (w : World) (hd : DiskAt w d s 49 (fun _ _ => 0) 0) : Calls Tryz.prog 6 #[.pointer (some ⟨d, 0, none⟩)] w (LedNew d s w) := by
  have HD := Lib.hid hd
  have hlt := hd.lt
  clear hd
  go_enter Tryz.func6, Tryz.ntmps6
  go_wp2_with fail
  refine (diskLen_any d s 49 _ 0 _ HD.out).mono ?_
  rintro e w1 ⟨rfl, rfl⟩
  go_wp2_with fail
  refine (bookNew_any _).mono ?_
  rintro e w1 ⟨rfl, hB1⟩
  have hs1 := hB1.size
  have HB1 := Lib.hid hB1
  clear hB1
  go_wp2_with fail
  obtain ⟨w0, hw0⟩ : ∃ w0, w0 = w1.alloc (.cells #[.pointer (some ⟨d, 0, none⟩), .int .i64 0, .int .i64 0, .int .i64 0, .int .i64 0, .int .i64 1, .int .i64 0, .int .i64 0, .slice none 0 0, .bool false] 75) := ⟨_, rfl⟩
  have hB0 : Below w.heap.size w w0 := by rw [hw0]; exact HB1.out.alloc hs1 _
  have hp0 : w0.heap[w1.heap.size]? = some (.cells (ledC d 0 0 0 1 0 (.slice none 0 0)) 75 (0, 0)) := by rw [hw0]; exact heap_at _ _ _ rfl
  rw [← hw0]
  have HD0 := Lib.hid (HD.out.below hB0)
  have HB0 := Lib.hid hB0
  have HP0 := Lib.hid hp0
  clear hw0 hB0 hp0
  refine (named_zero w1.heap.size d s 0 0 0 1 0 _ _ 0 w0 HP0.out HD0.out (fun _ _ => rfl)).mono ?_
  rintro e w2 ⟨rfl, hB2⟩
  have hp2 := (hB2.block _ (lt_of_heap HP0.out)).trans HP0.out
  have HD2 := Lib.hid (HD0.out.below hB2)
  have hbw2 : Below w.heap.size w w2 := HB0.out.trans (hB2.mono HB0.out.size)
  have HBW2 := Lib.hid hbw2
  have d1 := blk_cell hp2 1
  have d2 := blk_cell hp2 2
  have e1 := blk_free hp2 1
  have e2 := blk_free hp2 2
  have HP2 := Lib.hid hp2
  clear hB2 hp2 hbw2
  unfold ledC at d1 d2
  go_wp2_with fail
  obtain ⟨w3, hw3⟩ : ∃ w3, w3 = (w2.setCell ⟨w1.heap.size, 1, none⟩ (.int .i64 1)).setCell ⟨w1.heap.size, 2, none⟩ (.int .i64 0) := ⟨_, rfl⟩
  have hp3 : w3.heap[w1.heap.size]? = some (.cells (ledC d 1 0 0 1 0 (.slice none 0 0)) 75 (0, 0)) := by rw [hw3]; exact blk_set (blk_set HP2.out 1 (.int .i64 1)) 2 (.int .i64 0)
  have hb3 : Below w.heap.size w w3 := by rw [hw3]; exact (HBW2.out.setCell (p := ⟨w1.heap.size, 1, none⟩) hs1 _).setCell (p := ⟨w1.heap.size, 2, none⟩) hs1 _
  rw [← hw3]
  have HD3 := Lib.hid (HD.out.below hb3)
  have HP3 := Lib.hid hp3
  have HB3 := Lib.hid hb3
  clear hw3 hp3 hb3
  refine (name_any w1.heap.size d s 1 0 0 1 0 _ _ 0 w3 HP3.out HD3.out (by omega)).mono ?_
  rintro e w4 ⟨rfl, ⟨g, hd4⟩, hm4⟩
  have hnf : ¬ Fd d s w1.heap.size := by
    rintro (h | h)
    · have := hlt.1; omega
    · have := hlt.2; omega
  have HP4 := Lib.hid ((hm4.block _ (lt_of_heap HP3.out) hnf).trans HP3.out)
  have HD4 := Lib.hid hd4
  have HM4 := Lib.hid hm4
  clear hd4 hm4
  go_wp2_with fail
  refine (recover_zero w1.heap.size d s 0 0 1 0 _ _ 1 w4 HP4.out HD4.out (fun _ _ => rfl)).mono ?_
  rintro e w5 ⟨rfl, hB5⟩
  have HB5 := Lib.hid hB5
  clear hB5
  go_wp2_with fail
  go_ret2
  exact ⟨w1.heap.size, rfl, (HB5.out.block _ (lt_of_heap HP4.out)).trans HP4.out, hs1, (DiskAt.ok HD4.out).below HB5.out, ((Mod.of_below (F := Fd d s) HB3.out).trans HM4.out (fun _ _ h => h)).below HB5.out⟩
end Go.Proofs.YtchdfogifhfclaaGreatDoor
namespace Go.Proofs.YtchdfogifhfclaaGreatDoor
open Go.RowKit

theorem width_any (n : Nat) (h : 1 ≤ n ∧ n ≤ 47) (w : World) : Calls Tryz.prog 82 #[.int .i64 n] w fun e w' => e = .returned (.int .i64 1) ∧ w = w' := by
  obtain ⟨h1, h2⟩ := h
  have hq : (((n : Int) + 47 - 1).tdiv 47) = 1 := by
    rw [Int.tdiv_eq_ediv_of_nonneg (by omega)]
    omega
  go_enter Tryz.func82, Tryz.ntmps82
  go_wp2_with fail
  go_ret
  refine ⟨?_, rfl⟩
  simp [hq]
set_option maxRecDepth 100000 in
set_option maxHeartbeats 600000 in
theorem ledPut_any (p d s at_ seq0 gen seq used next longest : Nat) (gs : Value) (k : Nat) (D : Nat → Prop) (b o m c : Nat) (l : List UInt8) (w : World) (h : w.heap[p]? = some (.cells (ledC d gen seq used next longest gs) 75 (0, 0))) (hd : DiskOk w d s k) (hk : k < 1000) (hat : at_ < 49) (hs0 : seq0 ≤ 1000) (hm : 1 ≤ m ∧ m ≤ 47) (hmc : m ≤ c) (hb : BytesV D w (.slice (some ⟨b, o, none⟩) m c) l) :
    Calls Tryz.prog 94 #[.pointer (some ⟨p, 0, none⟩), .int .i64 at_, .int .i64 1, .int .i64 seq0, .slice (some ⟨b, o, none⟩) m c] w (WrOk d s k w) := by
  have hp := lt_of_heap h
  have H := Lib.hid h
  have HD := Lib.hid hd
  have HB := Lib.hid hb
  clear h hd hb
  go_enter Tryz.func94, Tryz.ntmps94
  go_wp2_with fail
  refine (pack_any D b o m c seq0 l _ HB.out hm hmc hs0).mono ?_
  rintro e w1 ⟨g, cap, bb, rfl, z1, z2, z3, z4⟩
  have c0 := blk_cell ((z3.block _ hp).trans H.out) 0
  unfold ledC at c0
  have HB1 := Lib.hid z3
  have HZ2 := Lib.hid z2
  have HD1 := Lib.hid (HD.out.below z3)
  have hp1 : p < w1.heap.size := by have := z3.size; omega
  clear z2 z3
  have n1 : ¬ Fd d s p := HD1.out.apart c0 (by simp) (fun x => by simp [B8])
  have n2 : ¬ Fd d s g := HD1.out.apart z1 (by simp) (fun x => by simp [B8])
  have a1 : (at_ : Int) < 49 := by omega
  have a2 : IntKind.i64.wrap (at_ : Int) = (at_ : Int) := by rw [IntKind.wrap_i64]; omega
  have hwr : Calls Tryz.prog 77 #[.pointer (some ⟨d, 0, none⟩), .int .i64 at_, .slice (some ⟨bb, 0, none⟩) 64 64] w1.drew (WrOk d s k w1.drew) := write_any d s k at_ bb w1.drew (HD1.out.keep rfl rfl) hk hat (HZ2.out.keep rfl)
  go_wp2_with fail
  refine wp_loop_rounds 2 ?_
  rw [rounds_succ]
  go_upto_region 5 with fail
  clear H HD HB HZ2 HD1
  go_region_held_law (fun v => v.cell? ⟨p, 0, none⟩ = some (.pointer (some ⟨d, 0, none⟩)) ∧ v.cell? ⟨g, 0, none⟩ = some (.slice (some ⟨bb, 0, none⟩) 64 64)) (exact ⟨by assumption, by assumption⟩) (first
    | (go_at_call 77; go_loud (refine hwr.mono ?_); rintro e w2 ⟨rfl, z5, z6⟩; have q1 := (z6.cell (p := ⟨p, 0, none⟩) hp1 n1).trans c0; have q2 := (z6.cell (p := ⟨g, 0, none⟩) z4 n2).trans z1; have HZ5 := Lib.hid z5; have HZ6 := Lib.hid z6; clear z5 z6))
  all_goals go_wp2_with fail
  all_goals rw [rounds_succ]
  all_goals go_wp2_with fail
  all_goals go_ret
  all_goals exact ⟨rfl, HZ5.out, (Mod.of_below (F := Fd d s) HB1.out).trans ((Mod.refl _ w1).drew.trans HZ6.out (fun _ _ h => h)) (fun _ _ h => h)⟩
end Go.Proofs.YtchdfogifhfclaaGreatDoor
