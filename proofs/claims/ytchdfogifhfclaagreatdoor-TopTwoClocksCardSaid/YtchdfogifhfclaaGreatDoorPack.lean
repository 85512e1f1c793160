/- Pack of a record of one part. -/
import Derived.Test.YtchdfogifhfclaaGreatDoorChunk
import Derived.Test.YtchdfogifhfclaaGreatDoorCopyRow
import Derived.Test.YtchdfogifhfclaaGreatDoorSum
import Derived.Handy
namespace Go.Proofs.YtchdfogifhfclaaGreatDoor
open Go.RowKit

def zs64 : Array Value := madeCells (Value.int .u8 0).cells 64
theorem zs64_at {k : Nat} (h : k < 64) : zs64[k]? = some (B8 0) := by
  unfold zs64 madeCells
  have hm : k % (Value.int .u8 0).cells.size = 0 := Nat.mod_one _
  simp only [Array.getElem?_map, Array.getElem?_range, h, if_true, Option.map_some, hm]
  rfl
theorem RowB.made (w : World) : RowB (w.alloc (.cells zs64 5)) w.heap.size 64 := ⟨zs64, heap_at _ _ _ rfl, size_madeCells _ _, fun _ hj => ⟨0, zs64_at hj⟩⟩
theorem BytesV.cap {G : Nat → Prop} {w : World} {a : Option Addr} {l : List UInt8} {m c : Nat} (h : BytesV G w (.slice a m c) l) (hm : 0 < m) : BytesV G w (.slice a m m) l := by
  obtain ⟨a', c', e, h2, h3, h4, h5⟩ := h
  injection e with e1 e2 e3
  subst e1 e3
  refine ⟨a, m, by rw [e2], by omega, by omega, fun hn => ?_, h5⟩
  have := h4 hn
  omega
theorem RowB.cell {w : World} {g n : Nat} (h : RowB w g n) {j : Nat} (hj : j < n) (x : UInt8) : RowB (w.setCell ⟨g, j, none⟩ (B8 x)) g n := h.set j [x] (by simp; omega)
def PackPost (w : World) (e : Ending) (w' : World) : Prop := ∃ g cap bb, e = .returned (.tuple #[.slice (some ⟨g, 0, none⟩) 1 cap, .int .i64 0]) ∧ w'.cell? ⟨g, 0, none⟩ = some (.slice (some ⟨bb, 0, none⟩) 64 64) ∧ RowB w' bb 64 ∧ Below w.heap.size w w' ∧ g < w'.heap.size
theorem Tryz.info8u : (Tryz.prog.info? 5).map (·.size) = some 1 := by kernel_rfl
set_option maxRecDepth 100000 in
set_option maxHeartbeats 2000000 in
theorem pack_any (D : Nat → Prop) (b o m c seq : Nat) (l : List UInt8) (w : World) (hd : BytesV D w (.slice (some ⟨b, o, none⟩) m c) l) (hm : 1 ≤ m ∧ m ≤ 47) (hmc : m ≤ c) (hseq : seq ≤ 1000) :
    Calls Tryz.prog 76 #[.int .i64 1, .int .i64 seq, .slice (some ⟨b, o, none⟩) m c] w (PackPost w) := by
  obtain ⟨i0, hi, hz0, hz1, hz2⟩ := info_parts Tryz.infoB
  obtain ⟨i8, hi8, hy0, hy1, hy2⟩ := info_parts Tryz.info8
  have hmk : ∀ W : World, (Instr.makeSlice 126 (.int .i64 64) (.int .i64 64)).run Tryz.prog W = .ok (.slice (some ⟨W.heap.size, 0, none⟩) 64 64) (W.alloc (.cells zs64 5)) := fun W => by
    have := run_make_rowN (P := Tryz.prog) 126 5 i8 (.int .u8 0) Tryz.underlying126 hi8 hy0 .i64 .i64 64 64 (by omega) (by rw [hy2]; omega) (by omega) W
    rw [hy1] at this
    exact this
  have HD := Lib.hid (hd.cap hm.1)
  obtain ⟨hm1, hm2⟩ := hm
  have s2 : (0 : Int) ≤ (seq : Int) := by omega
  have s3 : (seq : Int) ≤ 1073741824 := by omega
  have s4 : (m : Int) ≤ 188 := by omega
  clear hd
  obtain ⟨gn, hgn⟩ : ∃ gn : Int, gn = 1 := ⟨_, rfl⟩
  have g1 : ¬ gn < 1 := by omega
  have g2 : ¬ 1073741824 < gn := by omega
  have g3 : gn ≤ 1073741824 := by omega
  rw [← hgn]
  have HG := Lib.hid hgn
  clear hgn
  go_enter Tryz.func76, Tryz.ntmps76
  go_wp2_with fail
  refine (chunk_any b o m c _).mono ?_
  rintro e w1 ⟨rfl, hw1⟩
  have hB1 : Below w.heap.size w w1 := by rw [hw1]; exact ((Below.refl _ w).alloc (Nat.le_refl _) _).alloc (by simp) _
  have q2 : w1.heap[w.heap.size]? = some (.cells #[.slice (some ⟨b, o, none⟩) m c] 126 (0, 0)) := by rw [hw1]; exact (Below.heap_alloc _ _ _ (by simp)).trans (heap_at _ _ _ rfl)
  have q3 : w1.heap[w.heap.size + 1]? = some (.cells #[.int .i64 47] 3 (0, 0)) := by rw [hw1]; exact heap_at _ _ _ (by simp)
  clear hw1
  go_wp2_with fail
  refine (collect_piece w.heap.size (w.heap.size + 1) b o m c ⟨hm1, hm2⟩ hmc w1 (lt_of_heap q2) (lt_of_heap q3) (blk_cell q2 0) (blk_cell q3 0)).mono ?_
  rintro e w2 ⟨v, rfl, hr2, hb2⟩
  obtain ⟨gp, cp, rfl, hgp1, hgp2⟩ := hr2.form (by omega)
  have p0 : w2.cell? ⟨gp, 0, none⟩ = some (.slice (some ⟨b, o, none⟩) m m) := by
    have := hr2.cells (g := gp) rfl 0 _ rfl
    simpa [Addr.add] using this
  have hB2 : Below w.heap.size w w2 := hB1.trans (hb2.mono hB1.size)
  have HB2 := Lib.hid hB2
  have hs2 := hB2.size
  clear hr2 hb2 hB1 q2 q3 hB2
  go_wp2_with fail
  obtain rfl := HG.out
  have hwr : IntKind.u32.wrap (seq : Int) = (seq : Int) := wraps_u32 _ (by omega) (by omega)
  clear s2 s3 s4 g1 g2 g3
  have hF1 : ((w2.alloc (.cells zs64 5)).alloc (.cells ((four 1).map B8).toArray 5)).heap[w2.heap.size + 1]? = some (.cells ((four 1).map B8).toArray 5 (0, 0)) := heap_at _ _ _ (by simp)
  have HF3 : Hid (BytesV (fun k => k = w2.heap.size + 1) ((w2.alloc (.cells zs64 5)).alloc (.cells ((four 1).map B8).toArray 5)) (.slice (some ⟨w2.heap.size + 1, 0, none⟩) 4 4) (four 1)) := Lib.hid (BytesV.of_block (l := four 1) (c := 4) hF1 (fun j x hj => by rw [List.getElem?_toArray, List.getElem?_map, hj]; rfl) (Nat.le_refl _) (by decide))
  have HR3 : Hid (RowB ((w2.alloc (.cells zs64 5)).alloc (.cells ((four 1).map B8).toArray 5)) w2.heap.size 64) := Lib.hid ((RowB.made w2).keep (Below.heap_alloc _ _ _ (by simp)))
  clear hF1
  refine wp_loop_rounds 2 ?_
  rw [rounds_succ]
  go_upto_region 14 with (first
    | (go_at_call 119; (refine (four_any 1 _ (by omega)).mono ?_); rintro e w3 ⟨rfl, rfl⟩)
    | (refine wpList_copy_row rfl (.tmp 47) (.tmp 50) 126 rfl 5 Tryz.underlying126 Tryz.info8u rfl HR3.out (Nat.le_refl _) _ _ (four 1) rfl HF3.out ?_; intro v4 w4 z4 y4; have Z4 := Lib.hid z4; have Y4 := Lib.hid y4; clear z4 y4))
  have hs4 := Z4.out.lt
  have hF5 : (w4.drew.alloc (.cells ((four seq).map B8).toArray 5)).heap[w4.heap.size]? = some (.cells ((four seq).map B8).toArray 5 (0, 0)) := heap_at _ _ _ (by simp)
  have HF5 : Hid (BytesV (fun k => k = w4.heap.size) (w4.drew.alloc (.cells ((four seq).map B8).toArray 5)) (.slice (some ⟨w4.heap.size, 0, none⟩) 4 4) (four seq)) := Lib.hid (BytesV.of_block (l := four seq) (c := 4) hF5 (fun j x hj => by rw [List.getElem?_toArray, List.getElem?_map, hj]; rfl) (Nat.le_refl _) (by decide))
  have HR5 : Hid (RowB (w4.drew.alloc (.cells ((four seq).map B8).toArray 5)) w2.heap.size 64) := Lib.hid (Z4.out.keep (Below.heap_alloc _ _ _ (by simpa using hs4)))
  clear hF5
  go_region_held_law (fun _ => True) (trivial) (first
    | (go_at_call 119; (refine (four_any seq _ (by omega)).mono ?_); rintro e w5 ⟨rfl, rfl⟩)
    | (refine step_copy_row rfl (.tmp 53) (.tmp 56) 126 rfl 5 Tryz.underlying126 Tryz.info8u rfl HR5.out (by omega) _ _ (four seq) rfl HF5.out ?_; intro v6 w6 z6 y6; have Z6 := Lib.hid z6; have Y6 := Lib.hid y6; clear z6 y6))
  have B3 : Below w.heap.size w ((w2.alloc (.cells zs64 5)).alloc (.cells ((four 1).map B8).toArray 5)) := (HB2.out.alloc hs2 _).alloc (by rw [World.size_alloc]; omega) _
  have B4 : Below w.heap.size w w4 := B3.trans (Y4.out.toBelow B3.size (fun k (e : k = w2.heap.size) => by omega))
  have B5 : Below w.heap.size w (w4.drew.alloc (.cells ((four seq).map B8).toArray 5)) := (B4.drew).alloc (by have := B4.size; simpa using this) _
  have B6 : Below w.heap.size w w6 := B5.trans (Y6.out.toBelow B5.size (fun k (e : k = w2.heap.size) => by omega))
  have hwm : IntKind.u8.wrap (m : Int) = (m : Int) := wraps_u8 _ (by omega) (by omega)
  obtain ⟨cs6, e61, e62, e63⟩ := Z6.out
  obtain ⟨x8, hx8⟩ := e63 8 (by omega)
  obtain ⟨x9, hx9⟩ := e63 9 (by omega)
  obtain ⟨x10, hx10⟩ := e63 10 (by omega)
  have c8 := (blk_cell e61 8).trans hx8
  have c9 := (blk_cell e61 9).trans hx9
  have c10 := (blk_cell e61 10).trans hx10
  have f8 := blk_free e61 8
  have f9 := blk_free e61 9
  have f10 := blk_free e61 10
  obtain ⟨w7, hw7⟩ : ∃ w7, w7 = (((w6.setCell ⟨w2.heap.size, 8, none⟩ (.int .u8 0)).setCell ⟨w2.heap.size, 9, none⟩ (.int .u8 1)).setCell ⟨w2.heap.size, 10, none⟩ (.int .u8 (m : Int))) := ⟨_, rfl⟩
  have B7 : Below w.heap.size w w7 := by rw [hw7]; exact ((B6.setCell (p := ⟨w2.heap.size, 8, none⟩) hs2 _).setCell (p := ⟨w2.heap.size, 9, none⟩) hs2 _).setCell (p := ⟨w2.heap.size, 10, none⟩) hs2 _
  have hB8m : B8 (UInt8.ofNat m) = .int .u8 (m : Int) := by
    unfold B8
    have : (UInt8.ofNat m).toNat = m := by simp; omega
    rw [this]
  have HR7 : Hid (RowB w7 w2.heap.size 64) := Lib.hid (by rw [hw7]; have := ((Z6.out.cell (j := 8) (by omega) 0).cell (j := 9) (by omega) 1).cell (j := 10) (by omega) (UInt8.ofNat m); rw [hB8m] at this; exact this)
  have HD7 := Lib.hid (HD.out.below B7)
  have HW7 := Lib.hid hw7
  have HB7 := Lib.hid B7
  clear e61 e63 hx8 hx9 hx10 B3 B4 B5 B6 hw7 B7 HD HR3 HF3 HR5 HF5
  go_wp2_with (refine wpList_copy_row rfl (.tmp 73) (.tmp 74) 126 rfl 5 Tryz.underlying126 Tryz.info8u rfl (HW7.out ▸ HR7.out) (by omega) _ _ l rfl (HW7.out ▸ HD7.out) ?_; intro v8 w8 z8 y8; have Z8 := Lib.hid z8; have Y8 := Lib.hid y8; clear z8 y8)
  have B8' : Below w.heap.size w w8 := HB7.out.trans ((HW7.out ▸ Y8.out).toBelow (by have := HB7.out.size; omega) (fun k (e : k = w2.heap.size) => by omega))
  obtain ⟨l60, hl60, hb60⟩ := Z8.out.bytes (by omega) 0 60 64 (by omega) ⟨by omega, by omega⟩
  have hs8 := Z8.out.lt
  have HB60 := Lib.hid hb60
  have hsum := sumOf_lt l60
  obtain ⟨sm, hsm⟩ : ∃ sm, sm = sumOf l60 := ⟨_, rfl⟩
  rw [← hsm] at hsum
  have HSM := Lib.hid hsm
  have hF9 : (w8.drew.alloc (.cells ((four sm).map B8).toArray 5)).heap[w8.heap.size]? = some (.cells ((four sm).map B8).toArray 5 (0, 0)) := heap_at _ _ _ (by simp)
  have HF9 : Hid (BytesV (fun k => k = w8.heap.size) (w8.drew.alloc (.cells ((four sm).map B8).toArray 5)) (.slice (some ⟨w8.heap.size, 0, none⟩) 4 4) (four sm)) := Lib.hid (BytesV.of_block (l := four sm) (c := 4) hF9 (fun j x hj => by rw [List.getElem?_toArray, List.getElem?_map, hj]; rfl) (Nat.le_refl _) (by decide))
  have HR9 : Hid (RowB (w8.drew.alloc (.cells ((four sm).map B8).toArray 5)) w2.heap.size 64) := Lib.hid (Z8.out.keep (Below.heap_alloc _ _ _ (by simpa using hs8)))
  have B9 : Below w.heap.size w (w8.drew.alloc (.cells ((four sm).map B8).toArray 5)) := (B8'.drew).alloc (by have := B8'.size; simpa using this) _
  have HB9 := Lib.hid B9
  clear hF9 B8' B9 hb60 hsm HR7 HD7 HW7 HB7
  go_region_held_law (fun _ => True) (trivial) (first
    | (go_at_call 115; (refine (sum_any _ l60 _ _ (show BytesV _ w8.drew _ _ from HB60.out)).mono ?_); rintro e w9 ⟨rfl, rfl⟩; rw [← HSM.out])
    | (go_at_call 119; (refine (four_any sm _ (by omega)).mono ?_); rintro e w9 ⟨rfl, rfl⟩)
    | (refine step_copy_row rfl (.tmp 77) (.tmp 81) 126 rfl 5 Tryz.underlying126 Tryz.info8u rfl HR9.out (by omega) _ _ (four sm) rfl HF9.out ?_; intro v10 w10 z10 y10; have Z10 := Lib.hid z10; have Y10 := Lib.hid y10; clear z10 y10))
  have B10 : Below w.heap.size w w10 := HB9.out.trans (Y10.out.toBelow HB9.out.size (fun k (e : k = w2.heap.size) => by omega))
  have hs10 := Z10.out.lt
  have HB10 := Lib.hid B10
  clear HR9 HF9 HB9 B10 HB60 HSM
  go_wp2_with fail
  rw [rounds_succ]
  go_wp2_with fail
  go_ret2
  refine ⟨_, _, w2.heap.size, rfl, ?_, ?_, ?_, ?_⟩
  · refine (blk_cell (heap_at (w10.alloc _) _ _ (World.size_alloc w10 _).symm) 0).trans ?_
    first | simp | (rw [Array.getElem?_append_left (by simp)]; rfl)
  · exact Z10.out.keep ((Below.heap_alloc _ _ _ (by rw [World.size_alloc]; omega)).trans (Below.heap_alloc _ _ _ hs10))
  · exact ((HB10.out.alloc HB10.out.size _).alloc (by rw [World.size_alloc]; have := HB10.out.size; omega) _).drew
  · show _ < ((w10.alloc _).alloc _).heap.size
    rw [World.size_alloc, World.size_alloc]
    omega
end Go.Proofs.YtchdfogifhfclaaGreatDoor
