/- The disk: New, Len, Read, Write. -/
import Derived.Test.YtchdfogifhfclaaGreatDoorMem
import Derived.Test.YtchdfogifhfclaaGreatDoorAppendBytes
import Derived.Deep.MidRow
import Derived.Deep.WholeRow
import Derived.Deep.RegionHeldLaw
namespace Go.Proofs.YtchdfogifhfclaaGreatDoor
open Go.RowKit

def z64 : Array Value := (List.replicate 64 (Value.int .u8 0)).toArray
theorem Tryz.infoS : (Tryz.prog.info? 176).map (fun i => (i.zero, i.size, i.bytes)) = some (some (.agg z64), 64, 64) := by kernel_rfl
theorem z64_at {k : Nat} (h : k < 64) : z64[k]? = some (.int .u8 0) := by
  unfold z64
  rw [List.getElem?_toArray, List.getElem?_replicate, if_pos h]
/-- A disk of n sectors at p: their bytes. -/
structure DiskAt (w : World) (p s n : Nat) (f : Nat → Nat → UInt8) (wr : Nat) : Prop where
  head : w.heap[p]? = some (.cells #[.slice (some ⟨s, 0, none⟩) n n, .int .i64 (wr : Int), .bool false, .int .i64 0, .bool false] 69 (0, 0))
  sec : ∃ cs, w.heap[s]? = some (.cells cs 176 (0, 0)) ∧ cs.size = n * 64 ∧ ∀ i j, i < n → j < 64 → cs[i * 64 + j]? = some (B8 (f i j))
  small : 1 ≤ n ∧ n ≤ 512
  writes : wr ≤ 1000
theorem DiskAt.keep {w w' : World} {p s n : Nat} {f : Nat → Nat → UInt8} {wr : Nat} (h : DiskAt w p s n f wr) (hp : w'.heap[p]? = w.heap[p]?) (hs : w'.heap[s]? = w.heap[s]?) : DiskAt w' p s n f wr := by
  obtain ⟨cs, h1, h2⟩ := h.sec
  exact ⟨hp.trans h.head, ⟨cs, hs.trans h1, h2⟩, h.small, h.writes⟩
theorem DiskAt.lt {w : World} {p s n : Nat} {f : Nat → Nat → UInt8} {wr : Nat} (h : DiskAt w p s n f wr) : p < w.heap.size ∧ s < w.heap.size := by
  obtain ⟨cs, h1, h2⟩ := h.sec
  exact ⟨lt_of_heap h.head, lt_of_heap h1⟩
theorem DiskAt.below {w w' : World} {p s n : Nat} {f : Nat → Nat → UInt8} {wr : Nat} (h : DiskAt w p s n f wr) (hb : Below w.heap.size w w') : DiskAt w' p s n f wr := h.keep (hb.block _ h.lt.1) (hb.block _ h.lt.2)
def Fd (p s : Nat) (k : Nat) : Prop := k = p ∨ k = s
def zs49 : Array Value := madeCells z64 3136
theorem zs49_at {k : Nat} (h : k < 3136) : zs49[k]? = some (.int .u8 0) := by
  unfold zs49 madeCells
  have hm : k % z64.size < 64 := Nat.mod_lt _ (by decide)
  have hs : z64.size = 64 := by decide
  simp only [Array.getElem?_map, Array.getElem?_range, h, if_true, Option.map_some]
  have := z64_at hm
  rw [getElem!_def, this]
def NewDisk (w : World) (e : Ending) (w' : World) : Prop := e = .returned (.tuple #[.pointer (some ⟨w.heap.size + 1, 0, none⟩), .int .i64 0]) ∧ DiskAt w' (w.heap.size + 1) w.heap.size 49 (fun _ _ => 0) 0 ∧ Below w.heap.size w w'
set_option maxRecDepth 100000 in
set_option maxHeartbeats 1000000 in
theorem newDisk_any (w : World) : Calls Tryz.prog 5 #[.int .i64 49] w (NewDisk w) := by
  obtain ⟨i0, hi, hz0, hz1, hz2⟩ := info_parts Tryz.infoS
  have hmk : ∀ W : World, (Instr.makeSlice 67 (.int .i64 49) (.int .i64 49)).run Tryz.prog W = .ok (.slice (some ⟨W.heap.size, 0, none⟩) 49 49) (W.alloc (.cells zs49 176)) := fun W => by
    have := run_make_rowN (P := Tryz.prog) 67 176 i0 (.agg z64) Tryz.underlying67 hi hz0 .i64 .i64 49 49 (by omega) (by rw [hz2]; omega) (by omega) W
    rw [hz1] at this
    exact this
  go_enter Tryz.func5, Tryz.ntmps5
  go_wp2_with fail
  have hfit : Calls Tryz.prog 19 #[.int .i64 49] w fun e w' => e = .returned (.bool true) ∧ w = w' := by
    go_enter Tryz.func19, Tryz.ntmps19
    go_wp2_with fail
    go_ret
    exact ⟨rfl, rfl⟩
  refine hfit.mono ?_
  rintro e w1 ⟨rfl, rfl⟩
  go_wp2_with fail
  go_ret2
  refine ⟨rfl, ⟨heap_at _ _ _ (by simp), ⟨zs49, ?_, size_madeCells _ _, fun i j hi hj => ?_⟩, by omega, by omega⟩, ((Below.refl _ _).alloc (Nat.le_refl _) _).alloc (by simp) _⟩
  · rw [heap_past _ _ _ (by simp), heap_at _ _ _ rfl]
  · rw [zs49_at (by omega)]; rfl
theorem diskLen_any (p s n : Nat) (f : Nat → Nat → UInt8) (wr : Nat) (w : World) (h : DiskAt w p s n f wr) : Calls Tryz.prog 20 #[.pointer (some ⟨p, 0, none⟩)] w fun e w' => e = .returned (.int .i64 (n : Int)) ∧ w = w' := by
  have c0 := blk_cell h.head 0
  go_enter Tryz.func20, Tryz.ntmps20
  go_wp2_with fail
  go_ret
  exact ⟨rfl, rfl⟩
theorem diskFault_any (p s n : Nat) (f : Nat → Nat → UInt8) (wr i : Nat) (w : World) (h : DiskAt w p s n f wr) (hi : i < n) : Calls Tryz.prog 113 #[.pointer (some ⟨p, 0, none⟩), .int .i64 (i : Int)] w fun e w' => e = .returned (.int .i64 0) ∧ w = w' := by
  have c0 := blk_cell h.head 0
  have c4 := blk_cell h.head 4
  have d1 : decide (n ≤ i) = false := decide_eq_false (by omega)
  have d2 : decide ((n : Int) ≤ (i : Int)) = false := decide_eq_false (by omega)
  clear h
  go_enter Tryz.func113, Tryz.ntmps113
  go_wp2_with fail
  go_ret
  exact ⟨rfl, rfl⟩
/-- A sector's bytes, its cells. -/
def secL (g : Nat → UInt8) : List UInt8 := (List.range 64).map g
theorem secL_len (g : Nat → UInt8) : (secL g).length = 64 := by simp [secL]
def secC (g : Nat → UInt8) : List Value := (secL g).map B8
theorem secC_len (g : Nat → UInt8) : (secC g).length = 64 := by simp [secC, secL]
theorem secC_at {g : Nat → UInt8} {j : Nat} (h : j < 64) : (secC g)[j]? = some (B8 (g j)) := by
  unfold secC secL
  rw [List.getElem?_map, List.getElem?_map, List.getElem?_range h]
  rfl
theorem secC_one (g : Nat → UInt8) : (secC g).toArray.all (·.oneCell') = true := all_oneCell_toArray (fun v hv => by
  obtain ⟨x, _, rfl⟩ := List.mem_map.1 hv
  rfl)
theorem DiskAt.range {w : World} {p s n : Nat} {f : Nat → Nat → UInt8} {wr : Nat} (h : DiskAt w p s n f wr) {i : Nat} (hi : i < n) : w.rangeAt s (i * 64) (secC (f i)) := by
  obtain ⟨cs, h1, h2, h3⟩ := h.sec
  intro j v hv
  have hj : j < 64 := by
    have := (List.getElem?_eq_some_iff.1 hv).1
    rwa [secC_len] at this
  rw [secC_at hj] at hv
  rw [blk_cell h1, h3 i j hi hj]
  exact hv
def ReadPost (g : Nat → UInt8) (w : World) (e : Ending) (w' : World) : Prop := e = .returned (.tuple #[.slice (some ⟨w.heap.size, 0, none⟩) 64 64, .int .i64 0]) ∧ w'.heap[w.heap.size]? = some (.cells (secC g).toArray 176 (0, 0)) ∧ Below w.heap.size w w'
set_option maxRecDepth 100000 in
set_option maxHeartbeats 1000000 in
theorem diskRead_any (p s n : Nat) (f : Nat → Nat → UInt8) (wr i : Nat) (w : World) (h : DiskAt w p s n f wr) (hi : i < n) : Calls Tryz.prog 74 #[.pointer (some ⟨p, 0, none⟩), .int .i64 (i : Int)] w (ReadPost (f i) w) := by
  have H := Lib.hid h
  have c0 := blk_cell h.head 0
  have hsm := h.small
  obtain ⟨cs, hcs⟩ : ∃ cs, cs = secC (f i) := ⟨_, rfl⟩
  have HR := Lib.hid (hcs ▸ h.range hi)
  have hl : cs.length = 64 := by rw [hcs]; exact secC_len _
  have h1 : cs.toArray.all (·.oneCell') = true := by rw [hcs]; exact secC_one _
  have hi64 : (Tryz.prog.info? 176).map (·.size) = some cs.length := by rw [hl]; kernel_rfl
  have hi65 : (Tryz.prog.info? 176).map (·.size) = some cs.toArray.size := by rw [List.size_toArray, hl]; kernel_rfl
  have k0 : (0 : Int) ≤ (i : Int) := by omega
  have k1 : (i : Int) < (n : Int) := by omega
  have HC := Lib.hid hcs
  have HL := Lib.hid hl
  clear h hcs hl
  go_enter Tryz.func74, Tryz.ntmps74
  go_wp2_with fail
  refine (diskFault_any p s n f wr i _ H.out hi).mono ?_
  rintro e w1 ⟨rfl, rfl⟩
  go_wp2_with (first
    | (refine wpList_load_mid rfl 176 (.tmp 19) rfl s (i * 64) (by first | rfl | simp) cs _ HR.out Tryz.underlying176 rfl hi64 ?_)
    | (refine wpList_store_row rfl 176 (.tmp 7) (.tmp 20) rfl w.heap.size cs.toArray rfl rfl 176 _ (heap_at _ _ _ rfl) hi65 (Eq.trans (b := 64) rfl (List.size_toArray.trans HL.out).symm) h1 ?_; rw [World.setRow_alloc_new]))
  go_ret2
  refine ⟨rfl, ?_, (Below.refl _ _).alloc (Nat.le_refl _) _⟩
  rw [heap_at _ _ _ rfl, HC.out]
end Go.Proofs.YtchdfogifhfclaaGreatDoor
