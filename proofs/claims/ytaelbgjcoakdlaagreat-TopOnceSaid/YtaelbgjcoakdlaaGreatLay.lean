/- The library's contracts on slices.Sorted(maps.Keys(m)), laid at this dump. (Laid by mklay.py.) -/
import Derived.Shelf.SlIterI.Nil
import Derived.Shelf.SortG.SortNone
import Derived.Test.YtaelbgjcoakdlaaGreatProg
namespace Go.Proofs.YtaelbgjcoakdlaaGreat
open Go.RowKit Go.Maps Go.Sort Go.Shelf

def renZ : Ren := ⟨fun n => bif n == 6 then 38 else bif n == 7 then 39 else bif n == 8 then 50 else bif n == 9 then 51 else bif n == 10 then 52 else bif n == 11 then 82 else 0, fun n => bif n == 0 then 0 else bif n == 3 then 75 else bif n == 4 then 4 else bif n == 23 then 56 else bif n == 24 then 32 else bif n == 26 then 3 else bif n == 27 then 104 else bif n == 28 then 105 else bif n == 33 then 45 else 0, fun n => n⟩
def renN : Ren := ⟨fun n => bif n == 53 then 51 else bif n == 59 then 120 else bif n == 63 then 83 else bif n == 64 then 84 else bif n == 68 then 140 else bif n == 70 then 114 else bif n == 71 then 115 else bif n == 72 then 116 else bif n == 73 then 117 else bif n == 74 then 118 else bif n == 75 then 119 else bif n == 76 then 121 else bif n == 77 then 122 else bif n == 78 then 123 else bif n == 79 then 124 else bif n == 88 then 135 else bif n == 89 then 136 else bif n == 90 then 137 else bif n == 91 then 138 else bif n == 92 then 139 else bif n == 96 then 145 else 0, fun n => bif n == 0 then 0 else bif n == 3 then 3 else bif n == 4 then 4 else bif n == 5 then 5 else bif n == 9 then 9 else bif n == 22 then 32 else bif n == 23 then 3 else bif n == 44 then 173 else bif n == 51 then 125 else bif n == 60 then 167 else bif n == 61 then 168 else bif n == 67 then 101 else bif n == 69 then 150 else bif n == 75 then 181 else bif n == 79 then 154 else bif n == 83 then 189 else bif n == 84 then 190 else 0, fun n => n⟩
theorem layKeys : SlLaysZI.n7 Tryz.prog renZ where
  mixed := by kernel_rfl
  f7 := ⟨"maps.Keys[map[int]sublet/api.Call,int,sublet/api.Call]", rfl, by kernel_rfl⟩
  f10 := ⟨"maps.Keys[map[int]sublet/api.Call,int,sublet/api.Call]$1", rfl, by kernel_rfl⟩
  t0 := by kernel_rfl
  a0 := fun w => by kernel_rfl
  z0 := fun w => by kernel_rfl
  v0 := fun w => by kernel_rfl
  t4 := by kernel_rfl
  a4 := fun w => by kernel_rfl
  z4 := fun w => by kernel_rfl
  v4 := fun w => by kernel_rfl
  t23 := by kernel_rfl
  a23 := fun w => by kernel_rfl
  z23 := fun w => by kernel_rfl
  v23 := fun w => by kernel_rfl
  t26 := by kernel_rfl
  a26 := fun w => by kernel_rfl
  z26 := fun w => by kernel_rfl
  v26 := fun w => by kernel_rfl
  t27 := by kernel_rfl
  a27 := fun w => by kernel_rfl
  z27 := fun w => by kernel_rfl
  v27 := fun w => by kernel_rfl
  t28 := by kernel_rfl
  a28 := fun w => by kernel_rfl
  z28 := fun w => by kernel_rfl
  v28 := fun w => by kernel_rfl
  t33 := by kernel_rfl
  a33 := fun w => by kernel_rfl
  z33 := fun w => by kernel_rfl
  v33 := fun w => by kernel_rfl
theorem laySorted : SlLaysZI.n6 Tryz.prog renZ where
  mixed := by kernel_rfl
  f6 := ⟨"slices.Sorted[int]", rfl, by kernel_rfl⟩
  f8 := ⟨"slices.Collect[int]", rfl, by kernel_rfl⟩
  f11 := ⟨"slices.AppendSeq[[]int,int]", rfl, by kernel_rfl⟩
  t0 := by kernel_rfl
  a0 := fun w => by kernel_rfl
  z0 := fun w => by kernel_rfl
  v0 := fun w => by kernel_rfl
  t24 := by kernel_rfl
  a24 := fun w => by kernel_rfl
  z24 := fun w => by kernel_rfl
  v24 := fun w => by kernel_rfl
  t26 := by kernel_rfl
  a26 := fun w => by kernel_rfl
  z26 := fun w => by kernel_rfl
  v26 := fun w => by kernel_rfl
  t28 := by kernel_rfl
  a28 := fun w => by kernel_rfl
  z28 := fun w => by kernel_rfl
  v28 := fun w => by kernel_rfl
  i26 := by kernel_rfl
theorem laySort : SlLaysN.n53 Tryz.prog renN where
  mixed := by kernel_rfl
  f53 := ⟨"slices.Sort[[]int,int]", rfl, by kernel_rfl⟩
  f59 := ⟨"cmp.Less[int]", rfl, by kernel_rfl⟩
  f63 := ⟨"slices.pdqsortOrdered[int]", rfl, by kernel_rfl⟩
  f64 := by kernel_rfl
  f68 := ⟨"cmp.isNaN[int]", rfl, by kernel_rfl⟩
  f70 := ⟨"slices.insertionSortOrdered[int]", rfl, by kernel_rfl⟩
  f71 := ⟨"slices.heapSortOrdered[int]", rfl, by kernel_rfl⟩
  f72 := ⟨"slices.breakPatternsOrdered[int]", rfl, by kernel_rfl⟩
  f73 := ⟨"slices.choosePivotOrdered[int]", rfl, by kernel_rfl⟩
  f74 := ⟨"slices.reverseRangeOrdered[int]", rfl, by kernel_rfl⟩
  f75 := ⟨"slices.partialInsertionSortOrdered[int]", rfl, by kernel_rfl⟩
  f76 := ⟨"slices.partitionEqualOrdered[int]", rfl, by kernel_rfl⟩
  f77 := ⟨"slices.partitionOrdered[int]", rfl, by kernel_rfl⟩
  f78 := by kernel_rfl
  f79 := by kernel_rfl
  f88 := ⟨"slices.siftDownOrdered[int]", rfl, by kernel_rfl⟩
  f89 := by kernel_rfl
  f90 := by kernel_rfl
  f91 := ⟨"slices.medianAdjacentOrdered[int]", rfl, by kernel_rfl⟩
  f92 := ⟨"slices.medianOrdered[int]", rfl, by kernel_rfl⟩
  f96 := ⟨"slices.order2Ordered[int]", rfl, by kernel_rfl⟩
  t0 := by kernel_rfl
  a0 := fun w => by kernel_rfl
  z0 := fun w => by kernel_rfl
  v0 := fun w => by kernel_rfl
  t3 := by kernel_rfl
  a3 := fun w => by kernel_rfl
  z3 := fun w => by kernel_rfl
  v3 := fun w => by kernel_rfl
  t4 := by kernel_rfl
  a4 := fun w => by kernel_rfl
  z4 := fun w => by kernel_rfl
  v4 := fun w => by kernel_rfl
  t5 := by kernel_rfl
  a5 := fun w => by kernel_rfl
  z5 := fun w => by kernel_rfl
  v5 := fun w => by kernel_rfl
  t9 := by kernel_rfl
  a9 := fun w => by kernel_rfl
  z9 := fun w => by kernel_rfl
  v9 := fun w => by kernel_rfl
  t22 := by kernel_rfl
  a22 := fun w => by kernel_rfl
  z22 := fun w => by kernel_rfl
  v22 := fun w => by kernel_rfl
  t23 := by kernel_rfl
  a23 := fun w => by kernel_rfl
  z23 := fun w => by kernel_rfl
  v23 := fun w => by kernel_rfl
  t44 := by kernel_rfl
  a44 := fun w => by kernel_rfl
  z44 := fun w => by kernel_rfl
  v44 := fun w => by kernel_rfl
  t51 := by kernel_rfl
  a51 := fun w => by kernel_rfl
  z51 := fun w => by kernel_rfl
  v51 := fun w => by kernel_rfl
  t60 := by kernel_rfl
  a60 := fun w => by kernel_rfl
  z60 := fun w => by kernel_rfl
  v60 := fun w => by kernel_rfl
  t61 := by kernel_rfl
  a61 := fun w => by kernel_rfl
  z61 := fun w => by kernel_rfl
  v61 := fun w => by kernel_rfl
  t67 := by kernel_rfl
  a67 := fun w => by kernel_rfl
  z67 := fun w => by kernel_rfl
  v67 := fun w => by kernel_rfl
  t69 := by kernel_rfl
  a69 := fun w => by kernel_rfl
  z69 := fun w => by kernel_rfl
  v69 := fun w => by kernel_rfl
  t75 := by kernel_rfl
  a75 := fun w => by kernel_rfl
  z75 := fun w => by kernel_rfl
  v75 := fun w => by kernel_rfl
  t79 := by kernel_rfl
  a79 := fun w => by kernel_rfl
  z79 := fun w => by kernel_rfl
  v79 := fun w => by kernel_rfl
  t83 := by kernel_rfl
  a83 := fun w => by kernel_rfl
  z83 := fun w => by kernel_rfl
  v83 := fun w => by kernel_rfl
  t84 := by kernel_rfl
  a84 := fun w => by kernel_rfl
  z84 := fun w => by kernel_rfl
  v84 := fun w => by kernel_rfl
end Go.Proofs.YtaelbgjcoakdlaaGreat
