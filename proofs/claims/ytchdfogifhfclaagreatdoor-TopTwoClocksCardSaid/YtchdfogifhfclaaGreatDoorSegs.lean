/- strings.Split at a slash: the same pieces each time. -/
import Derived.Test.YtchdfogifhfclaaGreatDoorPath
import Derived.Test.YtchdfogifhfclaaGreatDoorBk
import Derived.Lib.Bytealg
namespace Go.Proofs.YtchdfogifhfclaaGreatDoor
open Go.RowKit

set_option maxRecDepth 100000 in
theorem indexByte_slash (s : ByteArray) (w : World) : Calls Tryz.prog 213 #[.string s, .int .u8 47] w fun e w' => e = .returned (.int .i64 (Lib.indexByte s.data.toList 47)) ∧ w = w' := by
  go_enter Tryz.func213, Tryz.ntmps213
  go_wp2
  rw [run_callFunc_extern Tryz.func235 (by kernel_rfl) (by kernel_rfl) (by kernel_rfl) (e := Extern.BytealgIndexByte.indexByte) (by kernel_rfl), Lib.run_indexByteString]
  simp only [Result.andThen]
  rw [Oper.upon_value]
  go_wp2
  go_ret
  exact ⟨rfl, rfl⟩
set_option maxRecDepth 100000 in
theorem index_lite (s : ByteArray) (w : World) : Calls Tryz.prog 186 #[.string s, .string ⟨#[47]⟩] w fun e w' => e = .returned (.int .i64 (Lib.indexByte s.data.toList 47)) ∧ w = w' := by
  cases hb : ([47] == s.toList) with
  | true =>
    have h0 : Lib.indexByte s.data.toList 47 = 0 := by
      have := eq_of_beq hb
      rw [ByteArray.toList_eq] at this
      rw [← this]
      rfl
    rw [h0]
    clear h0
    go_enter Tryz.func186, Tryz.ntmps186
    go_wp2_with fail
    go_ret
    exact ⟨rfl, rfl⟩
  | false =>
    go_enter Tryz.func186, Tryz.ntmps186
    go_wp2_with fail
    refine (indexByte_slash s _).mono ?_
    rintro e w1 ⟨rfl, rfl⟩
    go_wp2_with fail
    go_ret
    exact ⟨rfl, rfl⟩
theorem index_slash (s : ByteArray) (w : World) : Calls Tryz.prog 148 #[.string s, .string ⟨#[47]⟩] w fun e w' => e = .returned (.int .i64 (Lib.indexByte s.data.toList 47)) ∧ w = w' := by
  go_enter Tryz.func148, Tryz.ntmps148
  go_wp2_with fail
  refine (index_lite s _).mono ?_
  rintro e w1 ⟨rfl, rfl⟩
  go_wp2_with fail
  go_ret
  exact ⟨rfl, rfl⟩
theorem indexByte_lt (l : List UInt8) (c : UInt8) : Lib.indexByte l c < l.length := by
  induction l with
  | nil => simp [Lib.indexByte]
  | cons b l ih =>
    unfold Lib.indexByte
    simp only [List.length_cons]
    split
    · omega
    · split <;> omega
/-- The pieces. -/
def segsN : Nat → ByteArray → List ByteArray
  | 0, s => [s]
  | k + 1, s => if Lib.indexByte s.data.toList 47 < 0 then [s] else s.extract 0 (Lib.indexByte s.data.toList 47).toNat :: segsN k (s.extract ((Lib.indexByte s.data.toList 47).toNat + 1) s.size)
theorem segsN_pos : ∀ (k : Nat) (s : ByteArray), 1 ≤ (segsN k s).length ∧ (segsN k s).length ≤ k + 1
  | 0, s => by simp [segsN]
  | k + 1, s => by
    have := segsN_pos k (s.extract ((Lib.indexByte s.data.toList 47).toNat + 1) s.size)
    unfold segsN
    split
    · simp
    · simp only [List.length_cons]; omega
def segs (p : ByteArray) : List ByteArray := if p.size = 0 then [] else segsN (Lib.countByte p.data.toList 47) p
/-- Strings in a row. -/
def StrsV (G : Nat → Prop) (w : World) (v : Value) (l : List ByteArray) : Prop := ∃ b c, v = .slice (some ⟨b, 0, none⟩) l.length c ∧ l.length ≤ c ∧ c ≤ 1000 ∧ b < w.heap.size ∧ G b ∧ ∀ (j : Nat) (x : ByteArray), l[j]? = some x → w.cell? ⟨b, j, none⟩ = some (.string x)
def SplitPost (l : List ByteArray) (w : World) (e : Ending) (w' : World) : Prop := ∃ v, e = .returned v ∧ StrsV (fun k => w.heap.size ≤ k) w' v l ∧ Below w.heap.size w w'
theorem Tryz.infoStr : (Tryz.prog.info? 9).map (fun i => (i.zero, i.size, i.bytes)) = some (some (.string ⟨#[]⟩), 1, 16) := by kernel_rfl
theorem seg_cells {cs : Array Value} {done : List ByteArray} {x0 : ByteArray} (hc : ∀ (j : Nat) (x : ByteArray), done[j]? = some x → cs[j]? = some (.string x)) (hs : done.length < cs.size) : ∀ (j : Nat) (x : ByteArray), (done ++ [x0])[j]? = some x → (cs.setIfInBounds done.length (.string x0))[j]? = some (.string x) := by
  intro j x hx
  rcases Nat.lt_trichotomy j done.length with h | h | h
  · rw [List.getElem?_append_left h] at hx
    rw [Array.getElem?_setIfInBounds_ne (by omega)]
    exact hc j x hx
  · subst h
    rw [List.getElem?_append_right (Nat.le_refl _)] at hx
    simp at hx
    subst hx
    simp [hs]
  · rw [List.getElem?_append_right (by omega)] at hx
    have : j - done.length = (j - done.length - 1) + 1 := by omega
    rw [this] at hx
    simp at hx
theorem seg_end {w wr : World} {k : Nat} {p rest : ByteArray} {done : List ByteArray} {cs : Array Value} (hk : k ≤ 27)
    (h : done.length ≤ k ∧ rest.size ≤ p.size ∧ done ++ segsN (k - done.length) rest = segsN k p ∧ wr.heap[w.heap.size]? = some (.cells cs 9 (0, 0)) ∧ cs.size = k + 1 ∧ (∀ (j : Nat) (x : ByteArray), done[j]? = some x → cs[j]? = some (.string x)) ∧ Below w.heap.size w wr) (hl : segsN (k - done.length) rest = [rest]) :
    SplitPost (segsN k p) w (.returned (.slice (some ⟨w.heap.size, 0, none⟩) (done.length + 1) (k + 1))) (wr.setCell ⟨w.heap.size, done.length, none⟩ (.string rest)) := by
  obtain ⟨h1, h2, h3, h4, h5, h6, h7⟩ := h
  rw [hl] at h3
  have hlt := lt_of_heap h4
  refine ⟨_, rfl, ⟨w.heap.size, k + 1, by rw [← h3]; simp, by rw [← h3]; simp; omega, by omega, by simpa [World.setCell] using hlt, Nat.le_refl _, fun j x hx => ?_⟩, h7.setCell (p := ⟨w.heap.size, done.length, none⟩) (Nat.le_refl _) _⟩
  rw [← h3] at hx
  rw [blk_cell (blk_set h4 done.length (.string rest))]
  exact seg_cells h6 (by omega) j x hx
set_option maxRecDepth 100000 in
set_option maxHeartbeats 1000000 in
theorem genSplit_any (p : ByteArray) (w : World) (hp : p.size ≤ 27) : Calls Tryz.prog 209 #[.string p, .string ⟨#[47]⟩, .int .i64 0, .int .i64 (-1)] w (SplitPost (segsN (Lib.countByte p.data.toList 47) p) w) := by
  obtain ⟨i0, hi, hz0, hz1, hz2⟩ := info_parts Tryz.infoStr
  have hck : Lib.countByte p.data.toList 47 ≤ p.size := List.count_le_length
  obtain ⟨k, hk⟩ : ∃ k, k = Lib.countByte p.data.toList 47 := ⟨_, rfl⟩
  rw [← hk] at hck ⊢
  have HK := Lib.hid hk
  have hcount : ∀ W, Calls Tryz.prog 100 #[.string p, .string ⟨#[47]⟩] W fun e w' => e = .returned (.int .i64 (k : Int)) ∧ W = w' := fun W => by rw [HK.out]; exact count_one p 47 W
  have HC := Lib.hid hcount
  have hmk := fun w => run_make_rowN (P := Tryz.prog) 208 9 i0 (.string ⟨#[]⟩) Tryz.underlying208 hi hz0 .i64 .i64 (k + 1) (k + 1) (Nat.le_refl _) (by rw [hz2]; omega) (by omega) w
  simp only [hz1, Nat.mul_one, Value.cells, madeCells_one] at hmk
  have hmin : min ((k : Int) + 1) ((p.size : Int) + 1) = (k : Int) + 1 := by omega
  have hmk2 : ∀ W : World, (Instr.makeSlice 208 (.int .i64 ((k : Int) + 1)) (.int .i64 ((k : Int) + 1))).run Tryz.prog W = .ok (.slice (some ⟨W.heap.size, 0, none⟩) (k + 1) (k + 1)) (W.alloc (.cells (List.replicate (k + 1) (.string ⟨#[]⟩)).toArray 9)) := fun W => by
    have := hmk W
    rw [show (((k + 1 : Nat) : Int)) = (k : Int) + 1 by omega] at this
    exact this
  have k0 : (0 : Int) ≤ (k : Int) := by omega
  have k1 : (k : Int) ≤ 27 := by omega
  clear hk hcount hmk
  go_enter Tryz.func209, Tryz.ntmps209
  go_wp2_with fail
  refine (HC.out _).mono ?_
  rintro e w1 ⟨rfl, rfl⟩
  go_wp2_with fail
  go_loopw [0, 10] (fun s i wr => ∃ (done : List ByteArray) (rest : ByteArray) (cs : Array Value), s = .string rest ∧ i = .int .i64 (done.length : Nat) ∧ Hid (done.length ≤ k ∧ rest.size ≤ p.size ∧ done ++ segsN (k - done.length) rest = segsN k p ∧ wr.heap[w.heap.size]? = some (.cells cs 9 (0, 0)) ∧ cs.size = k + 1 ∧ (∀ (j : Nat) (x : ByteArray), done[j]? = some x → cs[j]? = some (.string x)) ∧ Below w.heap.size w wr)) (fun _ i _ => k - (intOf i).toNat)
  case atStart => exact ⟨[], p, _, rfl, rfl, Lib.hid ⟨Nat.zero_le _, Nat.le_refl _, rfl, heap_at _ _ _ rfl, by simp, (fun j x hx => by simp at hx), (Below.refl _ _).alloc (Nat.le_refl _) _⟩⟩
  case round =>
    obtain ⟨done, rest, cs, rfl, rfl, HR⟩ := hrel
    obtain ⟨n, hn⟩ : ∃ n, n = done.length := ⟨_, rfl⟩
    have HN := Lib.hid hn
    rw [← hn]
    have hnk : n ≤ k := by rw [hn]; exact HR.out.1
    have hsz : (rest.size : Int) ≤ 27 := by have := HR.out.2.1; omega
    have hcs := HR.out.2.2.2.2.1
    have HCS := Lib.hid hcs
    have n0 : (0 : Int) ≤ (n : Int) := by omega
    have hcell : ∃ v, wr.cell? ⟨w.heap.size, n, none⟩ = some v := ⟨_, (blk_cell HR.out.2.2.2.1 n).trans (Array.getElem?_eq_getElem (by omega))⟩
    obtain ⟨cv, hcv⟩ := hcell
    have hfr : wr.frozen? ⟨w.heap.size, n, none⟩ = false := blk_free HR.out.2.2.2.1 n
    clear hn hcs
    by_cases hlt : n < k
    · obtain ⟨mm, hmm⟩ : ∃ mm, mm = Lib.indexByte rest.data.toList 47 := ⟨_, rfl⟩
      have HMM := Lib.hid hmm
      have hix : ∀ W, Calls Tryz.prog 148 #[.string rest, .string ⟨#[47]⟩] W fun e w' => e = .returned (.int .i64 mm) ∧ W = w' := fun W => by rw [HMM.out]; exact index_slash rest W
      have HIX := Lib.hid hix
      have h1 : (n : Int) < (k : Int) := by omega
      have hml : mm < (rest.size : Int) := by rw [hmm]; have := indexByte_lt rest.data.toList 47; simpa using this
      have hmg : -1 ≤ mm := by rw [hmm]; exact Lib.indexByte_ge _ _
      clear hmm hix
      by_cases hneg : mm < 0
      · go_wp2_with fail
        refine (HIX.out _).mono ?_
        rintro e w1 ⟨rfl, rfl⟩
        go_wp2_with fail
        go_ret
        have hl : segsN (k - done.length) rest = [rest] := by
          obtain ⟨j, hj⟩ : ∃ j, k - done.length = j + 1 := ⟨k - done.length - 1, by have := HN.out; omega⟩
          rw [hj, segsN, if_pos (by rw [← HMM.out]; exact hneg)]
        have := seg_end (by omega) HR.out hl
        rw [← HN.out] at this
        exact this
      · obtain ⟨q, rfl⟩ : ∃ q : Nat, mm = q := ⟨mm.toNat, by omega⟩
        have q0 : (0 : Int) ≤ (q : Int) := by omega
        go_wp2_with fail
        refine (HIX.out _).mono ?_
        rintro e w1 ⟨rfl, rfl⟩
        go_wp2_with fail
        refine ⟨⟨done ++ [rest.extract 0 q], _, _, rfl, by rw [HN.out]; simp, Lib.hid ⟨by rw [List.length_append, ← HN.out]; simp; omega, ?_, ?_, blk_set HR.out.2.2.2.1 n _, by simpa using HCS.out, ?_, HR.out.2.2.2.2.2.2.setCell (p := ⟨w.heap.size, n, none⟩) (Nat.le_refl _) _⟩⟩, by simp only [intOf]; omega⟩
        · have := HR.out.2.1
          simp
          omega
        · have h3 := HR.out.2.2.1
          rw [← HN.out] at h3
          obtain ⟨j, hj⟩ : ∃ j, k - n = j + 1 := ⟨k - n - 1, by omega⟩
          rw [hj, segsN, if_neg (by rw [← HMM.out]; omega), ← HMM.out, Int.toNat_natCast] at h3
          rw [← h3, List.append_assoc, List.length_append, ← HN.out, show k - (n + [rest.extract 0 q].length) = j by simp; omega]
          rfl
        · have := seg_cells (x0 := rest.extract 0 q) HR.out.2.2.2.2.2.1 (by rw [← HN.out]; have := HCS.out; omega)
          rw [← HN.out] at this
          exact this
    · obtain rfl : n = k := by omega
      go_wp2_with fail
      go_ret
      have hl : segsN (n - done.length) rest = [rest] := by
        rw [← HN.out, Nat.sub_self, segsN]
      have := seg_end (by omega) HR.out hl
      rw [← HN.out] at this
      exact this
theorem split_any (p : ByteArray) (w : World) (hp : p.size ≤ 27) : Calls Tryz.prog 179 #[.string p, .string ⟨#[47]⟩] w (SplitPost (segsN (Lib.countByte p.data.toList 47) p) w) := by
  go_enter Tryz.func179, Tryz.ntmps179
  go_wp2_with fail
  refine (genSplit_any p _ hp).mono ?_
  rintro e w1 ⟨v, rfl, hv, hb⟩
  have HV := Lib.hid hv
  have HB := Lib.hid hb
  clear hv hb
  go_wp2_with fail
  go_ret
  exact ⟨v, rfl, HV.out, HB.out⟩
/-- paths.Split of a path. -/
def PSplit (l : List ByteArray) (w : World) (e : Ending) (w' : World) : Prop := ∃ v, e = .returned (.tuple #[v, .int .i64 0]) ∧ (l = [] ∧ v = .slice none 0 0 ∨ StrsV (fun k => w.heap.size ≤ k) w' v l) ∧ Below w.heap.size w w'
theorem psplit_any (p : ByteArray) (w : World) (hp : pathOK p = true) : Calls Tryz.prog 131 #[.string p] w (PSplit (segs p) w) := by
  have hsz := pathOK_size hp
  have HP := Lib.hid hp
  have HSZ := Lib.hid hsz
  have hv := fun W => valid_any p W (by omega)
  rw [hp] at hv
  have HV := Lib.hid hv
  clear hv hp hsz
  by_cases h0 : p.size = 0
  · have hseg : segs p = [] := by unfold segs; rw [if_pos h0]
    rw [hseg]
    have e0 := size_zero h0
    subst e0
    clear hseg h0
    go_enter Tryz.func131, Tryz.ntmps131
    go_wp2_with fail
    refine (HV.out _).mono ?_
    rintro e w1 ⟨rfl, rfl⟩
    go_wp2_with fail
    go_ret2
    exact ⟨_, rfl, .inl ⟨rfl, rfl⟩, Below.refl _ _⟩
  · have hseg : segs p = segsN (Lib.countByte p.data.toList 47) p := by unfold segs; rw [if_neg h0]
    rw [hseg]
    have h1 := empty_ne h0
    have h2 : p.toList.isEmpty = false := by
      cases h : p.toList with
      | nil => exact absurd h h1
      | cons _ _ => rfl
    clear hseg h0
    go_enter Tryz.func131, Tryz.ntmps131
    go_wp2_with fail
    refine (HV.out _).mono ?_
    rintro e w1 ⟨rfl, rfl⟩
    go_wp2_with fail
    refine (split_any p _ HSZ.out).mono ?_
    rintro e w1 ⟨v, rfl, hv, hb⟩
    have H1 := Lib.hid hv
    have HB := Lib.hid hb
    clear hv hb
    go_wp2_with fail
    go_ret2
    exact ⟨v, rfl, .inr H1.out, HB.out⟩
end Go.Proofs.YtchdfogifhfclaaGreatDoor
