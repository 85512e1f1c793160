/- THE WALK of List once more: each answered packet has a block of its own for its bytes, known whole. -/
import Derived.Test.YtdjgmgppghipkaaTwo
namespace Go.Proofs.Ytdjgmgppghipkaa
open Go.RowKit

/-- v is all of a block of bytes behind w0. -/
def DataX (w0 w : World) (v : Value) (l : List UInt8) : Prop :=
  ∃ d, v = .slice (some ⟨d, 0, none⟩) l.length l.length ∧ w.heap[d]? = some (.cells (l.map B8).toArray 5 (0, 0)) ∧ w0.heap.size ≤ d
inductive PktsX (w0 w : World) : List Value → List Pkt → Prop
  | nil : PktsX w0 w [] []
  | cons {p : Pkt} {v : Value} {cs : List Value} {l : List Pkt} : DataX w0 w v p.data → PktsX w0 w cs l → PktsX w0 w (pktCells p v ++ cs) (p :: l)
theorem DataX.keep {w0 w w' : World} {v : Value} {l : List UInt8} (hk : ∀ k cs, w0.heap.size ≤ k → w.heap[k]? = some (.cells cs 5 (0, 0)) → w'.heap[k]? = w.heap[k]?) (h : DataX w0 w v l) : DataX w0 w' v l := by
  obtain ⟨d, e, h1, h2⟩ := h
  exact ⟨d, e, (hk d _ h2 h1).trans h1, h2⟩
theorem PktsX.keep {w0 w w' : World} (hk : ∀ k cs, w0.heap.size ≤ k → w.heap[k]? = some (.cells cs 5 (0, 0)) → w'.heap[k]? = w.heap[k]?) {cs : List Value} {l : List Pkt} (h : PktsX w0 w cs l) : PktsX w0 w' cs l := by
  induction h with
  | nil => exact .nil
  | cons h1 _ ih => exact .cons (h1.keep hk) ih
theorem PktsX.append {w0 w : World} {cs ds : List Value} {l m : List Pkt} (h : PktsX w0 w cs l) (h' : PktsX w0 w ds m) : PktsX w0 w (cs ++ ds) (l ++ m) := by
  induction h with
  | nil => exact h'
  | cons h1 _ ih => rw [List.append_assoc]; exact .cons h1 ih
theorem PktsX.at_ {w0 w : World} {cs : List Value} {l : List Pkt} (h : PktsX w0 w cs l) : ∀ (i : Nat) (p : Pkt), l[i]? = some p →
    ∃ v, DataX w0 w v p.data ∧ cs[i * 3]? = some (.int .i64 p.src) ∧ cs[i * 3 + 1]? = some (.int .i64 p.dst) ∧ cs[i * 3 + 2]? = some v := by
  induction h with
  | nil => intro i p hp; simp at hp
  | @cons q v cs l h1 _ ih =>
    intro i p hp
    cases i with
    | zero =>
      obtain rfl : q = p := by simpa using hp
      exact ⟨v, h1, rfl, rfl, rfl⟩
    | succ i =>
      obtain ⟨v', b1, b2, b3, b4⟩ := ih i p (by simpa using hp)
      refine ⟨v', b1, ?_, ?_, ?_⟩
      · rw [show (i + 1) * 3 = i * 3 + 3 from by omega, List.getElem?_append_right (by simp [pktCells])]; simpa [pktCells] using b2
      · rw [show (i + 1) * 3 + 1 = i * 3 + 1 + 3 from by omega, List.getElem?_append_right (by simp [pktCells])]; simpa [pktCells] using b3
      · rw [show (i + 1) * 3 + 2 = i * 3 + 2 + 3 from by omega, List.getElem?_append_right (by simp [pktCells])]; simpa [pktCells] using b4
theorem oneCell_pktsX {w0 w : World} {cs : List Value} {l : List Pkt} (h : PktsX w0 w cs l) : ∀ u ∈ cs, u.oneCell' = true := by
  induction h with
  | nil => intro u hu; cases hu
  | @cons q v cs l h1 _ ih =>
    intro u hu
    rcases List.mem_append.1 hu with hu | hu
    · obtain ⟨d, rfl, _⟩ := h1
      simp [pktCells] at hu
      rcases hu with rfl | rfl | rfl <;> rfl
    · exact ih u hu
/-- An answered list: a row of its own, and bytes of its own, all behind w0. -/
def NewX (w0 w : World) (v : Value) (l : List Pkt) : Prop := ∃ cs, w.ownsRow w0.heap.size 30 3 v l.length cs ∧ PktsX w0 w cs l
theorem newX_push {w w2 w3 : World} {v : Value} {l : List Pkt} {cs : List Value} {q : Pkt} {d gg cap : Nat} {O : Obj}
    (h6 : w2.ownsRow w.heap.size 30 3 v l.length cs) (h8 : PktsX w w2 cs l)
    (hd : w2.heap[d]? = some (.cells (q.data.map B8).toArray 5 (0, 0))) (hdw : w.heap.size ≤ d)
    (hown : w3.ownsRow w.heap.size 30 3 (.slice (some ⟨gg, 0, none⟩) (l.length + 1) cap) (l.length + 1) (cs ++ pktCells q (.slice (some ⟨d, 0, none⟩) q.data.length q.data.length)))
    (hgrow : (w2.alloc O).grownBy w3 v.ownBlock) : NewX w w3 (.slice (some ⟨gg, 0, none⟩) (l.length + 1) cap) (l ++ [q]) := by
  have hK : ∀ k cs, w.heap.size ≤ k → w2.heap[k]? = some (.cells cs 5 (0, 0)) → w3.heap[k]? = w2.heap[k]? := fun k cs _ h => by
    have hlt := lt_of_heap h
    have hne := own_ne h6 h (by decide)
    exact (hgrow.block k (by simp; omega) (fun e => hne e.symm)).trans (heap_past w2 O k hlt)
  refine ⟨_, by rw [List.length_append]; exact hown, (h8.keep hK).append ?_⟩
  rw [← List.append_nil (pktCells q _)]
  exact .cons ⟨d, rfl, (hK d _ hdw hd).trans hd, hdw⟩ .nil

set_option maxHeartbeats 2000000 in
theorem list_x (G : Nat → Prop) (p : Nat) (b : Bg) (w : World) (h : BagAt G w p b) :
    Calls Try.prog 16 #[.pointer (some ⟨p, 0, none⟩)] w fun e w' => ∃ lv, e = .returned lv ∧ NewX w w' lv b.l ∧ (b.l.length = 0 → lv = .slice none 0 0) ∧ Below w.heap.size w w' := by
  obtain ⟨i0, hi0, hz0, hz1, hz2⟩ := info_parts Try.info30
  obtain ⟨_, _, _, hdata, hhead, sv, cs, h5, h6, h7, h8⟩ := id h
  obtain ⟨a0, a1, a2, b0, b1, b2⟩ := blk3 h5
  have hfm : ∃ a c, sv = .slice a b.l.length c := by
    rcases h6.2 with ⟨h, h'⟩ | ⟨g, cap, cur, hv, _⟩
    · exact ⟨none, 0, by rw [h, h']⟩
    · exact ⟨_, _, hv⟩
  obtain ⟨sa, sc, rfl⟩ := hfm
  have hsm := h.small
  have K6 := Lib.hid h6
  have K8 := Lib.hid h8
  have KD := Lib.hid hdata
  clear h5 h6 h7 h8 hdata
  go_enter Try.func16, Try.ntmps16
  go_wp2_with fail
  go_loopw [3, 13] (fun v i wr => ∃ k : Nat, k ≤ b.l.length ∧ i = .int .i64 k ∧ NewX w wr v (b.l.take k) ∧ (k = 0 → v = .slice none 0 0) ∧ Below w.heap.size w wr) (fun _ i _ => b.l.length - (intOf i).toNat)
  case atStart => exact ⟨0, by omega, rfl, ⟨[], World.ownsRow_nil _ _ _ _, .nil⟩, fun _ => rfl, Below.refl _ _⟩
  case round =>
    obtain ⟨k, hk, rfl, ⟨ds, m6, m8⟩, hk0, hB⟩ := hrel
    by_cases hlt : k < b.l.length
    · obtain ⟨q, hq⟩ : ∃ q, b.l[k]? = some q := ⟨_, List.getElem?_eq_getElem hlt⟩
      obtain ⟨g, cap, hsv, hc, hm, hg, k0, k1, k2⟩ := row_cells K6.out hlt
      obtain ⟨vv, v1, v2, v3, v4⟩ := K8.out.at_ k q hq
      obtain ⟨va, vc, rfl, _⟩ := id v1
      obtain ⟨rfl, rfl⟩ : sa = some ⟨g, 0, none⟩ ∧ sc = cap := by simpa using hsv
      have c0 := (hB.cell (p := ⟨g, k * 3, none⟩) hg).trans (k0.trans v2)
      have c1 := (hB.cell (p := ⟨g, k * 3 + 1, none⟩) hg).trans (k1.trans v3)
      have c2 := (hB.cell (p := ⟨g, k * 3 + 2, none⟩) hg).trans (k2.trans v4)
      have b0 : (0 : Int) ≤ (k : Int) := by omega
      have b1 : (k : Int) < (b.l.length : Int) := by omega
      have hq200 := KD.out q (List.mem_of_getElem? hq)
      have V1 := Lib.hid ((v1.keep (fun j hj _ => hB.block j hj) hB.size).below ((Below.refl _ _).alloc (Nat.le_refl _) (.cells #[.int .i64 q.src, .int .i64 q.dst, .slice va q.data.length vc] 30)))
      have M6 := Lib.hid m6
      have M8 := Lib.hid m8
      have hkl : (b.l.take k).length = k := by rw [List.length_take]; omega
      have HKL := Lib.hid hkl
      have HQ := Lib.hid hq
      have HG := Lib.hid hg
      clear v1 v2 v3 v4 k0 k1 k2 hsv m6 m8 hkl hq hg a0 a1 a2
      have HK0 := Lib.hid hk0
      clear hk0
      go_wp2_with fail
      refine (twin_any _ _ _ _ q.data _ V1.out (by omega)).mono ?_
      rintro e w2 ⟨rfl, hh, hb⟩
      have hB2 := below_step hB (below_step ((Below.refl _ _).alloc (Nat.le_refl _) _) hb)
      have hs2 : wr.heap.size < w2.heap.size := Nat.lt_of_lt_of_le (by simp) hb.size
      have N6 := Lib.hid (ownsRow_keep M6.out (fun j hj => (hb.block j (by have := (M6.out.lt j hj).2; simp; omega)).trans (heap_past wr _ j (M6.out.lt j hj).2)))
      have N8 := Lib.hid (M8.out.keep (w' := w2) (fun j cs _ hj => (hb.block j (by have := lt_of_heap hj; simp; omega)).trans (heap_past wr _ j (lt_of_heap hj))))
      have HH := Lib.hid hh
      rw [HKL.out] at N6
      have hbw := hB2.size
      clear hh
      go_wp2_with (at_builtin; refine wpList_append_lies _ rfl (.tmp 17) (.tmp 20) _ rfl w.heap.size 30 i0 _ 3 40 Try.underlying40 hi0 hz0 hz1 hz2 rfl (by omega) u3 k ds rfl (N6.out.alloc _) ⟨w2.heap.size, 0, none⟩ 1 1 [.int .i64 q.src, .int .i64 q.dst, .slice (some ⟨wr.heap.size + 1 + 2, 0, none⟩) q.data.length q.data.length] rfl rfl (World.news_of_block (cs := #[.int .i64 q.src, .int .i64 q.dst, .slice (some ⟨wr.heap.size + 1 + 2, 0, none⟩) q.data.length q.data.length]) (t := 30) (fr := (0, 0)) (heap_at _ _ _ rfl)) (by simp [Value.oneCell']) (by omega) (by unfold maxLen; omega) (by omega) (by simp; omega) (w2.heap.size + 1) (by simp) ?_; intro gg cap2 w3 hown3 hgrow hat hlt3)
      have R := newX_push (l := b.l.take k) (by rw [HKL.out]; exact N6.out) N8.out HH.out (by have := hB.size; simp; omega) (by rw [HKL.out]; simpa [pktCells] using hown3) hgrow
      rw [HKL.out, ← take_snoc b.l k q HQ.out] at R
      have hB3 : Below w.heap.size w w3 := (hB2.alloc hbw _).grown hgrow (by simp; omega) (fun j hj => (M6.out.lt j hj).1)
      clear hown3 hgrow hat hlt3
      go_wp2_with fail
      go_roundw
      case rel => exact ⟨k + 1, by omega, by go_num, R, fun h => by omega, hB3⟩
      case measure => simp [intOf]; omega
    · obtain rfl : k = b.l.length := by omega
      rw [List.take_length] at m6 m8
      have HK0 := Lib.hid hk0
      clear hk0
      go_wp2_with fail
      go_ret
      exact ⟨_, rfl, ⟨ds, m6, m8⟩, HK0.out, hB⟩
end Go.Proofs.Ytdjgmgppghipkaa
