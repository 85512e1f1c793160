/- THE WALK of List. -/
import Derived.Test.YtdjgmgppghipkaaDouble
namespace Go.Proofs.Ytdjgmgppghipkaa
open Go.RowKit

theorem own_ne_block {w : World} {base : Nat} {e : TypeId} {size n : Nat} {v : Value} {xs : List Value} {d : Nat} {t : TypeId} {cs : Array Value} {fr : Nat × Nat} (h : w.ownsRow base e size v n xs) (hd : w.heap[d]? = some (.cells cs t fr)) (hne : e ≠ t) : v.ownBlock ≠ some d := own_ne h hd hne

theorem newPkts_push {w w2 w3 : World} {v : Value} {l : List Pkt} {cs : List Value} {q : Pkt} {d gg cap H : Nat} {O : Obj} (_hw : w.heap.size ≤ w2.heap.size)
    (h6 : w2.ownsRow w.heap.size 30 3 v l.length cs) (h8 : PktsC (fun k => w.heap.size ≤ k ∧ v.ownBlock ≠ some k) w2 cs l) (hq : q.data.length ≤ 140737488355328)
    (hd : w2.heap[d]? = some (.cells (q.data.map B8).toArray 5 (0, 0))) (hdw : w.heap.size ≤ d)
    (hown : w3.ownsRow w.heap.size 30 3 (.slice (some ⟨gg, 0, none⟩) (l.length + 1) cap) (l.length + 1) (cs ++ pktCells q (.slice (some ⟨d, 0, none⟩) q.data.length q.data.length)))
    (hgrow : (w2.alloc O).grownBy w3 v.ownBlock) (hat : v.ownBlock = some gg ∨ gg = H) (hH : w2.heap.size < H) :
    NewPkts w w3 (.slice (some ⟨gg, 0, none⟩) (l.length + 1) cap) (l ++ [q]) := by
  have hd2 := lt_of_heap hd
  have hds := own_ne h6 hd (by decide)
  have hdg : gg ≠ d := by
    rcases hat with e | e
    · intro h'; exact hds (h' ▸ e)
    · omega
  have hK : ∀ k, k < w2.heap.size → v.ownBlock ≠ some k → w3.heap[k]? = w2.heap[k]? := fun k hk h2 =>
    (hgrow.block k (by simp; omega) (fun e => h2 e.symm)).trans (heap_past w2 O k hk)
  have hsz : w2.heap.size ≤ w3.heap.size := by have := hgrow.size; simp at this; omega
  refine ⟨_, by rw [List.length_append]; exact hown, ?_⟩
  have h1 := ((h8.mono (G' := fun k => (w.heap.size ≤ k ∧ some gg ≠ some k) ∧ v.ownBlock ≠ some k) (fun k hk hg => ⟨⟨hg.1, fun e => ?_⟩, hg.2⟩)).keep (fun k hk hg => hK k hk hg.2) hsz).mono (G' := fun k => w.heap.size ≤ k ∧ (Value.slice (some ⟨gg, 0, none⟩) (l.length + 1) cap).ownBlock ≠ some k) (fun k _ hg => hg.1)
  · refine PktsC.append h1 ?_
    rw [← List.append_nil (pktCells q _)]
    refine .cons ?_ .nil
    refine (BytesV.of_block (l := q.data) (c := q.data.length) (cs := (q.data.map B8).toArray) ((hK d hd2 hds).trans hd) (fun j x hx => by simp [hx]) (Nat.le_refl _) (by unfold maxLen; omega)).mono (fun k _ hk => ?_)
    subst hk
    exact ⟨hdw, by simpa [Value.ownBlock] using hdg⟩
  · obtain rfl : gg = k := by simpa using e
    rcases hat with e' | e'
    · exact hg.2 e'
    · omega

theorem take_snoc (l : List Pkt) (k : Nat) (q : Pkt) (h : l[k]? = some q) : l.take (k + 1) = l.take k ++ [q] := by
  rw [List.take_add_one, h]; rfl

set_option maxHeartbeats 2000000 in
theorem list_any (G : Nat → Prop) (p : Nat) (b : Bg) (w : World) (h : BagAt G w p b) :
    Calls Try.prog 16 #[.pointer (some ⟨p, 0, none⟩)] w (ListPost w b.l) := by
  obtain ⟨i0, hi0, hz0, hz1, hz2⟩ := info_parts Try.info30
  obtain ⟨_, _, _, hdata, hhead, sv, cs, h5, h6, h7, h8⟩ := id h
  obtain ⟨a0, a1, a2, b0, b1, b2⟩ := blk3 h5
  have hfm : ∃ a c, sv = .slice a b.l.length c := by
    rcases h6.2 with ⟨h, h'⟩ | ⟨g, cap, cur, hv, _⟩
    · exact ⟨none, 0, by rw [h, h']⟩
    · exact ⟨_, _, hv⟩
  obtain ⟨sa, sc, rfl⟩ := hfm
  have hsm := h.small
  have K6 := Lib.hid h6
  have K8 := Lib.hid h8
  have KD := Lib.hid hdata
  clear h5 h6 h7 h8 hdata
  go_enter Try.func16, Try.ntmps16
  go_wp2_with fail
  go_loopw [3, 13] (fun v i wr => ∃ k : Nat, k ≤ b.l.length ∧ i = .int .i64 k ∧ NewPkts w wr v (b.l.take k) ∧ Below w.heap.size w wr) (fun _ i _ => b.l.length - (intOf i).toNat)
  case atStart => exact ⟨0, by omega, rfl, ⟨[], World.ownsRow_nil _ _ _ _, .nil⟩, Below.refl _ _⟩
  case round =>
    obtain ⟨k, hk, rfl, ⟨ds, m6, m8⟩, hB⟩ := hrel
    by_cases hlt : k < b.l.length
    · obtain ⟨q, hq⟩ : ∃ q, b.l[k]? = some q := ⟨_, List.getElem?_eq_getElem hlt⟩
      obtain ⟨g, cap, hsv, hc, hm, hg, k0, k1, k2⟩ := row_cells K6.out hlt
      obtain ⟨vv, v1, v2, v3, v4⟩ := K8.out.at_ k q hq
      obtain ⟨va, vc, rfl, _⟩ := id v1
      obtain ⟨rfl, rfl⟩ : sa = some ⟨g, 0, none⟩ ∧ sc = cap := by simpa using hsv
      have c0 := (hB.cell (p := ⟨g, k * 3, none⟩) hg).trans (k0.trans v2)
      have c1 := (hB.cell (p := ⟨g, k * 3 + 1, none⟩) hg).trans (k1.trans v3)
      have c2 := (hB.cell (p := ⟨g, k * 3 + 2, none⟩) hg).trans (k2.trans v4)
      have b0 : (0 : Int) ≤ (k : Int) := by omega
      have b1 : (k : Int) < (b.l.length : Int) := by omega
      have hq200 := KD.out q (List.mem_of_getElem? hq)
      have V1 := Lib.hid ((v1.keep (fun j hj _ => hB.block j hj) hB.size).below ((Below.refl _ _).alloc (Nat.le_refl _) (.cells #[.int .i64 q.src, .int .i64 q.dst, .slice va q.data.length vc] 30)))
      have M6 := Lib.hid m6
      have M8 := Lib.hid m8
      have hkl : (b.l.take k).length = k := by rw [List.length_take]; omega
      have HKL := Lib.hid hkl
      have HQ := Lib.hid hq
      have HG := Lib.hid hg
      clear v1 v2 v3 v4 k0 k1 k2 hsv m6 m8 hkl hq hg a0 a1 a2
      go_wp2_with fail
      refine (twin_any _ _ _ _ q.data _ V1.out (by omega)).mono ?_
      rintro e w2 ⟨rfl, hh, hb⟩
      have hB2 := below_step hB (below_step ((Below.refl _ _).alloc (Nat.le_refl _) _) hb)
      have hs2 : wr.heap.size < w2.heap.size := Nat.lt_of_lt_of_le (by simp) hb.size
      have N6 := Lib.hid (ownsRow_keep M6.out (fun j hj => (hb.block j (by have := (M6.out.lt j hj).2; simp; omega)).trans (heap_past wr _ j (M6.out.lt j hj).2)))
      have N8 := Lib.hid (M8.out.keep (fun j hj _ => (hb.block j (by simp; omega)).trans (heap_past wr _ j hj)) (Nat.le_of_lt hs2))
      have HH := Lib.hid hh
      rw [HKL.out] at N6
      have hbw := hB2.size
      clear hh
      go_wp2_with (at_builtin; refine wpList_append_lies _ rfl (.tmp 17) (.tmp 20) _ rfl w.heap.size 30 i0 _ 3 40 Try.underlying40 hi0 hz0 hz1 hz2 rfl (by omega) u3 k ds rfl (N6.out.alloc _) ⟨w2.heap.size, 0, none⟩ 1 1 [.int .i64 q.src, .int .i64 q.dst, .slice (some ⟨wr.heap.size + 1 + 2, 0, none⟩) q.data.length q.data.length] rfl rfl (World.news_of_block (cs := #[.int .i64 q.src, .int .i64 q.dst, .slice (some ⟨wr.heap.size + 1 + 2, 0, none⟩) q.data.length q.data.length]) (t := 30) (fr := (0, 0)) (heap_at _ _ _ rfl)) (by simp [Value.oneCell']) (by omega) (by unfold maxLen; omega) (by omega) (by simp; omega) (w2.heap.size + 1) (by simp) ?_; intro gg cap2 w3 hown3 hgrow hat hlt3)
      have R := newPkts_push (l := b.l.take k) hbw (by rw [HKL.out]; exact N6.out) N8.out (by omega) HH.out (by have := hB.size; simp; omega) (by rw [HKL.out]; simpa [pktCells] using hown3) hgrow hat (by omega)
      rw [HKL.out, ← take_snoc b.l k q HQ.out] at R
      have hB3 : Below w.heap.size w w3 := (hB2.alloc hbw _).grown hgrow (by simp; omega) (fun j hj => (M6.out.lt j hj).1)
      clear hown3 hgrow hat hlt3
      go_wp2_with fail
      go_roundw
      case rel => exact ⟨k + 1, by omega, by go_num, R, hB3⟩
      case measure => simp [intOf]; omega
    · obtain rfl : k = b.l.length := by omega
      rw [List.take_length] at m6 m8
      go_wp2_with fail
      go_ret
      exact ⟨_, rfl, ⟨ds, m6, m8⟩, hB⟩
end Go.Proofs.Ytdjgmgppghipkaa
