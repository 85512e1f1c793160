/- THE WALKS of Take, Drop and Double. -/
import Derived.Test.YtdjgmgppghipkaaDel
namespace Go.Proofs.Ytdjgmgppghipkaa
open Go.RowKit

/-- One packet is out: the row is shorter. -/
theorem pop_bag {G : Nat → Prop} {w2 w3 : World} {p g n cap i : Nat} {b : Bg} {cs : List Value} (hb : BagAt G w2 p b)
    (h5 : w2.heap[p]? = some (.cells #[.slice (some ⟨g, 0, none⟩) n cap, .int .i64 b.sent, .int .i64 b.lost] 59 (0, 0))) (h6 : w2.ownsRow 0 30 3 (.slice (some ⟨g, 0, none⟩) n cap) n cs) (hG : G g)
    (h8 : PktsC (fun k => G k ∧ k ≠ p ∧ (Value.slice (some ⟨g, 0, none⟩) n cap).ownBlock ≠ some k) w2 cs b.l) (hn : n = b.l.length) (hi : i < n)
    (hown : w3.ownsRow 0 30 3 (.slice (some ⟨g, 0, none⟩) (n - 1) cap) (n - 1) (cs.take (i * 3) ++ cs.drop ((i + 1) * 3))) (hgr : w2.grownBy w3 (some g)) :
    BagAt G (w3.setCell ⟨p, 0, none⟩ (.slice (some ⟨g, 0, none⟩) (n - 1) cap)) p ⟨b.l.eraseIdx i, b.sent, b.lost⟩ := by
  have hne : some g ≠ some p := own_ne h6 h5 (by decide)
  have hgp : p ≠ g := fun e => hne (congrArg some e.symm)
  have hlen : (b.l.eraseIdx i).length = n - 1 := by rw [List.length_eraseIdx_of_lt (by omega)]; omega
  have hK : ∀ k, k < w2.heap.size → k ≠ p → k ≠ g → (w3.setCell ⟨p, 0, none⟩ (.slice (some ⟨g, 0, none⟩) (n - 1) cap)).heap[k]? = w2.heap[k]? := fun k hk h1 h2 =>
    (Below.heap_setCell w3 ⟨p, 0, none⟩ _ k h1).trans (hgr.block k hk (fun e => h2 (by simpa using e)))
  have h3p := (hgr.block p hb.head.2 (fun e => hgp (by simpa using e))).trans h5
  have hsz : w2.heap.size ≤ (w3.setCell ⟨p, 0, none⟩ (.slice (some ⟨g, 0, none⟩) (n - 1) cap)).heap.size := by
    have := hgr.size
    simpa [World.setCell] using this
  have hs := hb.small
  refine ⟨by show (b.l.eraseIdx i).length ≤ 48; omega, hb.low, hb.lows, fun q hq => hb.data q (List.mem_of_mem_eraseIdx hq), ⟨hb.head.1, Nat.lt_of_lt_of_le hb.head.2 hsz⟩, .slice (some ⟨g, 0, none⟩) (n - 1) cap, cs.take (i * 3) ++ cs.drop ((i + 1) * 3), ?_, ?_, ?_, ?_⟩
  · rw [blk_set h3p 0 _]; rfl
  · show World.ownsRow _ _ _ _ _ (b.l.eraseIdx i).length _
    rw [hlen]
    exact ownsRow_keep hown (fun k hk => Below.heap_setCell w3 ⟨p, 0, none⟩ _ k (by
      have : g = k := by simpa [Value.ownBlock] using hk
      rw [← this]; exact fun e => hgp e.symm))
  · intro k hk
    have : g = k := by simpa [Value.ownBlock] using hk
    rw [← this]; exact hG
  · show PktsC _ _ _ (b.l.eraseIdx i)
    rw [List.eraseIdx_eq_take_drop_succ]
    have h9 := (h8.keep (fun k hk hg => hK k hk hg.2.1 (fun e => hg.2.2 (by simp [Value.ownBlock, e]))) hsz)
    exact ((h9.take_drop i).1.append (h9.take_drop (i + 1)).2)

theorem take_no (G : Nat → Prop) (p : Nat) (b : Bg) (k : Int) (w : World) (h : BagAt G w p b) (hk : k < 0 ∨ b.l.length ≤ k) :
    Calls Try.prog 12 #[.pointer (some ⟨p, 0, none⟩), .int .i64 k] w fun e w' => e = .returned (.tuple #[.agg #[.int .i64 0, .int .i64 0, .slice none 0 0], .bool false]) ∧ Below w.heap.size w w' := by
  go_enter Try.func12, Try.ntmps12
  go_wp2_with fail
  refine (look_no G p b k _ (h.below ((Below.refl _ _).alloc (Nat.le_refl _) _)) hk).mono ?_
  rintro e w1 ⟨rfl, hb⟩
  obtain ⟨d0, d1, d2, e0, e1, e2⟩ := blk3 ((hb.block w.heap.size (by simp)).trans (heap_at w _ _ rfl))
  have hlt : w.heap.size < w1.heap.size := Nat.lt_of_lt_of_le (by simp) hb.size
  go_wp2_with fail
  refine bodyPost_ret (v := .tuple #[.agg #[.int .i64 0, .int .i64 0, .slice none 0 0], .bool false]) (by simp [results, Try.results12, go_sem, d0, d1, d2, hlt]) rfl ⟨rfl, ?_⟩
  have hB := below_step ((Below.refl w.heap.size w).alloc (Nat.le_refl _) _) hb
  exact (((hB.setCell (Nat.le_refl _) _).setCell (Nat.le_refl _) _).setCell (Nat.le_refl _) _).alloc (by simp [World.setCell]; omega) _

theorem BagAt.mono {G G' : Nat → Prop} {w : World} {p : Nat} {b : Bg} (h : BagAt G w p b) (hG : ∀ k, k < w.heap.size → G k → G' k) : BagAt G' w p b := by
  obtain ⟨h1, h2, h3, h3', h4, sv, cs, h5, h6, h7, h8⟩ := h
  exact ⟨h1, h2, h3, h3', ⟨hG p h4.2 h4.1, h4.2⟩, sv, cs, h5, h6, fun g hg => hG g (h6.lt g hg).2 (h7 g hg), h8.mono (fun k hk hg => ⟨hG k hk hg.1, hg.2⟩)⟩
theorem BagAt.tight {G : Nat → Prop} {w : World} {p : Nat} {b : Bg} (h : BagAt G w p b) : BagAt (fun k => G k ∧ k < w.heap.size) w p b := h.mono (fun _ hk hg => ⟨hg, hk⟩)

def TakeYes (G : Nat → Prop) (w : World) (p : Nat) (b : Bg) (i : Nat) (q : Pkt) (e : Ending) (w' : World) : Prop :=
  ∃ v, e = .returned (.tuple #[v, .bool true]) ∧ NewPkt w w' v q ∧ BagAt (fun k => G k ∧ k < w.heap.size) w' p ⟨b.l.eraseIdx i, b.sent, b.lost⟩ ∧ Mod G w w'

set_option maxHeartbeats 2000000 in
theorem take_yes (G : Nat → Prop) (p : Nat) (b : Bg) (i : Nat) (q : Pkt) (w : World) (h : BagAt G w p b) (hq : b.l[i]? = some q) :
    Calls Try.prog 12 #[.pointer (some ⟨p, 0, none⟩), .int .i64 i] w (TakeYes G w p b i q) := by
  have hi : i < b.l.length := (List.getElem?_eq_some_iff.1 hq).1
  have hi48 : i < 48 := Nat.lt_of_lt_of_le hi h.small
  have hpw := Lib.hid h.head.2
  have hx := h.below ((Below.refl _ _).alloc (Nat.le_refl _) (.cells #[.int .i64 0, .int .i64 0, .slice none 0 0] 30))
  go_enter Try.func12, Try.ntmps12
  go_wp2_with fail
  refine (look_yes G p b i q _ hx hq).mono ?_
  rintro e w1 ⟨v, rfl, ⟨d, rfl, hd, hdw⟩, hb⟩
  have hB := below_step ((Below.refl w.heap.size w).alloc (Nat.le_refl _) (.cells #[.int .i64 0, .int .i64 0, .slice none 0 0] 30)) hb
  have hx1 := h.tight.below hB
  obtain ⟨_, _, _, _, hhead', sv, cs, h5w, h6w, h7, h8w⟩ := id h.tight
  have hhead := h.head
  obtain ⟨g, cap, rfl, hc, hm, hg, _⟩ := row_cells h6w hi
  have h5 := (hB.block p hhead.2).trans h5w
  have h6 := ownsRow_keep h6w (fun k hk => hB.block k (h6w.lt k hk).2)
  have h8 := h8w.keep (fun k hk _ => hB.block k hk) hB.size
  obtain ⟨a0, a1, a2, b0, b1, b2⟩ := blk3 h5
  obtain ⟨d0, d1, d2, e0, e1, e2⟩ := blk3 ((hb.block w.heap.size (by simp)).trans (heap_at w _ _ rfl))
  have hlt : w.heap.size < w1.heap.size := Nat.lt_of_lt_of_le (by simp) hb.size
  have hwr : IntKind.i64.wrap ((i : Int) + 1) = (i : Int) + 1 := IntWalk.i64_in _ (by omega)
  have hp1 : p < w1.heap.size := Nat.lt_trans hhead.2 hlt
  have K5 := Lib.hid h5
  have K6 := Lib.hid h6
  have K7 := Lib.hid h7
  have K8 := Lib.hid h8
  have KD := Lib.hid hd
  have KG := Lib.hid hg
  have KO := Lib.hid (oneCell_pkts h8)
  clear h5w h6w h8w h5 h6 h7 h8 hd hg hx
  go_wp2_with fail
  refine (delete_any g _ cap i cs _ (K6.out.alloc _) KO.out hi h.small (by unfold maxLen at hm; omega) hc).mono ?_
  rintro e w3 ⟨rfl, hown, hgr⟩
  have hg := KG.out
  have hne : (some g : Option Nat) ≠ some p := own_ne (v := .slice (some ⟨g, 0, none⟩) b.l.length cap) K6.out K5.out (by decide)
  obtain ⟨x0, x1, x2, y0, y1, y2⟩ := blk3 ((hgr.block w1.heap.size (by simp) (by simp; omega)).trans (heap_at w1 _ _ rfl))
  obtain ⟨z0, z1, z2, u0, u1, u2⟩ := blk3 ((hgr.block w.heap.size (by simp; omega) (by simp; omega)).trans ((heap_past w1 _ _ hlt).trans ((hb.block w.heap.size (by simp)).trans (heap_at w _ _ rfl))))
  obtain ⟨s0, s1, s2, t0, t1, t2⟩ := blk3 ((hgr.block p (by simp; omega) (by simp; rintro rfl; exact hne rfl)).trans ((heap_past w1 _ _ hp1).trans K5.out))
  have hpn : p ≠ w.heap.size := by have := hhead.2; omega
  have hpn1 : p ≠ w1.heap.size := by omega
  have hwn : w.heap.size ≠ w1.heap.size := by omega
  clear a0 a1 a2 b0 b1 b2 d0 d1 d2 e0 e1 e2
  go_wp2_with fail
  refine bodyPost_ret (v := .tuple #[.agg #[.int .i64 q.src, .int .i64 q.dst, .slice (some ⟨d, 0, none⟩) q.data.length q.data.length], .bool true]) (by simp [results, Try.results12, go_sem, z0, z1, z2]) rfl ⟨_, rfl, ⟨d, rfl, ?_, ?_⟩, ?_, ?_⟩
  · have hd1 := lt_of_heap KD.out
    have hdp : d ≠ p := by have := hhead.2; have := hdw; simp at this; omega
    have hdn : d ≠ w.heap.size := by have := hdw; simp at this; omega
    have hdg : d ≠ g := by have := hdw; simp at this; omega
    refine blk_far (blk_far (blk_far (blk_far ?_ hdp _) hdn _) hdn _) hdn _
    exact (hgr.block d (by simp; omega) (by simpa using hdg)).trans ((heap_past w1 _ d hd1).trans KD.out)
  · have := hdw; simp at this; omega
  · have hp := pop_bag (hx1.below ((Below.refl _ _).alloc (Nat.le_refl _) _)) ((heap_past w1 _ p hp1).trans K5.out) (K6.out.alloc _) (K7.out g rfl) (K8.out.keep (fun k hk _ => heap_past w1 _ k hk) (by simp)) rfl hi hown hgr
    refine (hp.keep (fun k hk hg => ?_) (by simp [World.setCell])).mono (fun k _ hg => hg)
    have hkn : k ≠ w.heap.size := by have := hg.2; omega
    exact (Below.heap_setCell _ _ _ k hkn).trans ((Below.heap_setCell _ _ _ k hkn).trans (Below.heap_setCell _ _ _ k hkn))
  · have hm1 : Mod G w w3 := Mod.grown ((Mod.of_below hB).alloc _) hgr (fun k hk _ => by
      obtain rfl : g = k := by simpa using hk
      exact (K7.out g rfl).1)
    exact (((hm1.setCell (fun _ => hhead.1) _).setCell (fun h => absurd h (by simp)) _).setCell (fun h => absurd h (by simp)) _).setCell (fun h => absurd h (by simp)) _
end Go.Proofs.Ytdjgmgppghipkaa
