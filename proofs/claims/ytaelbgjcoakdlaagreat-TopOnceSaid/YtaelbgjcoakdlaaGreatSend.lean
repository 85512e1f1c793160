/- THE WALKS of Send: too great, full, one packet more. -/
import Derived.Test.YtaelbgjcoakdlaaGreatBagwM
import Derived.Deep.AppendLies
import Derived.Deep.RegionLaw
namespace Go.Proofs.YtaelbgjcoakdlaaGreat.Bg7
open Go.RowKit

/-- G, and what is new behind w. -/
def Up (G : Nat → Prop) (w : World) (k : Nat) : Prop := G k ∨ w.heap.size ≤ k

theorem BagAt.up {G : Nat → Prop} {w' w0 : World} {p : Nat} {b : Bg} (h : BagAt G w' p b) : BagAt (Up G w0) w' p b := by
  obtain ⟨h1, h2, h3, h3', h4, sv, cs, h5, h6, h7, h8⟩ := h
  exact ⟨h1, h2, h3, h3', ⟨Or.inl h4.1, h4.2⟩, sv, cs, h5, h6, fun g hg => Or.inl (h7 g hg), h8.mono (fun k _ hk => ⟨Or.inl hk.1, hk.2⟩)⟩

theorem own_ne {w : World} {base : Nat} {e : TypeId} {size n : Nat} {v : Value} {xs : List Value} {g : Nat} {t : TypeId} {cs : Array Value} {fr : Nat × Nat} (h : w.ownsRow base e size v n xs) (hg : w.heap[g]? = some (.cells cs t fr)) (hne : e ≠ t) : v.ownBlock ≠ some g := by
  rcases h.2 with ⟨rfl, _⟩ | ⟨g', cap, cur, rfl, _, hh, _⟩
  · simp [Value.ownBlock]
  · intro he
    have : g' = g := by simpa [Value.ownBlock] using he
    subst this
    rw [hh] at hg
    injection hg with hg
    injection hg with _ ht
    exact hne ht

/-- One of the counts is written anew. -/
theorem BagAt.count {G : Nat → Prop} {w : World} {p : Nat} {b : Bg} {i : Nat} {u : Value} {s l : Nat} (h : BagAt G w p b) (hs : s < 4611686018427387904) (hl : l < 4611686018427387904)
    (hc : ∀ sv : Value, (#[sv, Value.int .i64 b.sent, Value.int .i64 b.lost] : Array Value).setIfInBounds i u = #[sv, Value.int .i64 s, Value.int .i64 l]) :
    BagAt G (w.setCell ⟨p, i, none⟩ u) p ⟨b.l, s, l⟩ := by
  obtain ⟨h1, h2, h3, h3', h4, sv, cs, h5, h6, h7, h8⟩ := h
  have hp := own_ne h6 h5 (by decide)
  have hk : ∀ k, k ≠ p → (w.setCell ⟨p, i, none⟩ u).heap[k]? = w.heap[k]? := fun k hk => Below.heap_setCell w ⟨p, i, none⟩ u k hk
  refine ⟨h1, hl, hs, h3', ⟨h4.1, by simpa [World.setCell] using h4.2⟩, sv, cs, ?_, ownsRow_keep h6 (fun g hg => hk g (fun e => hp (e ▸ hg))), h7, h8.keep (fun k _ hg => hk k hg.2.1) (by simp [World.setCell])⟩
  rw [blk_set h5 i u, hc sv]

theorem Mod.box {G : Nat → Prop} (w : World) (o : Obj) : Mod G w (w.alloc o) := (Mod.refl _ _).alloc o

theorem send_big (G D : Nat → Prop) (p : Nat) (b : Bg) (q : Pkt) (dv : Value) (w : World) (h : BagAt G w p b) (hd : BytesV D w dv q.data) (hbig : 200 < q.data.length) (hl : b.lost + 1 < 4611686018427387904) :
    Calls Tryz.prog 27 #[.pointer (some ⟨p, 0, none⟩), .agg #[.int .i64 q.src, .int .i64 q.dst, dv]] w fun e w' =>
      e = .returned (.int .i64 41) ∧ BagAt (Up G w) w' p ⟨b.l, b.sent, b.lost + 1⟩ ∧ Mod G w w' := by
  have hx := h.below ((Below.refl _ _).alloc (Nat.le_refl _) (.cells #[.int .i64 q.src, .int .i64 q.dst, dv] 41))
  obtain ⟨_, _, _, _, hp, sv, cs, h5, h6, h7, h8⟩ := id hx
  obtain ⟨a0, a1, a2, b0, b1, b2⟩ := blk3 h5
  obtain ⟨a, c, rfl, hc, hm, _⟩ := hd
  have HX := Lib.hid hx
  clear hx h5 h6 h7 h8 b0 b1
  go_enter Tryz.func27, Tryz.ntmps27
  go_wp2_with fail
  go_ret
  exact ⟨rfl, (HX.out.count h.lows hl (fun sv => by simp)).up, (Mod.box w _).setCell (fun _ => hp.1) _⟩

theorem send_full (G D : Nat → Prop) (p : Nat) (b : Bg) (q : Pkt) (dv : Value) (w : World) (h : BagAt G w p b) (hd : BytesV D w dv q.data) (hbig : q.data.length ≤ 200) (hf : 48 ≤ b.l.length) (hl : b.lost + 1 < 4611686018427387904) :
    Calls Tryz.prog 27 #[.pointer (some ⟨p, 0, none⟩), .agg #[.int .i64 q.src, .int .i64 q.dst, dv]] w fun e w' =>
      e = .returned (.int .i64 51) ∧ BagAt (Up G w) w' p ⟨b.l, b.sent, b.lost + 1⟩ ∧ Mod G w w' := by
  have hx := h.below ((Below.refl _ _).alloc (Nat.le_refl _) (.cells #[.int .i64 q.src, .int .i64 q.dst, dv] 41))
  obtain ⟨_, _, _, _, hp, sv, cs, h5, h6, h7, h8⟩ := id hx
  obtain ⟨a0, a1, a2, b0, b1, b2⟩ := blk3 h5
  obtain ⟨a, c, rfl, hc, hm, _⟩ := hd
  obtain ⟨g, cap, rfl, _⟩ := h6.form (by omega)
  have HX := Lib.hid hx
  clear hx h5 h6 h7 h8 b0 b1
  go_enter Tryz.func27, Tryz.ntmps27
  go_wp2_with fail
  go_ret
  exact ⟨rfl, (HX.out.count h.lows hl (fun sv => by simp)).up, (Mod.box w _).setCell (fun _ => hp.1) _⟩

/-- In the midst of a push: the bag's block holds sv, the counts s and l; its row and its packets stand; q's bytes are the slice dv, off the bag's blocks. -/
structure Mid (G D : Nat → Prop) (w : World) (p : Nat) (l : List Pkt) (s t : Nat) (sv : Value) (cs : List Value) (q : Pkt) (dv : Value) (wx : World) : Prop where
  head : wx.heap[p]? = some (.cells #[sv, .int .i64 s, .int .i64 t] 71 (0, 0))
  own : wx.ownsRow 0 41 3 sv l.length cs
  pk : PktsC (fun k => G k ∧ k ≠ p ∧ sv.ownBlock ≠ some k) wx cs l
  dv : BytesV D wx dv q.data
  mod : Mod G w wx

theorem Mid.below {G D : Nat → Prop} {w : World} {p : Nat} {l : List Pkt} {s t : Nat} {sv : Value} {cs : List Value} {q : Pkt} {dv : Value} {wx w2 : World} (h : Mid G D w p l s t sv cs q dv wx) (hb : Below wx.heap.size wx w2) : Mid G D w p l s t sv cs q dv w2 :=
  ⟨(hb.block p (lt_of_heap h.head)).trans h.head, ownsRow_keep h.own (fun g hg => hb.block g (h.own.lt g hg).2), h.pk.keep (fun k hk _ => hb.block k hk) hb.size, h.dv.below hb, h.mod.below hb⟩

theorem Mid.grown {G D : Nat → Prop} {w : World} {p : Nat} {l : List Pkt} {s t : Nat} {sv : Value} {cs : List Value} {q : Pkt} {dv : Value} {w2 w3 : World} {O : Obj} (h : Mid G D w p l s t sv cs q dv w2) (hgrow : (w2.alloc O).grownBy w3 sv.ownBlock) :
    w3.heap[p]? = some (.cells #[sv, .int .i64 s, .int .i64 t] 71 (0, 0)) :=
  (hgrow.block p (by have := lt_of_heap h.head; simp; omega) (fun e => own_ne h.own h.head (by decide) e.symm)).trans ((heap_past w2 O p (lt_of_heap h.head)).trans h.head)

/-- The push is done: the new packet's bytes are a block of their own, d; the row lies in block gg. -/
theorem push_bag {G D : Nat → Prop} {w : World} {p : Nat} {l : List Pkt} {s t : Nat} {sv : Value} {cs : List Value} {q q0 : Pkt} {dv : Value} {w2 w3 : World} {d gg cap : Nat} {O : Obj}
    (h : Mid G D w p l s t sv cs q0 dv w2) (hG : G p) (hGs : ∀ g, sv.ownBlock = some g → G g) (hs : s < 4611686018427387904) (ht : t < 4611686018427387904) (hl : l.length < 48) (hq : q.data.length ≤ 200) (hall : ∀ x ∈ l, x.data.length ≤ 200) (hpw : p < w.heap.size)
    (hd : w2.heap[d]? = some (.cells (q.data.map B8).toArray 5 (0, 0))) (hdw : w.heap.size ≤ d)
    (hown : w3.ownsRow 0 41 3 (.slice (some ⟨gg, 0, none⟩) (l.length + 1) cap) (l.length + 1) (cs ++ pktCells q (.slice (some ⟨d, 0, none⟩) q.data.length q.data.length)))
    (hgrow : (w2.alloc O).grownBy w3 sv.ownBlock) (hat : sv.ownBlock = some gg ∨ gg = w2.heap.size + 1) :
    BagAt (Up G w) (w3.setCell ⟨p, 0, none⟩ (.slice (some ⟨gg, 0, none⟩) (l.length + 1) cap)) p ⟨l ++ [q], s, t⟩ ∧ Mod G w (w3.setCell ⟨p, 0, none⟩ (.slice (some ⟨gg, 0, none⟩) (l.length + 1) cap)) := by
  have hp := own_ne h.own h.head (by decide)
  have hp2 := lt_of_heap h.head
  have hd2 := lt_of_heap hd
  have hggp : gg ≠ p := by
    rcases hat with e | e
    · intro h'; exact hp (h' ▸ e)
    · omega
  have hds : sv.ownBlock ≠ some d := by
    intro e
    obtain ⟨hh, hr⟩ := h.own
    rcases hr with ⟨rfl, _⟩ | ⟨g', cap', cur, rfl, _, hh', _⟩
    · simp [Value.ownBlock] at e
    · have : g' = d := by simpa [Value.ownBlock] using e
      subst this
      rw [hd] at hh'
      injection hh' with hh'
      injection hh' with _ ht'
      exact absurd ht' (by decide)
  have hdg : gg ≠ d := by
    rcases hat with e | e
    · intro h'; exact hds (h' ▸ e)
    · omega
  have hK : ∀ k, k < w2.heap.size → k ≠ p → sv.ownBlock ≠ some k → (w3.setCell ⟨p, 0, none⟩ (.slice (some ⟨gg, 0, none⟩) (l.length + 1) cap)).heap[k]? = w2.heap[k]? := fun k hk h1 h2 =>
    (Below.heap_setCell w3 ⟨p, 0, none⟩ _ k h1).trans ((hgrow.block k (by simp; omega) (fun e => h2 e.symm)).trans (heap_past w2 O k hk))
  have h3p : w3.heap[p]? = some (.cells #[sv, .int .i64 s, .int .i64 t] 71 (0, 0)) := (hgrow.block p (by simp; omega) (fun e => hp e.symm)).trans ((heap_past w2 O p hp2).trans h.head)
  have hsz : w2.heap.size ≤ (w3.setCell ⟨p, 0, none⟩ (.slice (some ⟨gg, 0, none⟩) (l.length + 1) cap)).heap.size := by
    have := hgrow.size
    simp [World.setCell] at this ⊢
    omega
  refine ⟨⟨by simp; omega, ht, hs, ?_, ⟨Or.inl hG, by have := hsz; omega⟩, .slice (some ⟨gg, 0, none⟩) (l.length + 1) cap, cs ++ pktCells q (.slice (some ⟨d, 0, none⟩) q.data.length q.data.length), ?_, ?_, ?_, ?_⟩, ?_⟩
  · intro x hx
    rcases List.mem_append.1 hx with hx | hx
    · exact hall x hx
    · obtain rfl : x = q := by simpa using hx
      exact hq
  · rw [blk_set h3p 0 _]; rfl
  · rw [List.length_append]
    exact ownsRow_keep hown (fun g hg => Below.heap_setCell w3 ⟨p, 0, none⟩ _ g (by
      have : gg = g := by simpa [Value.ownBlock] using hg
      rw [← this]; exact hggp))
  · intro g hg
    obtain rfl : gg = g := by simpa [Value.ownBlock] using hg
    rcases hat with e | e
    · exact Or.inl (hGs gg e)
    · right; have := h.mod.size; omega
  · have h1 := ((h.pk.mono (G' := fun k => (Up G w k ∧ k ≠ p ∧ some gg ≠ some k) ∧ sv.ownBlock ≠ some k) (fun k hk hg => ⟨⟨Or.inl hg.1, hg.2.1, fun e => ?_⟩, hg.2.2⟩)).keep (fun k hk hg => hK k hk hg.1.2.1 hg.2) hsz).mono (G' := fun k => Up G w k ∧ k ≠ p ∧ (Value.slice (some ⟨gg, 0, none⟩) (l.length + 1) cap).ownBlock ≠ some k) (fun k _ hg => hg.1)
    · refine PktsC.append h1 ?_
      rw [← List.append_nil (pktCells q _)]
      refine .cons ?_ .nil
      refine (BytesV.of_block (l := q.data) (c := q.data.length) (cs := (q.data.map B8).toArray) ((hK d hd2 (by rintro rfl; omega) hds).trans hd) (fun j x hx => by simp [hx]) (Nat.le_refl _) (by unfold maxLen; omega)).mono (fun k _ hk => ?_)
      subst hk
      exact ⟨Or.inr hdw, by rintro rfl; omega, by simpa [Value.ownBlock] using hdg⟩
    · obtain rfl : gg = k := by simpa using e
      rcases hat with e' | e'
      · exact hg.2.2 e'
      · omega
  · exact (Mod.grown (h.mod.alloc O) hgrow (fun k hk _ => hGs k hk)).setCell (fun _ => hG) _

theorem Tryz.info30 : (Tryz.prog.info? 41).map (fun i => (i.zero, i.size, i.bytes)) = some (some (.agg #[.int .i64 0, .int .i64 0, .slice none 0 0]), 3, 40) := by kernel_rfl

set_option maxRecDepth 100000 in
set_option maxHeartbeats 2000000 in
theorem send_ok (G D : Nat → Prop) (p : Nat) (b : Bg) (q : Pkt) (dv : Value) (w : World) (h : BagAt G w p b) (hd : BytesV D w dv q.data) (hD : ∀ k, k < w.heap.size → D k → k ≠ p) (hbig : q.data.length ≤ 200) (hf : b.l.length < 48) (hl : b.sent + 1 < 4611686018427387904) :
    Calls Tryz.prog 27 #[.pointer (some ⟨p, 0, none⟩), .agg #[.int .i64 q.src, .int .i64 q.dst, dv]] w fun e w' =>
      e = .returned (.int .i64 0) ∧ BagAt (Up G w) w' p ⟨b.l ++ [q], b.sent + 1, b.lost⟩ ∧ Mod G w w' := by
  have hx := h.below ((Below.refl _ _).alloc (Nat.le_refl _) (.cells #[.int .i64 q.src, .int .i64 q.dst, dv] 41))
  obtain ⟨_, _, _, _, hp, sv, cs, h5, h6, h7, h8⟩ := id hx
  obtain ⟨a0, a1, a2, b0, b1, b2⟩ := blk3 h5
  have hdx := hd.below ((Below.refl _ _).alloc (Nat.le_refl _) (.cells #[.int .i64 q.src, .int .i64 q.dst, dv] 41))
  have hfm : ∃ a c, sv = .slice a b.l.length c := by
    rcases h6.2 with ⟨h, h'⟩ | ⟨g, cap, cur, hv, _⟩
    · exact ⟨none, 0, by rw [h, h']⟩
    · exact ⟨_, _, hv⟩
  obtain ⟨sa, sc, rfl⟩ := hfm
  have HP := Lib.hid h.head.2
  have HDD := Lib.hid hD
  obtain ⟨a, c, rfl, hc, hm, _⟩ := id hd
  have H5 := Lib.hid h5
  have H6 := Lib.hid h6
  have H7 := Lib.hid h7
  have H8 := Lib.hid h8
  have HD := Lib.hid hdx
  clear hx h5 h6 h7 h8 hdx b0 b2
  go_enter Tryz.func27, Tryz.ntmps27
  go_upto_region 9 with fail
  go_cut [] (fun wx => wx.heap[w.heap.size]? = some (.cells #[.int .i64 q.src, .int .i64 q.dst, .slice a q.data.length c] 41 (0, 0)) ∧ Mid G D w p b.l (b.sent + 1) b.lost (.slice sa b.l.length sc) cs q (.slice a q.data.length c) wx)
  case first =>
    go_wp2_with fail
    go_meet
    have hne := own_ne H6.out H5.out (by decide)
    have hpw : p < w.heap.size := HP.out
    refine ⟨blk_far (heap_at w _ _ rfl) (by simp; omega) _, ⟨?_, ownsRow_keep H6.out (fun g hg => Below.heap_setCell _ _ _ g (fun e => hne (by rw [hg]; exact congrArg some e))), H8.out.keep (fun k _ hg => Below.heap_setCell _ _ _ k hg.2.1) (by simp [World.setCell]), ?_, (Mod.box w _).setCell (fun _ => hp.1) _⟩⟩
    · rw [blk_set H5.out 1 _]; simp
    · exact HD.out.keep (fun k _ hg => Below.heap_setCell _ _ _ k (by
        rintro rfl
        exact HDD.out _ hpw hg rfl)) (by simp [World.setCell])
  case rest =>
    obtain ⟨hbx, hM⟩ := hcut
    clear a0 a1 a2 b1 H5 H6 H8 HD hd
    have hMd : Mid G D w p b.l (b.sent + 1) b.lost (.slice sa b.l.length sc) cs q (.slice a q.data.length c) wc.drew := hM.below (Below.refl _ _).drew
    obtain ⟨a0, a1, a2, b0, b1, b2⟩ := blk3 hM.head
    obtain ⟨x0, x1, x2, y0, y1, y2⟩ := blk3 hbx
    obtain ⟨i0, hi, hz0, hz1, hz2⟩ := info_parts Tryz.info30
    have HM := Lib.hid hMd
    clear hM hMd hbx
    clear y0 y1 y2
    go_wp2_with fail
    go_region_law
      (first
        | (refine step_append_lies _ (by rfl) _ _ _ (by rfl) 0 41 i0 _ 3 40 Tryz.underlying69 hi hz0 hz1 hz2 rfl (by omega) (.slice sa b.l.length sc) b.l.length cs (by rfl) (HM2.out.own.alloc _) ⟨w2.heap.size, 0, none⟩ 1 1 [.int .i64 q.src, .int .i64 q.dst, .slice (some ⟨wc.heap.size + 2, 0, none⟩) q.data.length q.data.length] (by rfl) (by rfl)
            (World.news_of_block (cs := #[.int .i64 q.src, .int .i64 q.dst, .slice (some ⟨wc.heap.size + 2, 0, none⟩) q.data.length q.data.length]) (t := 41) (fr := (0, 0)) (heap_alloc_new w2 _)) (by simp [Value.oneCell']) (by omega) (by unfold maxLen; omega) (by omega) (by omega) (w2.heap.size + 1) (by simp) ?_
           intro gg cap w3 hown3 hgrow hat hlt
           obtain ⟨z0, z1, z2, f0, f1, f2⟩ := blk3 (HM2.out.grown hgrow))
        | (go_simp; go_at_call 30; refine (twin_any _ _ _ _ q.data _ HM.out.dv (by omega)).mono ?_; rintro e w2 ⟨rfl, hh, hb⟩; have HM2 := Lib.hid (HM.out.below hb); obtain ⟨a0', a1', a2', b0', b1', b2'⟩ := blk3 HM2.out.head; have hp2 : p < w2.heap.size := lt_of_heap HM2.out.head))
    all_goals
      go_wp2_with fail
      go_ret
      have R := push_bag HM2.out hp.1 H7.out (by omega) h.low (by omega) hbig h.data HP.out hh (Nat.le_trans HM.out.mod.size (Nat.le_add_right _ 2)) hown3 hgrow hat
      exact ⟨rfl, R.1, R.2⟩
end Go.Proofs.YtaelbgjcoakdlaaGreat.Bg7

