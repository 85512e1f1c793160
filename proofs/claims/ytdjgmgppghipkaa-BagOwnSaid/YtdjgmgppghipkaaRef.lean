/- THE WALKS of subletref07: with, Look, Take, Send, Double. -/
import Derived.Test.YtdjgmgppghipkaaLawFair
namespace Go.Proofs.Ytdjgmgppghipkaa
open Go.RowKit

/-- A row of the call's own whose packets' bytes lie in old memory. -/
theorem PktsV.of_row {R : Nat → Prop} {w w' : World} {base : Nat} {v : Value} {l : List Pkt} {cs : List Value} (h1 : w'.ownsRow base 30 3 v l.length cs) (h2 : PktsC R w cs l) (hb : Below w.heap.size w w') : PktsV (fun k => R k ∨ base ≤ k) w' v l := by
  have h2' := h2.keep (w' := w') (fun k hk _ => hb.block k hk) hb.size
  by_cases hl : 0 < l.length
  · obtain ⟨g, cap, rfl, hg, hlt⟩ := h1.form hl
    have hc := h1.cells (g := g) rfl
    obtain ⟨_, h3⟩ := h1
    rcases h3 with ⟨_, h3⟩ | ⟨g', cap', cur, e, _, _, hn, hm, _, _⟩
    · omega
    · injection e with e1 _ e2
      subst e2
      refine ⟨_, cap, rfl, hn, hm, fun h => (by cases h), fun _ => ⟨g, 0, rfl, hlt, Or.inr hg, fun j q hq => ?_⟩⟩
      obtain ⟨dv, d1, d2, d3, d4⟩ := h2'.at_ j q hq
      have k0 := hc _ _ d2
      have k1 := hc _ _ d3
      have k2 := hc _ _ d4
      rw [Addr.add_mid] at k0 k1 k2
      refine ⟨dv, k0, ?_, ?_, d1.mono (fun k _ hk => Or.inl hk)⟩
      · rw [← k1]; congr 1
      · rw [← k2]; congr 1
  · obtain rfl : l = [] := List.eq_nil_of_length_eq_zero (by omega)
    obtain ⟨_, h3⟩ := h1
    rcases h3 with ⟨rfl, _⟩ | ⟨g', cap', cur, rfl, _, _, hn, hm, _, _⟩
    · exact PktsV.nil _ _
    · exact ⟨_, cap', rfl, by simp, hm, fun h => (by cases h), fun h => by simp at h⟩

set_option maxHeartbeats 2000000 in
theorem with_any (R : Nat → Prop) (l : List Pkt) (q : Pkt) (v dv : Value) (w : World) (hv : PktsV R w v l) (hd : BytesV R w dv q.data) (hl : l.length ≤ 1000) :
    Calls Try.prog 30 #[v, .agg #[.int .i64 q.src, .int .i64 q.dst, dv]] w fun e w' =>
      ∃ v', e = .returned v' ∧ PktsV (fun k => R k ∨ w.heap.size ≤ k) w' v' (l ++ [q]) ∧ Below w.heap.size w w' := by
  obtain ⟨i0, hi0, hz0, hz1, hz2⟩ := info_parts Try.info30
  have HV := Lib.hid hv
  have HD := Lib.hid hd
  obtain ⟨a, c, rfl, _⟩ := hv
  obtain ⟨xa, xc, rfl, _⟩ := hd
  go_enter Try.func30, Try.ntmps30
  go_wp2_with fail
  go_loopw [5, 6] (fun u i wr => ∃ (k : Nat) (cs : List Value), k ≤ l.length ∧ i = .int .i64 k ∧ wr.ownsRow (w.heap.size + 1) 30 3 u k cs ∧ PktsC R w cs (l.take k) ∧ Below (w.heap.size + 1) (w.alloc (.cells #[.int .i64 q.src, .int .i64 q.dst, .slice xa q.data.length xc] 30)) wr) (fun _ i _ => l.length - (intOf i).toNat)
  case atStart => exact ⟨0, [], by omega, rfl, World.ownsRow_nil _ _ _ _, .nil, Below.refl _ _⟩
  case round =>
    obtain ⟨k, cs, hk, rfl, hown, hpk, hB⟩ := hrel
    have hB0 : Below w.heap.size w wr := ((Below.refl _ _).alloc (Nat.le_refl _) _).trans (hB.mono (by omega))
    have hbw := hB.size
    have hbw1 : w.heap.size + 1 ≤ wr.heap.size := by simpa using hbw
    by_cases hlt : k < l.length
    · obtain ⟨p, hp⟩ : ∃ p, l[k]? = some p := ⟨_, List.getElem?_eq_getElem hlt⟩
      obtain ⟨b, o, c1, dv, e1, hc, hm, hbs, hR, a0, a1, a2, ad⟩ := HV.out.at_ hp
      injection e1 with e1 _ e2
      subst e1 e2
      have p0 := (hB0.cell (p := ⟨b, o + k * 3, none⟩) hbs).trans a0
      have p1 := (hB0.cell (p := ⟨b, o + k * 3 + 1, none⟩) hbs).trans a1
      have p2 := (hB0.cell (p := ⟨b, o + k * 3 + 2, none⟩) hbs).trans a2
      have AD := Lib.hid ad
      obtain ⟨x1, x2, rfl, _⟩ := ad
      have k0 : (0 : Int) ≤ (k : Int) := by omega
      have k1 : (k : Int) < (l.length : Int) := by omega
      have HO := Lib.hid hown
      have HP := Lib.hid hpk
      clear a0 a1 a2 hown hpk
      go_wp2_with (at_builtin; go_loud (refine wpList_append_lies _ rfl (.tmp 13) (.tmp 18) _ rfl (w.heap.size + 1) 30 i0 _ 3 40 Try.underlying40 hi0 hz0 hz1 hz2 rfl (by omega) u5 k cs rfl (HO.out.alloc _) ⟨wr.heap.size, 0, none⟩ 1 1 [.int .i64 p.src, .int .i64 p.dst, .slice x1 p.data.length x2] rfl rfl (World.news_of_block (cs := #[.int .i64 p.src, .int .i64 p.dst, .slice x1 p.data.length x2]) (t := 30) (fr := (0, 0)) (heap_at _ _ _ rfl)) (by simp [Value.oneCell']) (by omega) (by unfold maxLen; omega) (by omega) (by simp; omega) (wr.heap.size + 1) (by simp) ?_); intro gg cap2 w3 hown3 hgrow hat hlt3)
      refine ⟨⟨k + 1, cs ++ pktCells p (.slice x1 p.data.length x2), by omega, by push_cast; rfl, by simpa [pktCells] using hown3, ?_, (hB.alloc hbw1 _).grown hgrow (by simp; omega) (fun j hj => (HO.out.lt j hj).1)⟩, by simp only [intOf]; omega⟩
      rw [take_snoc l k p hp]
      refine HP.out.append ?_
      rw [← List.append_nil (pktCells p _)]
      exact .cons AD.out .nil
    · obtain rfl : k = l.length := by omega
      rw [List.take_length] at hpk
      obtain ⟨b0, b1, b2, -, -, -⟩ := blk3 ((hB.block w.heap.size (by omega)).trans (heap_at w _ _ rfl))
      have HO := Lib.hid hown
      have HP := Lib.hid hpk
      clear hown hpk
      go_wp2_with (at_builtin; go_loud (refine wpList_append_lies _ rfl (.tmp 20) (.tmp 22) _ rfl (w.heap.size + 1) 30 i0 _ 3 40 Try.underlying40 hi0 hz0 hz1 hz2 rfl (by omega) u5 l.length cs rfl (HO.out.alloc _) ⟨wr.heap.size, 0, none⟩ 1 1 [.int .i64 q.src, .int .i64 q.dst, .slice xa q.data.length xc] rfl rfl (World.news_of_block (cs := #[.int .i64 q.src, .int .i64 q.dst, .slice xa q.data.length xc]) (t := 30) (fr := (0, 0)) (heap_at _ _ _ rfl)) (by simp [Value.oneCell']) (by omega) (by unfold maxLen; omega) (by omega) (by simp; omega) (wr.heap.size + 1) (by simp) ?_); intro gg cap2 w3 hown3 hgrow hat hlt3)
      go_ret
      have hB3 : Below w.heap.size w w3 := (hB0.alloc hB0.size _).grown hgrow (by simp; omega) (fun j hj => by have := (HO.out.lt j hj).1; omega)
      refine ⟨_, rfl, (PktsV.of_row (l := l ++ [q]) (cs := cs ++ pktCells q (.slice xa q.data.length xc)) (by simpa [pktCells] using hown3) ?_ hB3).mono (fun k _ hk => hk.imp id (fun h => by omega)), hB3⟩
      refine HP.out.append ?_
      rw [← List.append_nil (pktCells q _)]
      exact .cons HD.out .nil
end Go.Proofs.Ytdjgmgppghipkaa
