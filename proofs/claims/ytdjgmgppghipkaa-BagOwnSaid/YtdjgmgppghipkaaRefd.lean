/- THE WALK of subletref07.Take. -/
import Derived.Test.YtdjgmgppghipkaaRefc
import Derived.RegionTactic
import Derived.ChangeAlike
namespace Go.Proofs.Ytdjgmgppghipkaa
open Go.RowKit

theorem erase_out {α : Type} (l : List α) (i k : Nat) (p : α) (hp : l[k]? = some p) (h : k < i) : (l.take (k + 1)).eraseIdx i = (l.take k).eraseIdx i ++ [p] := by
  have hk := (List.getElem?_eq_some_iff.1 hp).1
  rw [List.eraseIdx_of_length_le (by simp; omega), List.eraseIdx_of_length_le (by simp; omega), List.take_add_one, hp]; rfl
theorem erase_at {α : Type} (l : List α) (i : Nat) (p : α) (hp : l[i]? = some p) : (l.take (i + 1)).eraseIdx i = (l.take i).eraseIdx i := by
  have hk := (List.getElem?_eq_some_iff.1 hp).1
  rw [List.take_add_one, hp, List.eraseIdx_append_of_length_le (by simp; omega), List.eraseIdx_of_length_le (l := l.take i) (by simp; omega)]
  simp [Nat.min_eq_left (Nat.le_of_lt hk)]
theorem erase_in {α : Type} (l : List α) (i k : Nat) (p : α) (hp : l[k]? = some p) (h : i < k) : (l.take (k + 1)).eraseIdx i = (l.take k).eraseIdx i ++ [p] := by
  have hk := (List.getElem?_eq_some_iff.1 hp).1
  rw [List.take_add_one, hp, List.eraseIdx_append_of_lt_length (by simp; omega)]; rfl

theorem own_slice {w : World} {base : Nat} {e : TypeId} {size n : Nat} {v : Value} {xs : List Value} (h : w.ownsRow base e size v n xs) : ∃ a c, v = .slice a n c := by
  rcases h.2 with ⟨h, h'⟩ | ⟨g, cap, cur, hv, _⟩
  · exact ⟨none, 0, by rw [h, h']⟩
  · exact ⟨_, _, hv⟩

theorem keep_set {X Y : World} {k : Nat} {p : Addr} {u : Value} (h : X.heap[k]? = Y.heap[k]?) (hne : k ≠ p.block) : (X.setCell p u).heap[k]? = Y.heap[k]? := (Below.heap_setCell X p u k hne).trans h
theorem keep_drew {X Y : World} {k : Nat} (h : X.heap[k]? = Y.heap[k]?) : X.drew.heap[k]? = Y.heap[k]? := h

def RTook (R : Nat → Prop) (w : World) (m : Bg) (ok : Bool) (e : Ending) (w' : World) : Prop :=
  ∃ v' x y a n c, e = .returned (.tuple #[v', .agg #[.int .i64 x, .int .i64 y, .slice a n c], .bool ok]) ∧ RefB (fun k => R k ∨ w.heap.size ≤ k) w' v' m ∧ Below w.heap.size w w'

set_option maxHeartbeats 2000000 in
theorem rtake_any (R : Nat → Prop) (m : Bg) (v : Value) (k : Int) (w : World) (h : RefB R w v m) :
    Calls Try.prog 23 #[v, .int .i64 k] w (RTook R w (m.drop k) (m.at_ k).isSome) := by
  have h' := h.mono (R' := fun k => R k ∧ k < w.heap.size) (fun k hk h => ⟨h, hk⟩)
  obtain ⟨i0, hi0, hz0, hz1, hz2⟩ := info_parts Try.info30
  obtain ⟨⟨lv, rfl, hlv⟩, hsm, hs0, hl0⟩ := h
  have HL := Lib.hid (hlv.mono (G' := fun k => R k ∧ k < w.heap.size) (fun k hk h => ⟨h, hk⟩))
  have HR := Lib.hid h'
  clear h'
  obtain ⟨a, c, rfl, _, hcm, _⟩ := hlv
  unfold maxLen at hcm
  go_enter Try.func23, Try.ntmps23
  go_wp2_with fail
  refine (rlook_any _ m _ k _ (HR.out.keep (fun k hk _ => (three w _ _ _).block k hk) (three w _ _ _).size)).mono ?_
  rintro e w3 ⟨hg, hb3⟩
  have HB := Lib.hid (below_step (three w _ _ _) hb3)
  have hs3 : w.heap.size + 1 + 1 + 1 ≤ w3.heap.size := by have := hb3.size; simpa using this
  obtain ⟨a0, a1, a2, b0, b1, b2⟩ := blk3 ((hb3.block w.heap.size (by simp; omega)).trans (blk_alloc (blk_alloc (heap_at w _ _ rfl) _) _))
  obtain ⟨d0, d1, d2, e0, e1, e2⟩ := blk3 ((hb3.block (w.heap.size + 1) (by simp <;> omega)).trans (blk_alloc (heap_at _ _ _ (by simp)) _))
  obtain ⟨f0, f1, f2, g0, g1, g2⟩ := blk3 ((hb3.block (w.heap.size + 1 + 1) (by simp)).trans (heap_at _ _ _ (by simp)))
  have p0 : w.heap.size < w3.heap.size := by omega
  have p1 : w.heap.size + 1 < w3.heap.size := by omega
  have p2 : w.heap.size + 1 + 1 < w3.heap.size := by omega
  cases hat : m.at_ k with
  | none =>
    rw [hat] at hg
    replace hg : e = .returned (.tuple #[.agg #[.int .i64 0, .int .i64 0, .slice none 0 0], .bool false]) := hg
    subst hg
    have q1 : m.drop k = m := by unfold Bg.drop; rw [hat]
    go_wp2_with fail
    go_region
    all_goals
      go_wp2_with fail
      refine bodyPost_ret (v := .tuple #[.agg #[.slice a m.l.length c, .int .i64 m.sent, .int .i64 m.lost], .agg #[.int .i64 0, .int .i64 0, .slice none 0 0], .bool false]) (by simp [results, Try.results23, go_sem, d0, d1, d2, f0, f1, f2, p1, p2]) rfl ?_
      have hBf : Below w.heap.size w _ := ((((((((HB.out.setCell (p := ⟨w.heap.size + 1, 0, none⟩) (by simp) (.slice a m.l.length c)).setCell (p := ⟨w.heap.size + 1, 1, none⟩) (by simp) (.int .i64 m.sent)).setCell (p := ⟨w.heap.size + 1, 2, none⟩) (by simp) (.int .i64 m.lost)).setCell (p := ⟨w.heap.size + 1 + 1, 0, none⟩) (by simp; omega) (.int .i64 0)).setCell (p := ⟨w.heap.size + 1 + 1, 1, none⟩) (by simp; omega) (.int .i64 0)).setCell (p := ⟨w.heap.size + 1 + 1, 2, none⟩) (by simp; omega) (.slice none 0 0)).alloc (by simp [World.setCell]; omega) (.cells #[.int .i64 0, .int .i64 0, .slice none 0 0] 30)).drew)
      rw [q1, hat]
      exact ⟨_, _, _, _, _, _, rfl, ⟨⟨_, rfl, (HL.out.below hBf).mono (fun _ _ h => Or.inl h.1)⟩, hsm, hs0, hl0⟩, hBf⟩
  | some q =>
    rw [hat] at hg
    obtain ⟨dv, rfl, hdv⟩ := hg
    obtain ⟨ix, rfl, hix⟩ := Bg.at_some hat
    have q1 : m.drop (ix : Int) = ⟨m.l.eraseIdx ix, m.sent, m.lost⟩ := by unfold Bg.drop; rw [hat]; simp
    have Q1 := Lib.hid q1
    have HA := Lib.hid hat
    have HX := Lib.hid hix
    clear q1 hix hat
    obtain ⟨xa, xc, rfl, _⟩ := hdv
    clear hb3
    go_wp2_with fail
    go_loopw [9, 10] (fun u i wr => ∃ (k : Nat) (kl : List Pkt) (cs : List Value), k ≤ m.l.length ∧ i = .int .i64 k ∧ Hid (kl = (m.l.take k).eraseIdx ix) ∧ kl.length ≤ k ∧ wr.ownsRow (w3.heap.size + 1) 30 3 u kl.length cs ∧ PktsC (fun k => R k ∧ k < w.heap.size) w cs kl ∧ Below (w3.heap.size + 1) (w3.alloc (.cells #[.int .i64 q.src, .int .i64 q.dst, .slice xa q.data.length xc] 30)) wr) (fun _ i _ => m.l.length - (intOf i).toNat)
    case atStart => exact ⟨0, [], [], by omega, rfl, Lib.hid (by simp), by simp, World.ownsRow_nil _ _ _ _, .nil, Below.refl _ _⟩
    case round =>
      obtain ⟨k, kl, cs, hk, rfl, HKL, hkl, hown, hpk, hB⟩ := hrel
      have hB3 : Below w3.heap.size w3 wr := ((Below.refl _ _).alloc (Nat.le_refl _) _).trans (hB.mono (by omega))
      have hB0 : Below w.heap.size w wr := below_step HB.out (hB3.mono (by omega))
      have hbw1 : w3.heap.size + 1 ≤ wr.heap.size := by have := hB.size; simpa using this
      have A0 := (hB3.cell (p := ⟨w.heap.size, 0, none⟩) p0).trans a0
      have HO := Lib.hid hown
      have HP := Lib.hid hpk
      have k0 : (0 : Int) ≤ (k : Int) := by omega
      clear a0 hown hpk
      by_cases hlt : k < m.l.length
      · obtain ⟨p, hp⟩ : ∃ p, m.l[k]? = some p := ⟨_, List.getElem?_eq_getElem hlt⟩
        obtain ⟨b, o, c1, dv, e1, hc, hm, hbs, hR, t0, t1, t2, ad⟩ := HL.out.at_ hp
        injection e1 with e1 _ e2
        subst e1 e2
        have s0 := (hB0.cell (p := ⟨b, o + k * 3, none⟩) hbs).trans t0
        have s1 := (hB0.cell (p := ⟨b, o + k * 3 + 1, none⟩) hbs).trans t1
        have s2 := (hB0.cell (p := ⟨b, o + k * 3 + 2, none⟩) hbs).trans t2
        have AD := Lib.hid ad
        have HPk := Lib.hid hp
        obtain ⟨x1, x2, rfl, _⟩ := ad
        have k1 : (k : Int) < (m.l.length : Int) := by omega
        clear t0 t1 t2 hp
        by_cases hki : k = ix
        · subst hki
          have hb : ((k : Int) != (k : Int)) = false := by simp
          go_wp2_with fail
          refine ⟨⟨k + 1, kl, cs, by omega, by push_cast; rfl, Lib.hid (by rw [HKL.out, erase_at _ _ _ HPk.out]), by omega, HO.out, HP.out, hB⟩, by simp only [intOf]; omega⟩
        · have hb : ((k : Int) != (ix : Int)) = true := by rw [bne_iff_ne]; omega
          have hb2 : ((k : Int) == (ix : Int)) = false := by rw [beq_eq_false_iff_ne]; omega
          have HKI := Lib.hid hki
          clear hki
          go_wp2_with (at_builtin; go_loud (refine wpList_append_lies _ rfl (.tmp 31) (.tmp 37) _ rfl (w3.heap.size + 1) 30 i0 _ 3 40 Try.underlying40 hi0 hz0 hz1 hz2 rfl (by omega) u9 kl.length cs rfl (HO.out.alloc _) ⟨wr.heap.size, 0, none⟩ 1 1 [.int .i64 p.src, .int .i64 p.dst, .slice x1 p.data.length x2] rfl rfl (World.news_of_block (cs := #[.int .i64 p.src, .int .i64 p.dst, .slice x1 p.data.length x2]) (t := 30) (fr := (0, 0)) (heap_at _ _ _ rfl)) (by simp [Value.oneCell']) (by omega) (by unfold maxLen; omega) (by omega) (by simp; omega) (wr.heap.size + 1) (by simp) ?_); intro gg cap2 w4 hown3 hgrow hat hlt3)
          refine ⟨⟨k + 1, kl ++ [p], cs ++ pktCells p (.slice x1 p.data.length x2), by omega, by push_cast; rfl, Lib.hid ?_, by simp; omega, by simpa [pktCells] using hown3, ?_, (hB.alloc hbw1 _).grown hgrow (by simp; omega) (fun j hj => (HO.out.lt j hj).1)⟩, by simp only [intOf]; omega⟩
          · rw [HKL.out]
            rcases Nat.lt_or_ge k ix with h | h
            · rw [erase_out _ _ _ _ HPk.out h]
            · rw [erase_in _ _ _ _ HPk.out (by have := HKI.out; omega)]
          · refine HP.out.append ?_
            rw [← List.append_nil (pktCells p _)]
            exact .cons AD.out .nil
      · obtain rfl : k = m.l.length := by omega
        have hkl2 : kl = m.l.eraseIdx ix := by rw [HKL.out, List.take_length]
        subst hkl2
        obtain ⟨ua, uc, rfl⟩ := own_slice HO.out
        have A1 := (hB3.cell (p := ⟨w.heap.size, 1, none⟩) p0).trans a1
        have A2 := (hB3.cell (p := ⟨w.heap.size, 2, none⟩) p0).trans a2
        have B0 := (hB3.frozen (p := ⟨w.heap.size, 0, none⟩) p0).trans b0
        have D0 := (hB3.cell (p := ⟨w.heap.size + 1, 0, none⟩) p1).trans d0
        have D1 := (hB3.cell (p := ⟨w.heap.size + 1, 1, none⟩) p1).trans d1
        have D2 := (hB3.cell (p := ⟨w.heap.size + 1, 2, none⟩) p1).trans d2
        have E0 := (hB3.frozen (p := ⟨w.heap.size + 1, 0, none⟩) p1).trans e0
        have E1 := (hB3.frozen (p := ⟨w.heap.size + 1, 1, none⟩) p1).trans e1
        have E2 := (hB3.frozen (p := ⟨w.heap.size + 1, 2, none⟩) p1).trans e2
        have F0 := (hB3.cell (p := ⟨w.heap.size + 1 + 1, 0, none⟩) p2).trans f0
        have F1 := (hB3.cell (p := ⟨w.heap.size + 1 + 1, 1, none⟩) p2).trans f1
        have F2 := (hB3.cell (p := ⟨w.heap.size + 1 + 1, 2, none⟩) p2).trans f2
        have G0 := (hB3.frozen (p := ⟨w.heap.size + 1 + 1, 0, none⟩) p2).trans g0
        have G1 := (hB3.frozen (p := ⟨w.heap.size + 1 + 1, 1, none⟩) p2).trans g1
        have G2 := (hB3.frozen (p := ⟨w.heap.size + 1 + 1, 2, none⟩) p2).trans g2
        obtain ⟨y0, y1, y2, -, -, -⟩ := blk3 ((hB.block w3.heap.size (by omega)).trans (heap_at w3 _ _ rfl))
        have r0 : w.heap.size < wr.heap.size := by omega
        have r1 : w.heap.size + 1 < wr.heap.size := by omega
        have r2 : w.heap.size + 1 + 1 < wr.heap.size := by omega
        clear a1 a2 b0 b1 b2 d0 d1 d2 e0 e1 e2 f0 f1 f2 g0 g1 g2
        go_wp2_with fail
        go_region
        all_goals
          go_wp2_with fail
          refine bodyPost_ret (v := .tuple #[.agg #[.slice ua (m.l.eraseIdx ix).length uc, .int .i64 m.sent, .int .i64 m.lost], .agg #[.int .i64 q.src, .int .i64 q.dst, .slice xa q.data.length xc], .bool true]) (by simp [results, Try.results23, go_sem, D0, D1, D2, F0, F1, F2, r1, r2]) rfl ?_
          rw [Q1.out, HA.out]
          have hBf : Below w.heap.size w _ := ((((((((hB0.setCell (p := ⟨w.heap.size, 0, none⟩) (by simp) (.slice ua (m.l.eraseIdx ix).length uc)).setCell (p := ⟨w.heap.size + 1, 0, none⟩) (by simp) (.slice ua (m.l.eraseIdx ix).length uc)).setCell (p := ⟨w.heap.size + 1, 1, none⟩) (by simp) (.int .i64 m.sent)).setCell (p := ⟨w.heap.size + 1, 2, none⟩) (by simp) (.int .i64 m.lost)).setCell (p := ⟨w.heap.size + 1 + 1, 0, none⟩) (by simp; omega) (.int .i64 q.src)).setCell (p := ⟨w.heap.size + 1 + 1, 1, none⟩) (by simp; omega) (.int .i64 q.dst)).setCell (p := ⟨w.heap.size + 1 + 1, 2, none⟩) (by simp; omega) (.slice xa q.data.length xc)).drew)
          have hlen : (m.l.eraseIdx ix).length ≤ 48 := by omega
          refine ⟨_, _, _, _, _, _, rfl, ⟨⟨_, rfl, ((PktsV.of_row HO.out HP.out hB0).keep (fun k hk hg => ?_) (by simp [World.setCell])).mono (fun k _ h => h.imp (fun h => h.1) (fun h => by omega))⟩, hlen, hs0, hl0⟩, hBf⟩
          have hk1 : k ≠ w.heap.size ∧ k ≠ w.heap.size + 1 ∧ k ≠ w.heap.size + 1 + 1 := by
            rcases hg with h | h
            · omega
            · omega
          exact keep_drew (keep_set (keep_set (keep_set (keep_set (keep_set (keep_set (keep_set rfl hk1.1) hk1.2.1) hk1.2.1) hk1.2.1) hk1.2.2) hk1.2.2) hk1.2.2)
end Go.Proofs.Ytdjgmgppghipkaa
