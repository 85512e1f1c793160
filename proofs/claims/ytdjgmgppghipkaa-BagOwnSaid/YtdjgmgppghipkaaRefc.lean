/- THE WALKS of subletref07: Double. -/
import Derived.Test.YtdjgmgppghipkaaRefb
namespace Go.Proofs.Ytdjgmgppghipkaa
open Go.RowKit

theorem two (w : World) (o1 o2 : Obj) : Below w.heap.size w ((w.alloc o1).alloc o2) := ((Below.refl _ _).alloc (Nat.le_refl _) _).alloc (by simp) _

set_option maxHeartbeats 2000000 in
theorem rdouble_any (R : Nat → Prop) (m : Bg) (v : Value) (k : Int) (w : World) (h : RefB R w v m) :
    Calls Try.prog 22 #[v, .int .i64 k] w (RSent R w (m.double k) (m.doubleE k)) := by
  have h' := h.mono (R' := fun k => R k ∧ k < w.heap.size) (fun k hk h => ⟨h, hk⟩)
  obtain ⟨⟨lv, rfl, hlv⟩, hsm, hs0, hl0⟩ := h
  have HL := Lib.hid (hlv.mono (G' := fun k => R k ∧ k < w.heap.size) (fun k hk h => ⟨h, hk⟩))
  have HR := Lib.hid h'
  clear h'
  obtain ⟨a, c, rfl, _, hcm, _⟩ := hlv
  unfold maxLen at hcm
  go_enter Try.func22, Try.ntmps22
  go_wp2_with fail
  refine (rlook_any _ m _ k _ (HR.out.keep (fun k hk _ => (two w _ _).block k hk) (two w _ _).size)).mono ?_
  rintro e w3 ⟨hg, hb3⟩
  have HB := Lib.hid (below_step (two w _ _) hb3)
  have hs3 : w.heap.size + 1 + 1 ≤ w3.heap.size := by have := hb3.size; simpa using this
  obtain ⟨a0, a1, a2, b0, b1, b2⟩ := blk3 ((hb3.block w.heap.size (by simp; omega)).trans (blk_alloc (heap_at w _ _ rfl) _))
  obtain ⟨d0, d1, d2, e0, e1, e2⟩ := blk3 ((hb3.block (w.heap.size + 1) (by simp)).trans (heap_at _ _ _ (by simp)))
  have p1 : w.heap.size < w3.heap.size := by omega
  have p2 : w.heap.size + 1 < w3.heap.size := by omega
  cases hat : m.at_ k with
  | none =>
    rw [hat] at hg
    replace hg : e = .returned (.tuple #[.agg #[.int .i64 0, .int .i64 0, .slice none 0 0], .bool false]) := hg
    subst hg
    have q1 : m.double k = m := by unfold Bg.double; rw [hat]
    have q2 : m.doubleE k = 72 := by unfold Bg.doubleE; rw [hat]
    go_wp2_with fail
    refine bodyPost_ret (v := .tuple #[.agg #[.slice a m.l.length c, .int .i64 m.sent, .int .i64 m.lost], .int .i64 72]) (by simp [results, Try.results22, go_sem, d0, d1, d2, p2]) rfl ?_
    rw [q1, q2]
    have hBf : Below w.heap.size w _ := (((HB.out.setCell (p := ⟨w.heap.size + 1, 0, none⟩) (by simp) (.slice a m.l.length c)).setCell (p := ⟨w.heap.size + 1, 1, none⟩) (by simp) (.int .i64 m.sent)).setCell (p := ⟨w.heap.size + 1, 2, none⟩) (by simp) (.int .i64 m.lost)).alloc (by simp [World.setCell]; omega) (.cells #[.int .i64 0, .int .i64 0, .slice none 0 0] 30)
    exact ⟨_, rfl, ⟨⟨_, rfl, (HL.out.below hBf).mono (fun _ _ h => Or.inl h.1)⟩, hsm, hs0, hl0⟩, hBf⟩
  | some q =>
    rw [hat] at hg
    obtain ⟨dv, rfl, hdv⟩ := hg
    have HD := Lib.hid hdv
    obtain ⟨xa, xc, rfl, _⟩ := hdv
    by_cases hf : 48 ≤ m.l.length
    · have q1 : m.double k = m := by unfold Bg.double; rw [hat]; simp [hf]
      have q2 : m.doubleE k = 51 := by unfold Bg.doubleE; rw [hat]; simp [hf]
      have hq : (m.l.length : Int) = 48 := by omega
      go_wp2_with fail
      refine bodyPost_ret (v := .tuple #[.agg #[.slice a m.l.length c, .int .i64 m.sent, .int .i64 m.lost], .int .i64 51]) (by simp [results, Try.results22, go_sem, d0, d1, d2, p2]) rfl ?_
      rw [q1, q2]
      have hBf : Below w.heap.size w _ := (((HB.out.setCell (p := ⟨w.heap.size + 1, 0, none⟩) (by simp) (.slice a m.l.length c)).setCell (p := ⟨w.heap.size + 1, 1, none⟩) (by simp) (.int .i64 m.sent)).setCell (p := ⟨w.heap.size + 1, 2, none⟩) (by simp) (.int .i64 m.lost)).alloc (by simp [World.setCell]; omega) (.cells #[.int .i64 q.src, .int .i64 q.dst, .slice xa q.data.length xc] 30)
      exact ⟨_, rfl, ⟨⟨_, rfl, (HL.out.below hBf).mono (fun _ _ h => Or.inl h.1)⟩, hsm, hs0, hl0⟩, hBf⟩
    · have q1 : m.double k = ⟨m.l ++ [q], m.sent, m.lost⟩ := by unfold Bg.double; rw [hat]; simp [hf]
      have q2 : m.doubleE k = 0 := by unfold Bg.doubleE; rw [hat]; simp [hf]
      have hq : ¬ (m.l.length : Int) = 48 := by omega
      go_wp2_with fail
      refine (with_any (fun k => R k ∧ k < w.heap.size) m.l q _ _ _ (HL.out.below (HB.out.alloc HB.out.size _)) (HD.out.below ((Below.refl _ _).alloc (Nat.le_refl _) _)) (by omega)).mono ?_
      rintro e w4 ⟨v', rfl, hv', hb4⟩
      have hlen : (m.l ++ [q]).length = m.l.length + 1 := by simp
      obtain ⟨a4, c4, rfl, _⟩ := id hv'
      have hs4 : w3.heap.size + 1 ≤ w4.heap.size := by have := hb4.size; simpa using this
      obtain ⟨f0, f1, f2, f3, f4, f5⟩ := blk3 ((hb4.block w.heap.size (by simp; omega)).trans (blk_alloc ((hb3.block w.heap.size (by simp; omega)).trans (blk_alloc (heap_at w _ _ rfl) _)) _))
      obtain ⟨g0, g1, g2, g3, g4, g5⟩ := blk3 ((hb4.block (w.heap.size + 1) (by simp; omega)).trans (blk_alloc ((hb3.block (w.heap.size + 1) (by simp)).trans (heap_at _ _ _ (by simp))) _))
      have HV := Lib.hid hv'
      have HB4 := Lib.hid (below_step (HB.out.alloc HB.out.size _) hb4)
      clear hv' hb4 hb3
      go_wp2_with fail
      refine bodyPost_ret (v := .tuple #[.agg #[.slice a4 (m.l.length + 1) c4, .int .i64 m.sent, .int .i64 m.lost], .int .i64 0]) (by simp [results, Try.results22, go_sem, g0, g1, g2]) rfl ?_
      rw [hlen] at HV
      rw [q1, q2]
      have hk0 : w.heap.size + 1 < w4.heap.size := by omega
      refine ⟨_, rfl, ⟨⟨_, by push_cast; rfl, (HV.out.keep (fun k hk hg => ?_) (by simp [World.setCell])).mono (fun k _ h => h.imp (fun h => h.1) (fun h => by simp at h; omega))⟩, by simp; omega, hs0, hl0⟩, (((HB4.out.setCell (by simp) _).setCell (by simp) _).setCell (by simp) _).setCell (by simp) _⟩
      have hk1 : k ≠ w.heap.size ∧ k ≠ w.heap.size + 1 := by
        rcases hg with h | h
        · omega
        · simp at h; omega
      exact (Below.heap_setCell _ ⟨w.heap.size + 1, 2, none⟩ _ k hk1.2).trans ((Below.heap_setCell _ ⟨w.heap.size + 1, 1, none⟩ _ k hk1.2).trans ((Below.heap_setCell _ ⟨w.heap.size + 1, 0, none⟩ _ k hk1.2).trans (Below.heap_setCell _ ⟨w.heap.size, 0, none⟩ _ k hk1.1)))
end Go.Proofs.Ytdjgmgppghipkaa
