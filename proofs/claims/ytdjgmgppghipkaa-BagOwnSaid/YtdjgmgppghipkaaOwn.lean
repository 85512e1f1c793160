/- own: a packet with bytes of its own. -/
import Derived.Test.YtdjgmgppghipkaaAwake
import Derived.Test.YtdjgmgppghipkaaAppendBytes
namespace Go.Proofs.Ytdjgmgppghipkaa
open Go.RowKit

set_option maxHeartbeats 400000 in
theorem own_any (D : Nat → Prop) (q : Pkt) (dv : Value) (w : World) (hd : BytesV D w dv q.data) (hl : q.data.length ≤ 140737488355328) :
    Calls Try.prog 15 #[.agg #[.int .i64 q.src, .int .i64 q.dst, dv]] w (PktPost w q) := by
  obtain ⟨i0, hi, hz0, hz1, hz2⟩ := info_parts Try.info8
  obtain ⟨W, hW⟩ : ∃ W, W = ((w.alloc (.cells #[.int .i64 q.src, .int .i64 q.dst, dv] 30)).alloc (.cells #[.int .i64 0, .int .i64 0, .slice none 0 0] 30)).alloc (.cells #[] 5) := ⟨_, rfl⟩
  have hB : Below w.heap.size w W := by subst hW; exact (((Below.refl _ _).alloc (Nat.le_refl _) _).alloc (by simp) _).alloc (by simp; omega) _
  have hWs : W.heap.size = w.heap.size + 1 + 1 + 1 := by subst hW; simp
  have hd2 := hd.below hB
  have hrow : W.ownsRow (w.heap.size + 1 + 1) 5 1 (.slice (some ⟨w.heap.size + 1 + 1, 0, none⟩) 0 0) 0 [] := by
    subst hW
    have := World.ownsRow_made (base := w.heap.size + 1 + 1) (e := 5) (size := 1) ((w.alloc (.cells #[.int .i64 q.src, .int .i64 q.dst, dv] 30)).alloc (.cells #[.int .i64 0, .int .i64 0, .slice none 0 0] 30)) #[] 0 (by simp) (by decide) rfl
    simpa using this
  have x0 : W.heap[w.heap.size]? = some (.cells #[.int .i64 q.src, .int .i64 q.dst, dv] 30 (0, 0)) := by
    subst hW; exact blk_alloc (blk_alloc (heap_at w _ _ rfl) _) _
  have x1 : W.heap[w.heap.size + 1]? = some (.cells #[.int .i64 0, .int .i64 0, .slice none 0 0] 30 (0, 0)) := by
    subst hW; exact blk_alloc (heap_at _ _ _ (by simp)) _
  have HX0 := Lib.hid x0
  have HX1 := Lib.hid x1
  have HB := Lib.hid hB
  have HR := Lib.hid hrow
  have HD := Lib.hid hd2
  have HS := Lib.hid hWs
  have HW := Lib.hid hW
  clear x0 x1 hB hrow hd2 hWs
  obtain ⟨a, c, rfl, _⟩ := hd
  go_enter Try.func15, Try.ntmps15
  go_wp2_with (at_builtin; rw [← HW.out]; refine wpList_append_bytes rfl (.tmp 3) (.tmp 5) 28 rfl (w.heap.size + 1 + 1) 5 i0 Try.underlying28 hi hz0 hz1 hz2 (.slice (some ⟨w.heap.size + 1 + 1, 0, none⟩) 0 0) 0 [] rfl HR.out D _ q.data rfl HD.out (by omega) (by rw [HS.out]; omega) ?_; intro v3 w3 hown hgrow hat; rw [List.nil_append] at hown; have HV := Lib.hid (BytesV.of_own hown); obtain ⟨a', c', e', _⟩ := HV.out; subst e'; obtain ⟨a0, a1, a2, b0, b1, b2⟩ := blk3 ((hgrow.block w.heap.size (by rw [HS.out]; omega) (by intro e; simp [Value.ownBlock] at e <;> omega)).trans HX0.out); obtain ⟨d0, d1, d2, e0, e1, e2⟩ := blk3 ((hgrow.block (w.heap.size + 1) (by rw [HS.out]; omega) (by intro e; simp [Value.ownBlock] at e <;> omega)).trans HX1.out))
  have hs3 := hgrow.size
  refine bodyPost_ret (v := .agg #[.int .i64 q.src, .int .i64 q.dst, .slice a' q.data.length c']) (by simp [results, Try.results15, go_sem, d0, d1, d2]) rfl ⟨_, rfl, ?_, ?_⟩
  · refine (HV.out.keep (fun k hk hg => ?_) (by simp [World.setCell])).mono (fun k _ hg => by omega)
    exact (Below.heap_setCell _ ⟨w.heap.size + 1, 2, none⟩ _ k (by simp; omega)).trans ((Below.heap_setCell _ ⟨w.heap.size + 1, 1, none⟩ _ k (by simp; omega)).trans ((Below.heap_setCell _ ⟨w.heap.size + 1, 0, none⟩ _ k (by simp; omega)).trans (Below.heap_setCell _ ⟨w.heap.size, 2, none⟩ _ k (by simp; omega))))
  · have hb3 : Below w.heap.size w w3 := HB.out.grown hgrow HB.out.size (by intro k e; simp [Value.ownBlock] at e; omega)
    exact (((hb3.setCell (by simp) _).setCell (by simp) _).setCell (by simp) _).setCell (by simp) _
end Go.Proofs.Ytdjgmgppghipkaa
