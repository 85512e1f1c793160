/- THE WALKS of packet, own and awake. -/
import Derived.Test.YtdjgmgppghipkaaState
import Derived.Lib.ConvBytes
namespace Go.Proofs.Ytdjgmgppghipkaa
open Go.RowKit

/-- A packet that a call hands back, its bytes new. -/
def PktPost (w : World) (q : Pkt) (e : Ending) (w' : World) : Prop := ∃ dv, e = .returned (.agg #[.int .i64 q.src, .int .i64 q.dst, dv]) ∧ BytesV (fun k => w.heap.size ≤ k) w' dv q.data ∧ Below w.heap.size w w'

theorem BytesV.of_blockN {w : World} {d n : Nat} {t : TypeId} {fr : Nat × Nat} {l : List UInt8} {c : Nat} {cs : Array Value} (hn : n = l.length) (h : w.heap[d]? = some (.cells cs t fr)) (hcs : ∀ (j : Nat) (x : UInt8), l[j]? = some x → cs[j]? = some (B8 x)) (hc : n ≤ c) (hm : c ≤ maxLen) :
    BytesV (fun k => k = d) w (.slice (some ⟨d, 0, none⟩) n c) l := by
  subst hn; exact BytesV.of_block h hcs hc hm

set_option maxHeartbeats 400000 in
theorem packet_any (f : Int) (s : ByteArray) (hs : s.size ≤ 140737488355328) (w : World) :
    Calls Try.prog 24 #[.int .i64 f, .string s] w (PktPost w ⟨f, 0, s.data.toList⟩) := by
  have hcv := fun W => Lib.run_convert_string_bytes (P := Try.prog) W 9 28 5 s Try.underlying9 Try.underlying28 Try.underlying5
  obtain ⟨a0, a1, a2, b0, b1, b2⟩ := blk3 ((Lib.bytesWorld_at_old (w.alloc (.cells #[.int .i64 0, .int .i64 0, .slice none 0 0] 30)) 5 s w.heap.size (by simp)).trans (heap_at w _ _ rfl))
  have K := Lib.hid (Lib.bytesWorld_at_new (w.alloc (.cells #[.int .i64 0, .int .i64 0, .slice none 0 0] 30)) 5 s)
  have KB := Lib.hid (show Below w.heap.size w (Lib.bytesWorld (w.alloc (.cells #[.int .i64 0, .int .i64 0, .slice none 0 0] 30)) 5 s) from
    ⟨rfl, rfl, rfl, by rw [Lib.bytesWorld_size]; simp; omega, fun k hk => (Lib.bytesWorld_at_old _ _ _ k (by simp; omega)).trans (heap_past w _ k hk)⟩)
  go_enter Try.func24, Try.ntmps24
  go_wp2_with fail
  have hlen : s.size = s.data.toList.length := Array.length_toList.symm
  have hN : (w.alloc (.cells #[.int .i64 0, .int .i64 0, .slice none 0 0] 30)).heap.size = w.heap.size + 1 := by simp
  have K' := K.out
  rw [hN] at K'
  refine bodyPost_ret (by simp [results, Try.results24, go_sem, a0, a1, a2]; rfl) rfl ⟨_, rfl, ?_, ?_⟩
  · refine (BytesV.of_blockN hlen (blk_far (p := ⟨w.heap.size, 2, none⟩) (blk_far (p := ⟨w.heap.size, 1, none⟩) (blk_far (p := ⟨w.heap.size, 0, none⟩) K' (by simp) _) (by simp) _) (by simp) _)
      (fun j x hx => ?_) (grownCap_ge _ _ _ _) (grownCap_le_maxLen _ _ _ _ (by unfold maxLen; omega))).mono (fun k _ hk => by subst hk; omega)
    · unfold Lib.bytesCells
      have hj : j < s.data.size := by have := (List.getElem?_eq_some_iff.1 hx).1; simpa using this
      rw [Array.getElem?_append_left (by simpa using hj)]
      rw [Array.getElem?_map, show s.data[j]? = some x from by rw [← Array.getElem?_toList]; exact hx]
      rfl
  · exact ((KB.out.setCell (by simp) _).setCell (by simp) _).setCell (by simp) _
end Go.Proofs.Ytdjgmgppghipkaa
