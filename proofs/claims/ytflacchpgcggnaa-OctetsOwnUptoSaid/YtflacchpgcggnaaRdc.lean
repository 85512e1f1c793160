/- THE WALKS of the reader: Text, NewReader, Left, Err. -/
import Derived.Test.YtflacchpgcggnaaRdb
namespace Go.Proofs.Ytflacchpgcggnaa
open Go.RowKit

theorem left_any (G : Nat → Prop) (p : Nat) (r : Rd) (w : World) (h : RdAt G w p r) : Calls Try.prog 20 #[.pointer (some ⟨p, 0, none⟩)] w fun e w' => e = .returned (.int .i64 r.left.length) ∧ w = w' := by
  obtain ⟨_, sv, h1, a, c, rfl, hc⟩ := h
  obtain ⟨a0, a1, b0, b1⟩ := blk2 h1
  clear h1 hc
  go_enter Try.func20, Try.ntmps20
  go_wp2_with fail
  go_ret
  exact ⟨rfl, rfl⟩
theorem err_any (G : Nat → Prop) (p : Nat) (r : Rd) (w : World) (h : RdAt G w p r) : Calls Try.prog 16 #[.pointer (some ⟨p, 0, none⟩)] w fun e w' => e = .returned (.int .i64 r.err) ∧ w = w' := by
  obtain ⟨_, sv, h1, _⟩ := h
  obtain ⟨a0, a1, b0, b1⟩ := blk2 h1
  clear h1
  go_enter Try.func16, Try.ntmps16
  go_wp2_with fail
  go_ret
  exact ⟨rfl, rfl⟩
theorem nil_rnum (w : World) : Calls Try.prog 15 #[.pointer none] w fun e w' => e = .returned (.int .i64 0) ∧ w = w' := by
  go_enter Try.func15, Try.ntmps15
  go_wp2_with fail
  go_ret
  exact ⟨rfl, rfl⟩
theorem nil_rtext (m : Int) (w : World) : Calls Try.prog 21 #[.pointer none, .int .i64 m] w fun e w' => e = .returned (.string (strOf [])) ∧ w = w' := by
  go_enter Try.func21, Try.ntmps21
  go_wp2_with fail
  go_ret
  exact ⟨rfl, rfl⟩
theorem nil_left (w : World) : Calls Try.prog 20 #[.pointer none] w fun e w' => e = .returned (.int .i64 0) ∧ w = w' := by
  go_enter Try.func20, Try.ntmps20
  go_wp2_with fail
  go_ret
  exact ⟨rfl, rfl⟩
theorem nil_err (w : World) : Calls Try.prog 16 #[.pointer none] w fun e w' => e = .returned (.int .i64 1) ∧ w = w' := by
  go_enter Try.func16, Try.ntmps16
  go_wp2_with fail
  go_ret
  exact ⟨rfl, rfl⟩

def NewRd (w : World) (r : Rd) (e : Ending) (w' : World) : Prop := ∃ q, e = .returned (.pointer (some ⟨q, 0, none⟩)) ∧ RdAt (fun k => w.heap.size ≤ k) w' q r ∧ Below w.heap.size w w'
set_option maxHeartbeats 1000000 in
theorem newReader_any (D : Nat → Prop) (l : List UInt8) (dv : Value) (w : World) (hd : BytesV D w dv l) (hl : l.length ≤ 140737488355328) :
    Calls Try.prog 12 #[dv] w (NewRd w ⟨l, 0⟩) := by
  obtain ⟨i0, hi, hz0, hz1, hz2⟩ := info_parts Try.info8
  have HD := Lib.hid hd
  clear hd
  go_enter Try.func12, Try.ntmps12
  go_wp2_with (at_builtin; refine wpList_append_bytes rfl (.const (.slice none 0 0)) (.tmp 3) _ rfl w.heap.size 5 i0 Try.underlying22 hi hz0 hz1 hz2 (.slice none 0 0) 0 [] rfl (World.ownsRow_nil _ _ _ _) _ dv l rfl HD.out (by omega) (Nat.le_refl _) ?_; intro v3 w3 hown3 hgrow hat; have hs3 := hgrow.size; obtain ⟨a3, c3, rfl⟩ := own_slice hown3; have HO := Lib.hid hown3; clear hown3)
  go_ret
  have hB : Below w.heap.size w w3 := (Below.refl _ _).grown hgrow (Nat.le_refl _) (by intro k hk; simp [Value.ownBlock] at hk)
  have hb := BytesV.of_own (by simpa using HO.out)
  refine ⟨w3.heap.size, rfl, ⟨⟨hs3, by simp⟩, _, heap_at w3 _ _ rfl, ?_⟩, hB.alloc hB.size _⟩
  refine ((hb.mono (G' := fun k => w.heap.size ≤ k ∧ k ≠ w3.heap.size) (fun k hk h => ⟨h, by omega⟩)).below ((Below.refl _ _).alloc (Nat.le_refl _) _))
end Go.Proofs.Ytflacchpgcggnaa
