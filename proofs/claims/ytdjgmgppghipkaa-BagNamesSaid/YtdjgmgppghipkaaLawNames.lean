/- THE WALK of BagNames. -/
import Derived.Test.YtdjgmgppghipkaaNil
namespace Go.Proofs.Ytdjgmgppghipkaa
open Go.RowKit

def zpkt (n : Nat) : Pkt := ⟨0, 0, List.replicate n 0⟩

def zcells (n : Nat) : Array Value := (List.replicate n (.int .u8 0)).toArray

/-- make([]byte, n): bytes of 0. -/
theorem run_make8 (n : Nat) (hn : n ≤ 1000) (w : World) : (Instr.makeSlice 28 (.int .i64 n) (.int .i64 n)).run Try.prog w = .ok (.slice (some ⟨w.heap.size, 0, none⟩) n n) (w.alloc (.cells (zcells n) 5)) := by
  obtain ⟨i0, hi, hz0, hz1, hz2⟩ := info_parts Try.info8
  have := run_make_rowN (P := Try.prog) 28 5 i0 (.int .u8 0) Try.underlying28 hi hz0 .i64 .i64 n n (Nat.le_refl _) (by rw [hz2]; omega) (by omega) w
  rw [hz1, Nat.mul_one] at this
  simpa only [Value.cells, madeCells_one, zcells] using this
theorem made8 (n : Nat) (hn : n ≤ 1000) (w : World) : BytesV (fun k => w.heap.size ≤ k) (w.alloc (.cells (zcells n) 5)) (.slice (some ⟨w.heap.size, 0, none⟩) n n) (zpkt n).data := by
  refine (BytesV.of_blockN (by unfold zpkt; rw [List.length_replicate]) (heap_at w _ _ rfl) (fun j x hx => ?_) (Nat.le_refl _) (by unfold maxLen; omega)).mono (fun k _ hk => by rw [hk]; exact Nat.le_refl _)
  unfold zpkt at hx
  rw [List.getElem?_replicate] at hx
  unfold zcells
  rw [List.getElem?_toArray, List.getElem?_replicate]
  split at hx
  · rename_i hj
    rw [if_pos hj]
    injection hx with hx
    rw [← hx]; rfl
  · cases hx

theorem zpkts_send (k : Nat) (hk : k < 48) (l : List Pkt) (hl : l.length = k) : Bg.send ⟨l, k, 0⟩ (zpkt 200) = ⟨l ++ [zpkt 200], k + 1, 0⟩ ∧ Bg.sendE ⟨l, k, 0⟩ (zpkt 200) = 0 := by
  unfold Bg.send Bg.sendE
  have h1 : ¬ 200 < (zpkt 200).data.length := by unfold zpkt; rw [List.length_replicate]; omega
  have h2 : ¬ 48 ≤ l.length := by omega
  simp [h1, h2]

theorem full_send (l : List Pkt) (hl : l.length = 48) (s t : Nat) (q : Pkt) (hq : q.data.length ≤ 200) : Bg.send ⟨l, s, t⟩ q = ⟨l, s, t + 1⟩ ∧ Bg.sendE ⟨l, s, t⟩ q = 51 := by
  have h1 : ¬ 200 < q.data.length := by omega
  have h2 : 48 ≤ l.length := by omega
  simp [Bg.send, Bg.sendE, h1, h2]
theorem room_send (l : List Pkt) (hl : l.length = 47) (s t : Nat) (q : Pkt) (hq : q.data.length ≤ 200) : Bg.sendE ⟨l, s, t⟩ q = 0 := by
  unfold Bg.sendE
  rw [if_neg (by omega), if_neg (by show ¬ 48 ≤ l.length; omega)]
theorem big_send (l : List Pkt) (s t : Nat) (q : Pkt) (hq : 200 < q.data.length) : Bg.send ⟨l, s, t⟩ q = ⟨l, s, t + 1⟩ ∧ Bg.sendE ⟨l, s, t⟩ q = 41 := by
  unfold Bg.send Bg.sendE
  rw [if_pos hq, if_pos hq]
  exact ⟨rfl, rfl⟩
theorem full_at (l : List Pkt) (hl : l.length = 48) (s t : Nat) (k : Nat) (hk : k < 48) : ∃ q, Bg.at_ ⟨l, s, t⟩ k = some q := by
  unfold Bg.at_
  rw [if_neg (by omega)]
  exact ⟨l[k], by simp⟩
theorem full_double (l : List Pkt) (hl : l.length = 48) (s t : Nat) : Bg.double ⟨l, s, t⟩ 0 = ⟨l, s, t⟩ ∧ Bg.doubleE ⟨l, s, t⟩ 0 = 51 := by
  obtain ⟨q, hq⟩ := full_at l hl s t 0 (by omega)
  replace hq : Bg.at_ ⟨l, s, t⟩ 0 = some q := hq
  unfold Bg.double Bg.doubleE
  rw [hq]
  simp only
  rw [if_pos (by show 48 ≤ l.length; omega), if_pos (by show 48 ≤ l.length; omega)]
  exact ⟨rfl, rfl⟩
theorem full_drop (l : List Pkt) (hl : l.length = 48) (s t : Nat) : (Bg.at_ ⟨l, s, t⟩ 47).isSome = true ∧ ∃ l' : List Pkt, l'.length = 47 ∧ Bg.drop ⟨l, s, t⟩ 47 = ⟨l', s, t⟩ := by
  obtain ⟨q, hq⟩ := full_at l hl s t 47 (by omega)
  replace hq : Bg.at_ ⟨l, s, t⟩ 47 = some q := hq
  unfold Bg.drop
  rw [hq]
  refine ⟨rfl, l.eraseIdx 47, by rw [List.length_eraseIdx_of_lt (by omega)]; omega, rfl⟩

set_option maxHeartbeats 4000000 in
theorem bagNames_any (w : World) : Calls Try.prog 6 #[] w fun e w' => e = .returned (.bool true) ∧ Below w.heap.size w w' := by
  have hm200 : ∀ W : World, (Instr.makeSlice 28 (.int .i64 200) (.int .i64 200)).run Try.prog W = .ok (.slice (some ⟨W.heap.size, 0, none⟩) 200 200) (W.alloc (.cells (zcells 200) 5)) := fun W => run_make8 200 (by omega) W
  have hm201 : ∀ W : World, (Instr.makeSlice 28 (.int .i64 201) (.int .i64 201)).run Try.prog W = .ok (.slice (some ⟨W.heap.size, 0, none⟩) 201 201) (W.alloc (.cells (zcells 201) 5)) := fun W => run_make8 201 (by omega) W
  go_enter Try.func6, Try.ntmps6
  go_wp2_with fail
  refine (new_s w).mono ?_
  rintro e w1 ⟨rfl, s1⟩
  go_wp2_with fail
  refine (awake_any _).mono ?_
  rintro e w2 ⟨rfl, hb2⟩
  have s2 := s1.keep hb2
  have hp2 := s2.bag.head.2
  go_wp2_with fail
  go_loopw [2] (fun i wr => ∃ (k : Nat) (l : List Pkt), k ≤ 48 ∧ l.length = k ∧ i = .int .i64 k ∧ BS w w.heap.size ⟨l, k, 0⟩ wr) (fun i _ => 48 - (intOf i).toNat)
  case atStart => exact ⟨0, [], by omega, rfl, rfl, s2⟩
  case round =>
    obtain ⟨k, l, hk, hl, rfl, hs⟩ := hrel
    by_cases hlt : k < 48
    · have hp := hs.bag.head.2
      go_wp2_with fail
      refine (send_s (hs.keep ((Below.refl _ _).alloc (Nat.le_refl _) _)) _ (zpkt 200) _ (made8 200 (by omega) wr) (fun j _ hj e => by omega) (by show k + 1 < _; omega) (by show 0 + 1 < _; omega)).mono ?_
      rintro e w3 ⟨he, s3⟩
      rw [(zpkts_send k hlt l hl).2] at he
      rw [(zpkts_send k hlt l hl).1] at s3
      subst he
      go_wp2_with fail
      refine ⟨⟨k + 1, l ++ [zpkt 200], by omega, by simp [hl], by push_cast; rfl, s3⟩, by simp only [intOf]; omega⟩
    · obtain rfl : k = 48 := by omega
      have q1 := full_send l hl 48 0 ⟨1, 0, [120]⟩ (by show 1 ≤ 200; omega)
      have q2 := full_double l hl 48 1
      have q3 := big_send l 48 1 (zpkt 201) (by unfold zpkt; rw [List.length_replicate]; omega)
      have q4 := full_drop l hl 48 2
      go_wp2_with fail
      refine (packet_any 1 ⟨#[120]⟩ (by decide) wr).mono ?_
      rintro e w3 ⟨dv, rfl, hd, hb3⟩
      have s3 := hs.keep hb3
      have hp := hs.bag.head.2
      go_wp2_with fail
      refine (send_s s3 _ ⟨1, 0, [120]⟩ dv hd (fun j _ hj e => by omega) (by show 48 + 1 < _; omega) (by show 0 + 1 < _; omega)).mono ?_
      rintro e w4 ⟨he, s4⟩
      rw [q1.2] at he
      rw [q1.1] at s4
      subst he
      go_wp2_with fail
      refine (double_s s4 0).mono ?_
      rintro e w5 ⟨he, s5⟩
      rw [q2.2] at he
      rw [q2.1] at s5
      subst he
      have hp5 := s5.bag.head.2
      go_wp2_with fail
      refine (send_s (s5.keep ((Below.refl _ _).alloc (Nat.le_refl _) _)) _ (zpkt 201) _ (made8 201 (by omega) w5) (fun j _ hj e => by omega) (by show 48 + 1 < _; omega) (by show 1 + 1 < _; omega)).mono ?_
      rintro e w6 ⟨he, s6⟩
      rw [q3.2] at he
      rw [q3.1] at s6
      subst he
      go_wp2_with fail
      refine (lost_any _ _ _ w6 s6.bag).mono ?_
      rintro e w7 ⟨he, rfl⟩
      replace he : e = .returned (.int .i64 2) := he
      subst he
      go_wp2_with fail
      refine (sent_any _ _ _ w6 s6.bag).mono ?_
      rintro e w7 ⟨he, rfl⟩
      replace he : e = .returned (.int .i64 48) := he
      subst he
      go_wp2_with fail
      refine (len_any _ _ _ w6 s6.bag).mono ?_
      rintro e w7 ⟨he, rfl⟩
      replace he : e = .returned (.int .i64 (l.length : Nat)) := he
      rw [hl] at he
      subst he
      go_wp2_with fail
      refine (drop_s s6 47).mono ?_
      rintro e w7 ⟨he, s7⟩
      rw [q4.1] at he
      obtain ⟨l', hl', e7⟩ := q4.2
      rw [e7] at s7
      subst he
      have hp7 := s7.bag.head.2
      have q5 := room_send l' hl' 48 2 ⟨1, 0, [120]⟩ (by show 1 ≤ 200; omega)
      go_wp2_with fail
      refine (packet_any 1 ⟨#[120]⟩ (by decide) w7).mono ?_
      rintro e w8 ⟨dv8, rfl, hd8, hb8⟩
      have s8 := s7.keep hb8
      go_wp2_with fail
      refine (send_s s8 _ ⟨1, 0, [120]⟩ dv8 hd8 (fun j _ hj e => by omega) (by show 48 + 1 < _; omega) (by show 2 + 1 < _; omega)).mono ?_
      rintro e w9 ⟨he, s9⟩
      rw [q5] at he
      subst he
      go_wp2_with fail
      go_ret
      exact ⟨rfl, s9.below⟩
end Go.Proofs.Ytdjgmgppghipkaa
