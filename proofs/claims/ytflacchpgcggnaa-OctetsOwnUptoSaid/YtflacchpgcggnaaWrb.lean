/- THE WALKS of the writer: each, Text, Bytes; NewReader. -/
import Derived.Test.YtflacchpgcggnaaWr
namespace Go.Proofs.Ytflacchpgcggnaa
open Go.RowKit

theorem take_bytes (s : ByteArray) (k : Nat) (h : k < s.size) : s.data.toList.take (k + 1) = s.data.toList.take k ++ [s[k]] := by
  rw [List.take_succ_eq_append_getElem (by simpa using h)]; rfl
theorem WrAt.up2 {G : Nat → Prop} {w0 w w' : World} {p : Nat} {l : List UInt8} (h : WrAt (Up (Up G w0) w) w' p l) (hs : w0.heap.size ≤ w.heap.size) : WrAt (Up G w0) w' p l :=
  h.mono (fun k _ hk => by rcases hk with (hk | hk) | hk; exact Or.inl hk; exact Or.inr hk; exact Or.inr (Nat.le_trans hs hk))
theorem Mod.up {G : Nat → Prop} {w0 w w' : World} (h : Mod G w0 w) (h' : Mod (Up G w0) w w') : Mod G w0 w' :=
  h.trans h' (fun k hk hg => hg.elim id (fun h => absurd h (Nat.not_le_of_lt hk)))

set_option maxHeartbeats 1000000 in
theorem each_any (G : Nat → Prop) (p : Nat) (l : List UInt8) (s : ByteArray) (w : World) (h : WrAt G w p l) (hl : l.length + s.size ≤ 140737488355328) :
    Calls Try.prog 34 #[.string s, .func (.func 35) #[.pointer (some ⟨p, 0, none⟩)] #[]] w fun e w' => e = .returned (.tuple #[]) ∧ WrAt (Up G w) w' p (l ++ s.data.toList) ∧ Mod G w w' := by
  have H := Lib.hid h
  clear h
  go_enter Try.func34, Try.ntmps34
  go_wp2_with fail
  go_loopw [7] (fun i wr => ∃ k : Nat, k ≤ s.size ∧ i = .int .i64 k ∧ WrAt (Up G w) wr p (l ++ s.data.toList.take k) ∧ Mod G w wr) (fun i _ => s.size - (intOf i).toNat)
  case atStart => exact ⟨0, Nat.zero_le _, rfl, by rw [List.take_zero, List.append_nil]; exact H.out.mono (fun _ _ h => Or.inl h), Mod.refl _ _⟩
  case round =>
    obtain ⟨k, hk, rfl, T, hm⟩ := hrel
    have HT := Lib.hid T
    clear T
    by_cases hlt : k < s.size
    · have htk : (s.data.toList.take k).length = k := by simp; omega
      have HTK := Lib.hid htk
      clear htk
      go_wp2_with fail
      refine (put_any (Up G w) p _ s[k] wr HT.out (by rw [List.length_append, HTK.out]; omega)).mono ?_
      rintro e w2 ⟨rfl, h2, hm2⟩
      go_wp2_with fail
      refine ⟨⟨k + 1, by omega, by push_cast; rfl, ?_, hm.up hm2⟩, by simp only [intOf]; omega⟩
      rw [take_bytes s k hlt, ← List.append_assoc]
      exact h2.up2 hm.size
    · obtain rfl : k = s.size := by omega
      go_wp2_with fail
      go_end0
      refine ⟨rfl, ?_, hm⟩
      have := HT.out
      rw [List.take_of_length_le (by simp)] at this
      exact this

set_option maxHeartbeats 1000000 in
theorem text_any (G : Nat → Prop) (p : Nat) (l : List UInt8) (s : ByteArray) (w : World) (h : WrAt G w p l) (hl : l.length + 9 + s.size ≤ 140737488355328) :
    Calls Try.prog 24 #[.pointer (some ⟨p, 0, none⟩), .string s] w fun e w' => e = .returned (.tuple #[]) ∧ WrAt (Up G w) w' p (l ++ encText s.data.toList) ∧ Mod G w w' := by
  have H := Lib.hid h
  clear h
  go_enter Try.func24, Try.ntmps24
  go_wp2_with fail
  refine (wnum_any G p l _ w H.out (by omega) (by omega)).mono ?_
  rintro e w1 ⟨rfl, h1, hm1⟩
  go_wp2_with fail
  refine (each_any (Up G w) p _ s w1 h1 (by have := enc_length 9 s.size (by omega) (by omega); simp; omega)).mono ?_
  rintro e w2 ⟨rfl, h2, hm2⟩
  go_wp2_with fail
  go_end0
  refine ⟨rfl, ?_, hm1.up hm2⟩
  unfold encText
  rw [← List.append_assoc, show s.data.toList.length = s.size from Array.length_toList]
  have := h2.up2 hm1.size
  simpa using this

/-- Memory that a call hands back: a slice that reads as these bytes, all in blocks that are new. -/
def NewBytes (w w' : World) (v : Value) (l : List UInt8) : Prop := ∃ n, w'.ownsRow w.heap.size 5 1 v n (l.map B8)

set_option maxHeartbeats 1000000 in
theorem bytes_any (G : Nat → Prop) (p : Nat) (l : List UInt8) (w : World) (h : WrAt G w p l) (hl : l.length ≤ 140737488355328) :
    Calls Try.prog 13 #[.pointer (some ⟨p, 0, none⟩)] w fun e w' => ∃ v, e = .returned v ∧ NewBytes w w' v l ∧ Below w.heap.size w w' := by
  obtain ⟨i0, hi, hz0, hz1, hz2⟩ := info_parts Try.info8
  obtain ⟨⟨h1, h2⟩, sv, h3, h4, h5⟩ := h
  obtain ⟨a0, b0⟩ := blk1 h3
  have HB := Lib.hid (BytesV.of_own h4)
  clear h3 h4 h5
  go_enter Try.func13, Try.ntmps13
  go_wp2_with (at_builtin; refine wpList_append_bytes rfl (.const (.slice none 0 0)) (.tmp 8) _ rfl w.heap.size 5 i0 Try.underlying22 hi hz0 hz1 hz2 (.slice none 0 0) 0 [] rfl (World.ownsRow_nil _ _ _ _) _ sv l rfl HB.out (by omega) (Nat.le_refl _) ?_; intro v3 w3 hown3 hgrow hat)
  go_ret
  exact ⟨_, rfl, ⟨_, by simpa using hown3⟩, (Below.refl _ _).grown hgrow (Nat.le_refl _) (by intro k hk; simp [Value.ownBlock] at hk)⟩

/-- A nil writer. -/
theorem nil_wnum (n : Int) (w : World) : Calls Try.prog 11 #[.pointer none, .int .i64 n] w fun e w' => e = .returned (.tuple #[]) ∧ w = w' := by
  go_enter Try.func11, Try.ntmps11
  go_wp2_with fail
  exact bodyPost_ret (v := .tuple #[]) (by simp [results, Try.results11, go_sem]) rfl ⟨rfl, rfl⟩
theorem nil_text (s : ByteArray) (w : World) : Calls Try.prog 24 #[.pointer none, .string s] w fun e w' => e = .returned (.tuple #[]) ∧ w = w' := by
  go_enter Try.func24, Try.ntmps24
  go_wp2_with fail
  exact bodyPost_ret (v := .tuple #[]) (by simp [results, Try.results24, go_sem]) rfl ⟨rfl, rfl⟩
theorem nil_bytes (w : World) : Calls Try.prog 13 #[.pointer none] w fun e w' => e = .returned (.slice none 0 0) ∧ w = w' := by
  go_enter Try.func13, Try.ntmps13
  go_wp2_with fail
  go_ret
  exact ⟨rfl, rfl⟩
end Go.Proofs.Ytflacchpgcggnaa
