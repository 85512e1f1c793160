/- THE WALKS of the writer: Num, put, each, Text, Bytes.  THE WALKS of the writer: each, Text, Bytes; NewReader. -/
import Derived.Test.YtphfekkllibphaaGreatDoorPlain
import Derived.Test.YtphfekkllibphaaGreatDoorAppendBytes
import Derived.WalkSpells
import Derived.WalkLawsBesides
import Derived.Outline
import Derived.OwnWalk
import Derived.Deep.AppendLies
import Derived.Deep.DeepMust
import Derived.Lib.EndianBits
namespace Go.Proofs.YtphfekkllibphaaGreatDoor
open Go.RowKit

theorem Tryz.info8 : (Tryz.prog.info? 5).map (fun i => (i.zero, i.size, i.bytes)) = some (some (.int .u8 0), 1, 1) := by kernel_rfl
theorem ownsRow_keep {w w' : World} {base : Nat} {e : TypeId} {size : Nat} {v : Value} {n : Nat} {xs : List Value} (h : w.ownsRow base e size v n xs) (hk : ∀ g, v.ownBlock = some g → w'.heap[g]? = w.heap[g]?) : w'.ownsRow base e size v n xs := by
  obtain ⟨h1, h2⟩ := h
  refine ⟨h1, ?_⟩
  rcases h2 with h2 | ⟨g, cap, cur, hv, hb, hh, r⟩
  · exact Or.inl h2
  · exact Or.inr ⟨g, cap, cur, hv, hb, (hk g (by rw [hv]; rfl)).trans hh, r⟩
theorem own_ne {w : World} {base : Nat} {e : TypeId} {size n : Nat} {v : Value} {xs : List Value} {g : Nat} {t : TypeId} {cs : Array Value} {fr : Nat × Nat} (h : w.ownsRow base e size v n xs) (hg : w.heap[g]? = some (.cells cs t fr)) (hne : e ≠ t) : v.ownBlock ≠ some g := by
  rcases h.2 with ⟨rfl, _⟩ | ⟨g', cap, cur, rfl, _, hh, _⟩
  · simp [Value.ownBlock]
  · intro he
    have : g' = g := by simpa [Value.ownBlock] using he
    subst this
    rw [hh] at hg
    injection hg with hg
    injection hg with _ ht
    exact hne ht
theorem own_slice {w : World} {base : Nat} {e : TypeId} {size n : Nat} {v : Value} {xs : List Value} (h : w.ownsRow base e size v n xs) : ∃ a c, v = .slice a n c := by
  rcases h.2 with ⟨h, h'⟩ | ⟨g, cap, cur, hv, _⟩
  · exact ⟨none, 0, by rw [h, h']⟩
  · exact ⟨_, _, hv⟩
theorem below_step {w w1 w2 : World} (h : Below w.heap.size w w1) (h' : Below w1.heap.size w1 w2) : Below w.heap.size w w2 := h.trans (h'.mono h.size)
/-- A block of one cell. -/
theorem blk1 {w : World} {g : Nat} {a : Value} {t : TypeId} (h : w.heap[g]? = some (.cells #[a] t (0, 0))) : w.cell? ⟨g, 0, none⟩ = some a ∧ w.frozen? ⟨g, 0, none⟩ = false := ⟨blk_cell h 0, blk_free h 0⟩
theorem blk2 {w : World} {g : Nat} {a b : Value} {t : TypeId} (h : w.heap[g]? = some (.cells #[a, b] t (0, 0))) : w.cell? ⟨g, 0, none⟩ = some a ∧ w.cell? ⟨g, 1, none⟩ = some b ∧ w.frozen? ⟨g, 0, none⟩ = false ∧ w.frozen? ⟨g, 1, none⟩ = false := ⟨blk_cell h 0, blk_cell h 1, blk_free h 0, blk_free h 1⟩

theorem or128 : ∀ n : Fin 256, bits .or .u8 (n.val : Int) 128 = (n.val : Int) % 128 + 128 := by decide +kernel
theorem or128_of (k : Nat) : bits .or .u8 ((k : Int) % 256) 128 = (k : Int) % 128 + 128 := by
  have h := or128 ⟨k % 256, Nat.mod_lt _ (by omega)⟩
  simp only at h
  rw [show ((k : Int) % 256) = ((k % 256 : Nat) : Int) from by omega, h]
  omega
theorem B8_high (k : Nat) : B8 (UInt8.ofNat (k % 128 + 128)) = .int .u8 ((k : Int) % 128 + 128) := by
  unfold B8
  have : (UInt8.ofNat (k % 128 + 128)).toNat = k % 128 + 128 := by simp; omega
  rw [this]; congr 1
theorem B8_low (k : Nat) (h : k < 128) : B8 (UInt8.ofNat k) = .int .u8 (k : Int) := by
  unfold B8
  have : (UInt8.ofNat k).toNat = k := by simp; omega
  rw [this]

/-- The writer at p has laid these bytes; its blocks are of G. -/
structure WrAt (G : Nat → Prop) (w : World) (p : Nat) (l : List UInt8) : Prop where
  head : G p ∧ p < w.heap.size
  row : ∃ sv, w.heap[p]? = some (.cells #[sv] 325 (0, 0)) ∧ w.ownsRow 0 5 1 sv l.length (l.map B8) ∧ ∀ g, sv.ownBlock = some g → G g

def Up (G : Nat → Prop) (w : World) (k : Nat) : Prop := G k ∨ w.heap.size ≤ k

theorem WrAt.keep {G : Nat → Prop} {w w' : World} {p : Nat} {l : List UInt8} (h : WrAt G w p l) (hk : ∀ k, k < w.heap.size → G k → w'.heap[k]? = w.heap[k]?) (hs : w.heap.size ≤ w'.heap.size) : WrAt G w' p l := by
  obtain ⟨⟨h1, h2⟩, sv, h3, h4, h5⟩ := h
  exact ⟨⟨h1, Nat.lt_of_lt_of_le h2 hs⟩, sv, (hk p h2 h1).trans h3, ownsRow_keep h4 (fun g hg => hk g (h4.lt g hg).2 (h5 g hg)), h5⟩
theorem WrAt.below {G : Nat → Prop} {w w' : World} {p : Nat} {l : List UInt8} (h : WrAt G w p l) (hb : Below w.heap.size w w') : WrAt G w' p l := h.keep (fun k hk _ => hb.block k hk) hb.size
theorem WrAt.mono {G G' : Nat → Prop} {w : World} {p : Nat} {l : List UInt8} (h : WrAt G w p l) (hG : ∀ k, k < w.heap.size → G k → G' k) : WrAt G' w p l := by
  obtain ⟨⟨h1, h2⟩, sv, h3, h4, h5⟩ := h
  exact ⟨⟨hG p h2 h1, h2⟩, sv, h3, h4, fun g hg => hG g (h4.lt g hg).2 (h5 g hg)⟩
theorem WrAt.tight {G : Nat → Prop} {w : World} {p : Nat} {l : List UInt8} (h : WrAt G w p l) : WrAt (fun k => G k ∧ k < w.heap.size) w p l := h.mono (fun _ hk hg => ⟨hg, hk⟩)
theorem WrAt.mod {F G : Nat → Prop} {w w' : World} {p : Nat} {l : List UInt8} (h : WrAt G w p l) (hm : Mod F w w') (hd : ∀ k, k < w.heap.size → G k → ¬ F k) : WrAt G w' p l := h.keep (fun k hk hG => hm.block k hk (hd k hk hG)) hm.size

/-- One byte more: behind the append and the store. -/
theorem WrAt.push {G : Nat → Prop} {w : World} {p : Nat} {l : List UInt8} {sv : Value} {O : Obj} {w1 w3 : World} {x : UInt8} {g cap n : Nat} (hp : G p) (hh : w1.heap[p]? = some (.cells #[sv] 325 (0, 0))) (hm : Mod G w w1) (hn : l.length = n)
    (ho : w1.ownsRow 0 5 1 sv l.length (l.map B8)) (hG : ∀ g, sv.ownBlock = some g → Up G w g)
    (h3 : w3.ownsRow 0 5 1 (.slice (some ⟨g, 0, none⟩) (n + 1) cap) (n + 1) (l.map B8 ++ [B8 x])) (hgrow : (w1.alloc O).grownBy w3 sv.ownBlock) (hat : sv.ownBlock = some g ∨ g = w1.heap.size + 1) :
    WrAt (Up G w) (w3.setCell ⟨p, 0, none⟩ (.slice (some ⟨g, 0, none⟩) (n + 1) cap)) p (l ++ [x]) ∧ Mod G w (w3.setCell ⟨p, 0, none⟩ (.slice (some ⟨g, 0, none⟩) (n + 1) cap)) := by
  subst hn
  have hp1 := lt_of_heap hh
  have hne := own_ne ho hh (by decide)
  have hgp : g ≠ p := by
    rcases hat with e | e
    · rintro rfl; exact hne e
    · omega
  have hs := hgrow.size
  simp at hs
  have h3p : w3.heap[p]? = some (.cells #[sv] 325 (0, 0)) := (hgrow.block p (by simp; omega) (fun e => hne e.symm)).trans ((heap_past w1 O p hp1).trans hh)
  refine ⟨⟨⟨Or.inl hp, by simp [World.setCell]; omega⟩, _, by rw [blk_set h3p 0 _]; rfl, ?_, ?_⟩, ?_⟩
  · have := ownsRow_keep (w' := w3.setCell ⟨p, 0, none⟩ (.slice (some ⟨g, 0, none⟩) (l.length + 1) cap)) h3 (fun k hk => Below.heap_setCell w3 ⟨p, 0, none⟩ _ k (by
      obtain rfl : g = k := by simpa [Value.ownBlock] using hk
      exact hgp))
    simpa using this
  · intro k hk
    obtain rfl : g = k := by simpa [Value.ownBlock] using hk
    rcases hat with e | e
    · exact hG _ e
    · right; have := hm.size; omega
  · refine (Mod.grown (hm.alloc O) hgrow (fun k hk hlt => ?_)).setCell (fun _ => hp) _
    rcases hG k hk with h | h
    · exact h
    · omega

set_option maxRecDepth 100000 in
set_option maxHeartbeats 1000000 in
theorem put_any (G : Nat → Prop) (p : Nat) (l : List UInt8) (x : UInt8) (w : World) (h : WrAt G w p l) (hl : l.length + 1 ≤ 140737488355328) :
    Calls Tryz.prog 317 #[.pointer (some ⟨p, 0, none⟩), B8 x] w fun e w' => e = .returned (.tuple #[]) ∧ WrAt (Up G w) w' p (l ++ [x]) ∧ Mod G w w' := by
  obtain ⟨i0, hi, hz0, hz1, hz2⟩ := info_parts Tryz.info8
  obtain ⟨⟨h1, h2⟩, sv, h3, h4, h5⟩ := h
  obtain ⟨a0, b0⟩ := blk1 h3
  have H3 := Lib.hid h3
  have H4 := Lib.hid h4
  have H5 := Lib.hid h5
  clear h3 h4 h5
  unfold B8
  go_enter Tryz.func317, Tryz.ntmps317
  go_wp2_with (at_builtin; refine wpList_append_lies _ rfl (.tmp 8) (.tmp 10) _ rfl 0 5 i0 _ 1 1 Tryz.underlying127 hi hz0 hz1 hz2 rfl (by omega) sv l.length (l.map B8) rfl (H4.out.alloc _) ⟨w.heap.size, 0, none⟩ 1 1 [.int .u8 x.toNat] rfl rfl (World.news_of_block (cs := #[.int .u8 x.toNat]) (t := 5) (fr := (0, 0)) (heap_at _ _ _ rfl)) (by simp [Value.oneCell']) (by omega) (by unfold maxLen; omega) (by omega) (by omega) (w.heap.size + 1) (by simp) ?_; intro g cap w3 hown3 hgrow hat hlt; have hne := own_ne H4.out H3.out (by decide); obtain ⟨c0, d0⟩ := blk1 ((hgrow.block p (by simp; omega) (fun e => hne e.symm)).trans ((heap_past w _ p h2).trans H3.out)))
  go_end0
  exact ⟨rfl, WrAt.push h1 H3.out (Mod.refl _ _) rfl H4.out (fun g hg => Or.inl (H5.out g hg)) hown3 hgrow hat⟩

set_option maxRecDepth 100000 in
set_option maxHeartbeats 1000000 in
theorem wnum_any (G : Nat → Prop) (p : Nat) (l : List UInt8) (n : Int) (w : World) (h : WrAt G w p l) (hn : n ≤ 9223372036854775807) (hl : l.length + 9 ≤ 140737488355328) :
    Calls Tryz.prog 201 #[.pointer (some ⟨p, 0, none⟩), .int .i64 n] w fun e w' => e = .returned (.tuple #[]) ∧ WrAt (Up G w) w' p (l ++ enc n.toNat) ∧ Mod G w w' := by
  obtain ⟨i0, hi, hz0, hz1, hz2⟩ := info_parts Tryz.info8
  have hGp := h.head.1
  have H := Lib.hid h
  clear h
  obtain ⟨N, hN⟩ : ∃ N, N = n.toNat := ⟨_, rfl⟩
  have hNb : N < 9223372036854775808 := by omega
  rw [← hN]
  have HN := Lib.hid hN
  clear hN
  rcases (show (∃ m : Nat, n = m) ∨ n < 0 from by by_cases h : n < 0; exact Or.inr h; exact Or.inl ⟨n.toNat, by omega⟩) with ⟨m, rfl⟩ | hlt
  all_goals
    go_enter Tryz.func201, Tryz.ntmps201
    go_wp2_with fail
    go_loopw [4] (fun x wr => ∃ (k : Nat) (d : List UInt8), x = .int .u64 k ∧ k < 9223372036854775808 ∧ Hid (d ++ enc k = l ++ enc N) ∧ d.length + 1 ≤ l.length + 9 ∧ WrAt (Up G w) wr p d ∧ Mod G w wr) (fun x _ => (intOf x).toNat)
    case atStart => exact ⟨N, l, congrArg (Value.int .u64) (by have := HN.out; omega), hNb, Lib.hid rfl, by omega, H.out.mono (fun _ _ h => Or.inl h), Mod.refl _ _⟩
    case round =>
      obtain ⟨k, d, rfl, hk, HE, hd, T, hm⟩ := hrel
      obtain ⟨⟨h1, h2⟩, sv, h3, h4, h5⟩ := T
      obtain ⟨a0, b0⟩ := blk1 h3
      have H3 := Lib.hid h3
      have H4 := Lib.hid h4
      have H5 := Lib.hid h5
      clear h3 h4 h5
      by_cases hk7 : 127 < k
      · have hk7' : (127 : Int) < (k : Int) := by omega
        have hor := or128_of k
        have hE2 : (d ++ [UInt8.ofNat (k % 128 + 128)]) ++ enc (k / 128) = l ++ enc N := by rw [← HE.out, enc_big (n := k) (by omega)]; simp
        have hlen : d.length + 1 + (enc (k / 128)).length = l.length + (enc N).length := by have := congrArg List.length hE2; simp at this; omega
        have hp9 := enc_int N hNb
        have hp1 := enc_pos (k / 128)
        have HE2 := Lib.hid hE2
        have hd2 : d.length + 1 + 1 ≤ l.length + 9 := by omega
        clear hE2 hlen
        go_wp2_with (at_builtin; refine wpList_append_lies _ rfl (.tmp 18) (.tmp 22) _ rfl 0 5 i0 _ 1 1 Tryz.underlying127 hi hz0 hz1 hz2 rfl (by omega) sv d.length (d.map B8) rfl (H4.out.alloc _) ⟨wr.heap.size, 0, none⟩ 1 1 [.int .u8 ((k : Int) % 128 + 128)] rfl rfl (World.news_of_block (cs := #[.int .u8 ((k : Int) % 128 + 128)]) (t := 5) (fr := (0, 0)) (heap_at _ _ _ rfl)) (by simp [Value.oneCell']) (by omega) (by unfold maxLen; omega) (by omega) (by omega) (wr.heap.size + 1) (by simp) ?_; intro g cap w3 hown3 hgrow hat hlt3; have hne := own_ne H4.out H3.out (by decide); obtain ⟨c0, d0⟩ := blk1 ((hgrow.block p (by simp; omega) (fun e => hne e.symm)).trans ((heap_past wr _ p h2).trans H3.out)); have hp3 := hgrow.size)
        have R := WrAt.push (x := UInt8.ofNat (k % 128 + 128)) hGp H3.out hm rfl H4.out H5.out (by rw [B8_high]; exact hown3) hgrow hat
        refine ⟨⟨k / 128, d ++ [UInt8.ofNat (k % 128 + 128)], by push_cast; rfl, by omega, HE2, by simp; omega, R.1, R.2⟩, ?_⟩
        simp only [intOf]
        omega
      · have hk7' : (k : Int) ≤ 127 := by omega
        go_wp2_with (at_builtin; refine wpList_append_lies _ rfl (.tmp 30) (.tmp 33) _ rfl 0 5 i0 _ 1 1 Tryz.underlying127 hi hz0 hz1 hz2 rfl (by omega) sv d.length (d.map B8) rfl (H4.out.alloc _) ⟨wr.heap.size, 0, none⟩ 1 1 [.int .u8 (k : Int)] rfl rfl (World.news_of_block (cs := #[.int .u8 (k : Int)]) (t := 5) (fr := (0, 0)) (heap_at _ _ _ rfl)) (by simp [Value.oneCell']) (by omega) (by unfold maxLen; omega) (by omega) (by omega) (wr.heap.size + 1) (by simp) ?_; intro g cap w3 hown3 hgrow hat hlt3; have hne := own_ne H4.out H3.out (by decide); obtain ⟨c0, d0⟩ := blk1 ((hgrow.block p (by simp; omega) (fun e => hne e.symm)).trans ((heap_past wr _ p h2).trans H3.out)); have hp3 := hgrow.size)
        go_end0
        have R := WrAt.push (x := UInt8.ofNat k) hGp H3.out hm rfl H4.out H5.out (by rw [B8_low _ (by omega)]; exact hown3) hgrow hat
        refine ⟨rfl, ?_, R.2⟩
        rw [← HE.out, enc_small (by omega)]
        exact R.1
end Go.Proofs.YtphfekkllibphaaGreatDoor

namespace Go.Proofs.YtphfekkllibphaaGreatDoor
open Go.RowKit

theorem take_bytes (s : ByteArray) (k : Nat) (h : k < s.size) : s.data.toList.take (k + 1) = s.data.toList.take k ++ [s[k]] := by
  rw [List.take_succ_eq_append_getElem (by simpa using h)]; rfl
theorem WrAt.up2 {G : Nat → Prop} {w0 w w' : World} {p : Nat} {l : List UInt8} (h : WrAt (Up (Up G w0) w) w' p l) (hs : w0.heap.size ≤ w.heap.size) : WrAt (Up G w0) w' p l :=
  h.mono (fun k _ hk => by rcases hk with (hk | hk) | hk; exact Or.inl hk; exact Or.inr hk; exact Or.inr (Nat.le_trans hs hk))
theorem Mod.up {G : Nat → Prop} {w0 w w' : World} (h : Mod G w0 w) (h' : Mod (Up G w0) w w') : Mod G w0 w' :=
  h.trans h' (fun k hk hg => hg.elim id (fun h => absurd h (Nat.not_le_of_lt hk)))

set_option maxRecDepth 100000 in
set_option maxHeartbeats 1000000 in
theorem each_any (G : Nat → Prop) (p : Nat) (l : List UInt8) (s : ByteArray) (w : World) (h : WrAt G w p l) (hl : l.length + s.size ≤ 140737488355328) :
    Calls Tryz.prog 316 #[.string s, .func (.func 317) #[.pointer (some ⟨p, 0, none⟩)] #[]] w fun e w' => e = .returned (.tuple #[]) ∧ WrAt (Up G w) w' p (l ++ s.data.toList) ∧ Mod G w w' := by
  have H := Lib.hid h
  clear h
  go_enter Tryz.func316, Tryz.ntmps316
  go_wp2_with fail
  go_loopw [7] (fun i wr => ∃ k : Nat, k ≤ s.size ∧ i = .int .i64 k ∧ WrAt (Up G w) wr p (l ++ s.data.toList.take k) ∧ Mod G w wr) (fun i _ => s.size - (intOf i).toNat)
  case atStart => exact ⟨0, Nat.zero_le _, rfl, by rw [List.take_zero, List.append_nil]; exact H.out.mono (fun _ _ h => Or.inl h), Mod.refl _ _⟩
  case round =>
    obtain ⟨k, hk, rfl, T, hm⟩ := hrel
    have HT := Lib.hid T
    clear T
    by_cases hlt : k < s.size
    · have htk : (s.data.toList.take k).length = k := by simp; omega
      have HTK := Lib.hid htk
      clear htk
      go_wp2_with fail
      refine (put_any (Up G w) p _ s[k] wr HT.out (by rw [List.length_append, HTK.out]; omega)).mono ?_
      rintro e w2 ⟨rfl, h2, hm2⟩
      go_wp2_with fail
      refine ⟨⟨k + 1, by omega, by push_cast; rfl, ?_, hm.up hm2⟩, by simp only [intOf]; omega⟩
      rw [take_bytes s k hlt, ← List.append_assoc]
      exact h2.up2 hm.size
    · obtain rfl : k = s.size := by omega
      go_wp2_with fail
      go_end0
      refine ⟨rfl, ?_, hm⟩
      have := HT.out
      rw [List.take_of_length_le (by simp)] at this
      exact this

set_option maxRecDepth 100000 in
set_option maxHeartbeats 1000000 in
theorem text_any (G : Nat → Prop) (p : Nat) (l : List UInt8) (s : ByteArray) (w : World) (h : WrAt G w p l) (hl : l.length + 9 + s.size ≤ 140737488355328) :
    Calls Tryz.prog 218 #[.pointer (some ⟨p, 0, none⟩), .string s] w fun e w' => e = .returned (.tuple #[]) ∧ WrAt (Up G w) w' p (l ++ encText s.data.toList) ∧ Mod G w w' := by
  have H := Lib.hid h
  clear h
  go_enter Tryz.func218, Tryz.ntmps218
  go_wp2_with fail
  refine (wnum_any G p l _ w H.out (by omega) (by omega)).mono ?_
  rintro e w1 ⟨rfl, h1, hm1⟩
  go_wp2_with fail
  refine (each_any (Up G w) p _ s w1 h1 (by have := enc_length 9 s.size (by omega) (by omega); simp; omega)).mono ?_
  rintro e w2 ⟨rfl, h2, hm2⟩
  go_wp2_with fail
  go_end0
  refine ⟨rfl, ?_, hm1.up hm2⟩
  unfold encText
  rw [← List.append_assoc, show s.data.toList.length = s.size from Array.length_toList]
  have := h2.up2 hm1.size
  simpa using this

/-- Memory that a call hands back: a slice that reads as these bytes, all in blocks that are new. -/
def NewBytes (w w' : World) (v : Value) (l : List UInt8) : Prop := ∃ n, w'.ownsRow w.heap.size 5 1 v n (l.map B8)

set_option maxRecDepth 100000 in
set_option maxHeartbeats 1000000 in
theorem bytes_any (G : Nat → Prop) (p : Nat) (l : List UInt8) (w : World) (h : WrAt G w p l) (hl : l.length ≤ 140737488355328) :
    Calls Tryz.prog 203 #[.pointer (some ⟨p, 0, none⟩)] w fun e w' => ∃ v, e = .returned v ∧ NewBytes w w' v l ∧ Below w.heap.size w w' := by
  obtain ⟨i0, hi, hz0, hz1, hz2⟩ := info_parts Tryz.info8
  obtain ⟨⟨h1, h2⟩, sv, h3, h4, h5⟩ := h
  obtain ⟨a0, b0⟩ := blk1 h3
  have HB := Lib.hid (BytesV.of_own h4)
  clear h3 h4 h5
  go_enter Tryz.func203, Tryz.ntmps203
  go_wp2_with (at_builtin; refine wpList_append_bytes rfl (.const (.slice none 0 0)) (.tmp 8) _ rfl w.heap.size 5 i0 Tryz.underlying127 hi hz0 hz1 hz2 (.slice none 0 0) 0 [] rfl (World.ownsRow_nil _ _ _ _) _ sv l rfl HB.out (by omega) (Nat.le_refl _) ?_; intro v3 w3 hown3 hgrow hat)
  go_ret
  exact ⟨_, rfl, ⟨_, by simpa using hown3⟩, (Below.refl _ _).grown hgrow (Nat.le_refl _) (by intro k hk; simp [Value.ownBlock] at hk)⟩

end Go.Proofs.YtphfekkllibphaaGreatDoor

