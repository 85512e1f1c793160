/- THE WALKS of the reader: num, NewReader, Num, Text, Left, Err.  THE WALKS of the reader: NewReader, Num, Text, Left, Err.  THE WALKS of the reader: Text, NewReader, Left, Err.  THE WALKS of Sum, Four, OfFour. -/
import Derived.Test.YtaelbgjcoakdlaaGreatWrbM
import Derived.Deep.DeepCutAuto
import Derived.BigQuiet
import Derived.Deep.QuietTactic
import Derived.Test.YtaelbgjcoakdlaaGreatCrcM
import Derived.RegionTactic
import Derived.ChangeAlike
namespace Go.Proofs.YtaelbgjcoakdlaaGreat
open Go.RowKit

theorem and127 : ∀ n : Fin 256, bits .and .u8 (n.val : Int) 127 = ((n.val % 128 : Nat) : Int) := by decide +kernel
theorem and127_of (u : Nat) (h : u < 256) : bits .and .u8 (u : Int) 127 = ((u % 128 : Nat) : Int) := and127 ⟨u, h⟩
theorem pow7 (k : Nat) : (2 : Int) ^ (7 * k) = ((128 ^ k : Nat) : Int) := by
  rw [Int.pow_mul]; norm_cast
theorem or_sum (X y k : Nat) (hX : X < 128 ^ k) (hb : X + y * 128 ^ k < 18446744073709551616) : bits .or .u64 (X : Int) ((y * 128 ^ k : Nat) : Int) = ((X + y * 128 ^ k : Nat) : Int) := by
  have e : (128 : Nat) ^ k = 2 ^ (7 * k) := by rw [Nat.pow_mul]
  rw [bits_join_low .u64 64 (by decide) wraps_u64 (7 * k) (X : Int) ((y * 128 ^ k : Nat) : Int) (by omega) (by rw [pow7]; omega) (by omega) (by omega) (by rw [pow7]; push_cast; exact Int.mul_emod_left _ _) (by omega)]
  push_cast
  rfl
theorem tk_drop {l : List UInt8} {k : Nat} (h : k < l.length) (X : Nat) : tk (l.drop k) k X = if (l[k].toNat < 128 ∧ l[k].toNat = 0 ∧ 0 < k) ∨ (128 ≤ l[k].toNat ∧ k = 8) then ⟨0, 0, 21⟩ else if l[k].toNat < 128 then ⟨X + l[k].toNat * 128 ^ k, k + 1, 0⟩ else tk (l.drop (k + 1)) (k + 1) (X + (l[k].toNat - 128) * 128 ^ k) := by
  rw [List.drop_eq_getElem_cons h]; rfl

set_option maxRecDepth 100000 in
set_option maxHeartbeats 1000000 in
theorem num_any (D : Nat → Prop) (l : List UInt8) (dv : Value) (w : World) (hd : BytesV D w dv l) :
    Calls Tryz.prog 53 #[dv] w fun e w' => e = .returned (.tuple #[.int .i64 (tk l 0 0).n, .int .i64 (tk l 0 0).k, .int .i64 (tk l 0 0).e]) ∧ w = w' := by
  have HD := Lib.hid hd
  obtain ⟨a, c, rfl, hc, hcm, _, hcell⟩ := hd
  unfold maxLen at hcm
  have HC := Lib.hid hcell
  clear hcell
  go_enter Tryz.func53, Tryz.ntmps53
  go_wp2_with fail
  go_loop [5, 10] (fun x i => ∃ k X : Nat, k ≤ l.length ∧ i = .int .i64 k ∧ x = .int .u64 X ∧ X < 128 ^ k ∧ k ≤ 8 ∧ Hid (tk (l.drop k) k X = tk l 0 0)) (fun _ i => l.length - (intOf i).toNat)
  case atStart => exact ⟨0, 0, by omega, rfl, rfl, by decide, by omega, Lib.hid rfl⟩
  case round =>
    obtain ⟨k, X, hk, rfl, rfl, hX, hk8, HE⟩ := hrel
    by_cases hlt : k < l.length
    · obtain ⟨b, o, rfl, hb, _, hcell⟩ := HC.out (by omega)
      have c0 := hcell k l[k] (List.getElem?_eq_getElem hlt)
      have hu := l[k].toNat_lt
      obtain ⟨u, hu0⟩ : ∃ u, u = l[k].toNat := ⟨_, rfl⟩
      have HU := Lib.hid hu0
      unfold B8 at c0
      rw [← hu0] at c0 hu
      have k0 : (0 : Int) ≤ (k : Int) := by omega
      have k1 : (k : Int) < (l.length : Int) := by omega
      clear hcell hu0
      have h9 : (128 : Nat) ^ 8 = 72057594037927936 := by decide
      have hXb : X < 72057594037927936 := Nat.lt_of_lt_of_le hX (by rw [← h9]; exact Nat.pow_le_pow_right (by omega) hk8)
      have hp : (128 : Nat) ^ k ≤ 72057594037927936 := by rw [← h9]; exact Nat.pow_le_pow_right (by omega) hk8
      have hy : u % 128 * 128 ^ k ≤ 127 * 128 ^ k := Nat.mul_le_mul_right _ (by omega)
      have hand0 := and127_of u hu
      have hor0 := or_sum X (u % 128) k hX (by omega)
      have hps : (128 : Nat) ^ (k + 1) = 128 ^ k * 128 := Nat.pow_succ ..
      have htk := tk_drop hlt X
      rw [← HU.out] at htk
      obtain ⟨P, hP⟩ : ∃ P, P = (128 : Nat) ^ k := ⟨_, rfl⟩
      have hsh0 : IntKind.u64.wrap (((u % 128 : Nat) : Int) * 2 ^ (7 * k)) = ((u % 128 * 128 ^ k : Nat) : Int) := by
        rw [pow7, ← Int.natCast_mul]; exact wraps_u64 _ (by omega) (by omega)
      rw [← hP] at hor0 hsh0 hps hy hp htk hX
      obtain ⟨y, hy0⟩ : ∃ y, y = u % 128 := ⟨_, rfl⟩
      have hyb : y < 128 := by omega
      rw [← hy0] at hor0 hsh0 hand0 hy
      obtain ⟨Y, hY⟩ : ∃ Y, Y = y * P := ⟨_, rfl⟩
      rw [← hY] at hor0 hsh0 hy
      obtain ⟨Z, hZ⟩ : ∃ Z, Z = X + Y := ⟨_, rfl⟩
      rw [← hZ] at hor0
      have hwr : IntKind.u64.wrap (y : Int) = (y : Int) := wraps_u64 _ (by omega) (by omega)
      have hZb : Z < P * 128 := by omega
      have hZc : Z ≤ 9223372036854775807 := by omega
      have HPS := Lib.hid hps
      have HZ := Lib.hid hZ
      have HYY := Lib.hid hY
      have HY0 := Lib.hid hy0
      have HTK := Lib.hid htk
      have HPP := Lib.hid hP
      clear hps hZ hY hy0 htk hP h9
      by_cases h8 : u < 128
      · have h8i : (u : Int) < 128 := by omega
        have h8j : ¬ (128 : Int) ≤ (u : Int) := by omega
        have hyu : y = u := by rw [HY0.out]; exact Nat.mod_eq_of_lt h8
        have HYU := Lib.hid hyu
        clear hyu
        by_cases hu1 : u = 0
        · have hZX : Z = X := by rw [HZ.out, HYY.out, HYU.out, hu1]; omega
          have hor1 : bits .or .u64 (X : Int) 0 = (X : Int) := by
            have h1 := or_sum X 0 k (by rw [← HPP.out]; exact hX) (by omega)
            simpa using h1
          have hand1 : bits .and .u8 0 127 = 0 := by decide
          have hwr1 : IntKind.u64.wrap 0 = 0 := by decide
          by_cases hz : 0 < k
          · have hr : tk l 0 0 = ⟨0, 0, 21⟩ := by rw [← HE.out, HTK.out, if_pos (by omega)]
            have HR := Lib.hid hr
            have e1 : (0 : Int) < (k : Int) := by omega
            clear hz hr hand0 hwr hsh0 hor0 hZX
            subst hu1
            go_wp2_with fail
            go_ret3
            exact ⟨by rw [HR.out]; rfl, rfl⟩
          · have hr : tk l 0 0 = ⟨X, k + 1, 0⟩ := by
              rw [← HE.out, HTK.out, if_neg (by omega), if_pos h8, hu1, Nat.zero_mul]; rfl
            have HR := Lib.hid hr
            have e1 : ¬ (0 : Int) < (k : Int) := by omega
            have hXc : X ≤ 9223372036854775807 := by omega
            clear hz hr hand0 hwr hsh0 hor0 hZX
            subst hu1
            go_wp2_with fail
            go_ret3
            exact ⟨by rw [HR.out]; push_cast; rfl, rfl⟩
        · have hr : tk l 0 0 = ⟨Z, k + 1, 0⟩ := by
            rw [← HE.out, HTK.out, if_neg (by omega), if_pos h8, HZ.out, HYY.out, HYU.out]
          have HR := Lib.hid hr
          have e0 : ((u : Int) == 0) = false := by rw [beq_eq_false_iff_ne]; omega
          clear hr hu1
          go_wp2_with fail
          go_ret3
          exact ⟨by rw [HR.out]; push_cast; rfl, rfl⟩
      · have h8i : ¬ (u : Int) < 128 := by omega
        have h8j : (128 : Int) ≤ (u : Int) := by omega
        by_cases hk9 : k = 8
        · have hr : tk l 0 0 = ⟨0, 0, 21⟩ := by rw [← HE.out, HTK.out, if_pos (by omega)]
          have HR := Lib.hid hr
          have e0 : ((k : Int) == 8) = true := by rw [beq_iff_eq]; omega
          clear hk9 hr
          go_wp2_with fail
          go_ret3
          exact ⟨by rw [HR.out]; rfl, rfl⟩
        · have e0 : ((k : Int) == 8) = false := by rw [beq_eq_false_iff_ne]; omega
          have hr : tk (l.drop (k + 1)) (k + 1) Z = tk l 0 0 := by
            rw [← HE.out, HTK.out, if_neg (by omega), if_neg h8, HZ.out, HYY.out, HY0.out, show u % 128 = u - 128 from by omega]
          have HR := Lib.hid hr
          have hk7 : k + 1 ≤ 8 := by omega
          clear hk9 hr
          go_wp2_with fail
          exact ⟨⟨k + 1, Z, by omega, by push_cast; rfl, rfl, by rw [HPS.out]; exact hZb, hk7, HR⟩, by simp only [intOf]; omega⟩
    · obtain rfl : k = l.length := by omega
      have hr : tk l 0 0 = ⟨0, 0, 20⟩ := by rw [← HE.out, List.drop_length]; rfl
      have HR := Lib.hid hr
      clear hr
      go_wp2_with fail
      go_ret3
      exact ⟨by rw [HR.out]; rfl, rfl⟩
end Go.Proofs.YtaelbgjcoakdlaaGreat

namespace Go.Proofs.YtaelbgjcoakdlaaGreat
open Go.RowKit

/-- A reader's data: what is left, the error. -/
structure Rd where
  left : List UInt8
  err : Nat
def Rd.num (r : Rd) : Nat := if r.err = 0 then (tk r.left 0 0).n else 0
def Rd.numR (r : Rd) : Rd := if r.err = 0 then ⟨r.left.drop (tk r.left 0 0).k, (tk r.left 0 0).e⟩ else r
/-- What Text answers: the text, the width, the error. -/
def tkT (l : List UInt8) (M : Nat) : List UInt8 × Nat × Nat :=
  if (tk l 0 0).e ≠ 0 then ([], 0, (tk l 0 0).e) else if M < (tk l 0 0).n then ([], 0, 21) else if l.length - (tk l 0 0).k < (tk l 0 0).n then ([], 0, 20)
  else ((l.drop (tk l 0 0).k).take (tk l 0 0).n, (tk l 0 0).k + (tk l 0 0).n, 0)
def tkText (l : List UInt8) (most : Int) : List UInt8 × Nat × Nat := tkT l (max most 0).toNat
def Rd.text (r : Rd) (most : Int) : List UInt8 := if r.err = 0 then (tkText r.left most).1 else []
def Rd.textR (r : Rd) (most : Int) : Rd := if r.err = 0 then ⟨r.left.drop (tkText r.left most).2.1, (tkText r.left most).2.2⟩ else r

/-- The reader at p; its blocks are of G. -/
structure RdAt (G : Nat → Prop) (w : World) (p : Nat) (r : Rd) : Prop where
  head : G p ∧ p < w.heap.size
  row : ∃ sv, w.heap[p]? = some (.cells #[sv, .int .i64 r.err] 128 (0, 0)) ∧ BytesV (fun k => G k ∧ k ≠ p) w sv r.left

theorem RdAt.keep {G : Nat → Prop} {w w' : World} {p : Nat} {r : Rd} (h : RdAt G w p r) (hk : ∀ k, k < w.heap.size → G k → w'.heap[k]? = w.heap[k]?) (hs : w.heap.size ≤ w'.heap.size) : RdAt G w' p r := by
  obtain ⟨⟨h1, h2⟩, sv, h3, h4⟩ := h
  exact ⟨⟨h1, Nat.lt_of_lt_of_le h2 hs⟩, sv, (hk p h2 h1).trans h3, h4.keep (fun k hk' hg => hk k hk' hg.1) hs⟩
theorem RdAt.below {G : Nat → Prop} {w w' : World} {p : Nat} {r : Rd} (h : RdAt G w p r) (hb : Below w.heap.size w w') : RdAt G w' p r := h.keep (fun k hk _ => hb.block k hk) hb.size
theorem RdAt.mod {F G : Nat → Prop} {w w' : World} {p : Nat} {r : Rd} (h : RdAt G w p r) (hm : Mod F w w') (hd : ∀ k, k < w.heap.size → G k → ¬ F k) : RdAt G w' p r := h.keep (fun k hk hG => hm.block k hk (hd k hk hG)) hm.size
theorem RdAt.mono {G G' : Nat → Prop} {w : World} {p : Nat} {r : Rd} (h : RdAt G w p r) (hG : ∀ k, k < w.heap.size → G k → G' k) : RdAt G' w p r := by
  obtain ⟨⟨h1, h2⟩, sv, h3, h4⟩ := h
  exact ⟨⟨hG p h2 h1, h2⟩, sv, h3, h4.mono (fun k hk hg => ⟨hG k hk hg.1, hg.2⟩)⟩

section
variable {D : Nat → Prop} {w : World} {a : Option Addr} {n c k : Nat} {l : List UInt8}
/-- l[k:], k less than the capacity. -/
theorem cut_from (h : BytesV D w (.slice a l.length c) l) (hk : k ≤ l.length) : BytesV D w (.slice (Option.map (fun x => x.add k) a) (l.length - k) (c - k)) (l.drop k) := by
  obtain ⟨a', c', e, h2, h3, h4, h5⟩ := h
  injection e with e1 _ e2
  subst e1 e2
  refine ⟨_, _, by rw [List.length_drop], by rw [List.length_drop]; omega, by omega, fun e => ?_, fun hl => ?_⟩
  · have : a = none := by cases a with | none => rfl | some x => cases e
    rw [h4 this]; omega
  · rw [List.length_drop] at hl
    obtain ⟨b, o, rfl, hb, hD, hc⟩ := h5 (by omega)
    refine ⟨b, o + k, by rw [Option.map_some, Addr.add_mid], hb, hD, fun j x hx => ?_⟩
    rw [List.getElem?_drop] at hx
    have := hc (k + j) x hx
    rwa [← Nat.add_assoc] at this
/-- l[k:], k the capacity. -/
theorem cut_end (h : BytesV D w (.slice a l.length c) l) (hk : k ≤ l.length) (hc : c = k) : BytesV D w (.slice a (l.length - k) 0) (l.drop k) := by
  obtain ⟨a', c', e, h2, h3, h4, h5⟩ := h
  injection e with e1 _ e2
  subst e1 e2
  refine ⟨a, 0, by rw [List.length_drop], by rw [List.length_drop]; omega, by omega, fun _ => rfl, fun hl => ?_⟩
  rw [List.length_drop] at hl
  omega
/-- l[k:k+n] -/
theorem cut_to (h : BytesV D w (.slice a l.length c) l) (hk : k + n ≤ l.length) : BytesV D w (.slice (Option.map (fun x => x.add k) a) n (c - k)) ((l.drop k).take n) := by
  have hn : ((l.drop k).take n).length = n := by simp; omega
  obtain ⟨a', c', e, h2, h3, h4, h5⟩ := h
  injection e with e1 _ e2
  subst e1 e2
  refine ⟨_, _, by rw [hn], by rw [hn]; omega, by omega, fun e => ?_, fun hl => ?_⟩
  · have : a = none := by cases a with | none => rfl | some x => cases e
    rw [h4 this]; omega
  · rw [hn] at hl
    obtain ⟨b, o, rfl, hb, hD, hc⟩ := h5 (by omega)
    refine ⟨b, o + k, by rw [Option.map_some, Addr.add_mid], hb, hD, fun j x hx => ?_⟩
    have hj : j < n := by have := (List.getElem?_eq_some_iff.1 hx).1; omega
    rw [List.getElem?_take_of_lt hj, List.getElem?_drop] at hx
    have := hc (k + j) x hx
    rwa [← Nat.add_assoc] at this
end

/-- The reader's cells are written anew. -/
theorem RdAt.done {G : Nat → Prop} {w : World} {p : Nat} {sv sv' : Value} {e0 : Value} {l : List UInt8} {e : Nat} (hG : G p) (hh : w.heap[p]? = some (.cells #[sv, e0] 128 (0, 0))) (hb : BytesV (fun k => G k ∧ k ≠ p) w sv' l) :
    RdAt G ((w.setCell ⟨p, 0, none⟩ sv').setCell ⟨p, 1, none⟩ (.int .i64 e)) p ⟨l, e⟩ ∧ Mod G w ((w.setCell ⟨p, 0, none⟩ sv').setCell ⟨p, 1, none⟩ (.int .i64 e)) := by
  have hp := lt_of_heap hh
  refine ⟨⟨⟨hG, by simpa [World.setCell] using hp⟩, sv', by rw [blk_set (blk_set hh 0 _) 1 _]; rfl, hb.keep (fun k _ hk => ?_) (by simp [World.setCell])⟩, ((Mod.refl _ _).setCell (fun _ => hG) _).setCell (fun _ => hG) _⟩
  exact (Below.heap_setCell _ ⟨p, 1, none⟩ _ k hk.2).trans (Below.heap_setCell _ ⟨p, 0, none⟩ _ k hk.2)
theorem RdAt.done1 {G : Nat → Prop} {w : World} {p : Nat} {sv : Value} {e0 : Value} {l : List UInt8} {e : Nat} (hG : G p) (hh : w.heap[p]? = some (.cells #[sv, e0] 128 (0, 0))) (hb : BytesV (fun k => G k ∧ k ≠ p) w sv l) :
    RdAt G (w.setCell ⟨p, 1, none⟩ (.int .i64 e)) p ⟨l, e⟩ ∧ Mod G w (w.setCell ⟨p, 1, none⟩ (.int .i64 e)) := by
  have hp := lt_of_heap hh
  refine ⟨⟨⟨hG, by simpa [World.setCell] using hp⟩, sv, by rw [blk_set hh 1 _]; rfl, hb.keep (fun k _ hk => ?_) (by simp [World.setCell])⟩, (Mod.refl _ _).setCell (fun _ => hG) _⟩
  exact Below.heap_setCell _ ⟨p, 1, none⟩ _ k hk.2
theorem RdAt.done0 {G : Nat → Prop} {w : World} {p : Nat} {sv sv' : Value} {l : List UInt8} {e : Nat} (hG : G p) (hh : w.heap[p]? = some (.cells #[sv, .int .i64 e] 128 (0, 0))) (hb : BytesV (fun k => G k ∧ k ≠ p) w sv' l) :
    RdAt G (w.setCell ⟨p, 0, none⟩ sv') p ⟨l, e⟩ ∧ Mod G w (w.setCell ⟨p, 0, none⟩ sv') := by
  have hp := lt_of_heap hh
  refine ⟨⟨⟨hG, by simpa [World.setCell] using hp⟩, sv', by rw [blk_set hh 0 _]; rfl, hb.keep (fun k _ hk => ?_) (by simp [World.setCell])⟩, (Mod.refl _ _).setCell (fun _ => hG) _⟩
  exact Below.heap_setCell _ ⟨p, 0, none⟩ _ k hk.2

set_option maxRecDepth 100000 in
set_option maxHeartbeats 1000000 in
theorem rnum_any (G : Nat → Prop) (p : Nat) (r : Rd) (w : World) (h : RdAt G w p r) :
    Calls Tryz.prog 41 #[.pointer (some ⟨p, 0, none⟩)] w fun e w' => e = .returned (.int .i64 r.num) ∧ RdAt G w' p r.numR ∧ Mod G w w' := by
  have H := Lib.hid h
  obtain ⟨⟨hG, hp⟩, sv, h1, h2⟩ := h
  obtain ⟨a0, a1, b0, b1⟩ := blk2 h1
  have H1 := Lib.hid h1
  have H2 := Lib.hid h2
  have hk : (tk r.left 0 0).k ≤ r.left.length := by
    rcases tk_err r.left 0 0 with h | h
    · have := (tk_width r.left 0 0 h).2.1; omega
    · omega
  obtain ⟨a, c, rfl, hc, hcm, _⟩ := h2
  unfold maxLen at hcm
  clear h1
  by_cases he : r.err = 0
  · have e0 : ((r.err : Int) != 0) = false := by rw [he]; rfl
    have hn : r.num = (tk r.left 0 0).n := by unfold Rd.num; rw [if_pos he]
    have hr : r.numR = ⟨r.left.drop (tk r.left 0 0).k, (tk r.left 0 0).e⟩ := by unfold Rd.numR; rw [if_pos he]
    have HN := Lib.hid hn
    have HR := Lib.hid hr
    have k0 : (0 : Int) ≤ ((tk r.left 0 0).k : Int) := by omega
    have k1 : ((tk r.left 0 0).k : Int) ≤ (r.left.length : Int) := by omega
    have k2 : (r.left.length : Int) ≤ (c : Int) := by omega
    clear he hn hr
    go_enter Tryz.func41, Tryz.ntmps41
    go_wp2_with fail
    refine (num_any _ r.left _ w H2.out).mono ?_
    rintro e w1 ⟨rfl, rfl⟩
    by_cases hck : c = (tk r.left 0 0).k
    · have HCK := Lib.hid hck
      go_wp2_with fail
      go_ret
      rw [HN.out, HR.out]
      have R := RdAt.done (e := (tk r.left 0 0).e) hG H1.out (cut_end H2.out hk HCK.out)
      exact ⟨rfl, R⟩
    · go_wp2_with fail
      go_ret
      rw [HN.out, HR.out]
      have R := RdAt.done (e := (tk r.left 0 0).e) hG H1.out (cut_from H2.out hk)
      exact ⟨rfl, R⟩
  · have e0 : ((r.err : Int) != 0) = true := by rw [bne_iff_ne]; omega
    have hn : r.num = 0 := by unfold Rd.num; rw [if_neg he]
    have hr : r.numR = r := by unfold Rd.numR; rw [if_neg he]
    rw [hn, hr]
    clear he hn hr
    go_enter Tryz.func41, Tryz.ntmps41
    go_wp2_with fail
    go_ret
    exact ⟨rfl, H.out, Mod.refl _ _⟩
end Go.Proofs.YtaelbgjcoakdlaaGreat

namespace Go.Proofs.YtaelbgjcoakdlaaGreat
open Go.RowKit

def NewRd (w : World) (r : Rd) (e : Ending) (w' : World) : Prop := ∃ q, e = .returned (.pointer (some ⟨q, 0, none⟩)) ∧ RdAt (fun k => w.heap.size ≤ k) w' q r ∧ Below w.heap.size w w'
set_option maxRecDepth 100000 in
set_option maxHeartbeats 1000000 in
theorem newReader_any (D : Nat → Prop) (l : List UInt8) (dv : Value) (w : World) (hd : BytesV D w dv l) (hl : l.length ≤ 140737488355328) :
    Calls Tryz.prog 40 #[dv] w (NewRd w ⟨l, 0⟩) := by
  obtain ⟨i0, hi, hz0, hz1, hz2⟩ := info_parts Tryz.info8
  have HD := Lib.hid hd
  clear hd
  go_enter Tryz.func40, Tryz.ntmps40
  go_wp2_with (at_builtin; refine wpList_append_bytes rfl (.const (.slice none 0 0)) (.tmp 3) _ rfl w.heap.size 5 i0 Tryz.underlying39 hi hz0 hz1 hz2 (.slice none 0 0) 0 [] rfl (World.ownsRow_nil _ _ _ _) _ dv l rfl HD.out (by omega) (Nat.le_refl _) ?_; intro v3 w3 hown3 hgrow hat; have hs3 := hgrow.size; obtain ⟨a3, c3, rfl⟩ := own_slice hown3; have HO := Lib.hid hown3; clear hown3)
  go_ret
  have hB : Below w.heap.size w w3 := (Below.refl _ _).grown hgrow (Nat.le_refl _) (by intro k hk; simp [Value.ownBlock] at hk)
  have hb := BytesV.of_own (by simpa using HO.out)
  refine ⟨w3.heap.size, rfl, ⟨⟨hs3, by simp⟩, _, heap_at w3 _ _ rfl, ?_⟩, hB.alloc hB.size _⟩
  refine ((hb.mono (G' := fun k => w.heap.size ≤ k ∧ k ≠ w3.heap.size) (fun k hk h => ⟨h, by omega⟩)).below ((Below.refl _ _).alloc (Nat.le_refl _) _))
end Go.Proofs.YtaelbgjcoakdlaaGreat

namespace Go.Proofs.YtaelbgjcoakdlaaGreat
open Go.RowKit

set_option maxRecDepth 100000 in
set_option maxHeartbeats 1000000 in
theorem sum_any (D : Nat → Prop) (l : List UInt8) (dv : Value) (w : World) (hd : BytesV D w dv l) :
    Calls Tryz.prog 37 #[dv] w fun e w' => e = .returned (.int .u32 (sumOf l)) ∧ w = w' := by
  obtain ⟨a, c, rfl, hc, hcm, _, hcell⟩ := hd
  unfold maxLen at hcm
  have HC := Lib.hid hcell
  clear hcell
  go_enter Tryz.func37, Tryz.ntmps37
  go_wp2_with fail
  go_loop [3, 8] (fun x i => ∃ k X : Nat, k ≤ l.length ∧ i = .int .i64 k ∧ x = .int .u32 X ∧ X < 4294967296 ∧ Hid (X = crc 4294967295 (l.take k))) (fun _ i => l.length - (intOf i).toNat)
  case atStart => exact ⟨0, 4294967295, by omega, rfl, rfl, by omega, Lib.hid rfl⟩
  case round =>
    obtain ⟨k, X, hk, rfl, rfl, hX, HE⟩ := hrel
    by_cases hlt : k < l.length
    · obtain ⟨b, o, rfl, hb, _, hcell⟩ := HC.out (by omega)
      have c0 := hcell k l[k] (List.getElem?_eq_getElem hlt)
      have hu := l[k].toNat_lt
      obtain ⟨u, hu0⟩ : ∃ u, u = l[k].toNat := ⟨_, rfl⟩
      have HU := Lib.hid hu0
      unfold B8 at c0
      rw [← hu0] at c0 hu
      have k0 : (0 : Int) ≤ (k : Int) := by omega
      have k1 : (k : Int) < (l.length : Int) := by omega
      have hxor := bits_xor32 X u hX (by omega)
      have hxb : X ^^^ u < 4294967296 := Nat.xor_lt_two_pow (n := 32) hX (by omega)
      obtain ⟨Z, hZ⟩ : ∃ Z, Z = X ^^^ u := ⟨_, rfl⟩
      rw [← hZ] at hxor hxb
      have HZ := Lib.hid hZ
      have hwr : IntKind.u32.wrap (u : Int) = (u : Int) := wraps_u32 _ (by omega) (by omega)
      have hts : l.take (k + 1) = l.take k ++ [l[k]] := by rw [List.take_succ_eq_append_getElem hlt]
      have HTS := Lib.hid hts
      clear hcell hu0 hZ hts
      go_wp2_with fail
      go_loop [3, 16] (fun x i => ∃ j Y : Nat, j ≤ 8 ∧ i = .int .i64 j ∧ x = .int .u32 Y ∧ Y < 4294967296 ∧ Hid (citer (8 - j) Y = cbyte X l[k])) (fun _ i => 8 - (intOf i).toNat)
      case atStart => exact ⟨0, Z, by omega, rfl, rfl, hxb, Lib.hid (by rw [HZ.out, HU.out]; rfl)⟩
      case round =>
        obtain ⟨j, Y, hj, rfl, rfl, hY, HF⟩ := hrel
        by_cases hj8 : j < 8
        · have hst := cstep_lt (x := Y) hY
          obtain ⟨V, hV⟩ : ∃ V, V = cstep Y := ⟨_, rfl⟩
          rw [← hV] at hst
          have HV := Lib.hid hV
          have hnext : citer (8 - (j + 1)) V = cbyte X l[k] := by
            rw [← HF.out, hV, show 8 - j = 8 - (j + 1) + 1 from by omega]; rfl
          have HNX := Lib.hid hnext
          clear hnext
          have hand := bits_and1 Y hY
          by_cases hp : Y % 2 = 1
          · rw [hp] at hand
            have hneg : IntKind.u32.wrap (-1) = 4294967295 := by decide
            have hmask : bits .and .u32 3988292384 4294967295 = 3988292384 := by decide +kernel
            have hx2 : bits .xor .u32 ((Y : Int) / 2) 3988292384 = (V : Int) := by
              have h1 := bits_xor32 (Y / 2) poly (by omega) (by decide)
              rw [hV]; unfold cstep; rw [if_pos hp, ← h1]; rfl
            clear hp hV
            go_wp2_with fail
            exact ⟨⟨j + 1, V, by omega, by push_cast; rfl, rfl, hst, HNX⟩, by simp only [intOf]; omega⟩
          · have hp0 : Y % 2 = 0 := by omega
            rw [hp0] at hand
            have hmask : bits .and .u32 3988292384 0 = 0 := by decide +kernel
            have hx2 : bits .xor .u32 ((Y : Int) / 2) 0 = (V : Int) := by
              have h1 := bits_xor32 (Y / 2) 0 (by omega) (by decide)
              rw [hV]; unfold cstep; rw [if_neg hp, ← h1]; rfl
            clear hp hp0 hV
            go_wp2_with fail
            exact ⟨⟨j + 1, V, by omega, by push_cast; rfl, rfl, hst, HNX⟩, by simp only [intOf]; omega⟩
        · obtain rfl : j = 8 := by omega
          go_wp2_with fail
          refine ⟨⟨k + 1, Y, by omega, by push_cast; rfl, rfl, hY, Lib.hid ?_⟩, by simp only [intOf]; omega⟩
          rw [HTS.out, crc_snoc, ← HE.out, ← HF.out]; rfl
    · obtain rfl : k = l.length := by omega
      have hfin : X ^^^ 4294967295 = sumOf l := by rw [HE.out, List.take_length]; rfl
      have HFN := Lib.hid hfin
      clear hfin
      go_wp2_with fail
      go_ret
      refine ⟨?_, rfl⟩
      have h1 := bits_xor32 4294967295 X (by decide) hX
      have h2 : bits .xor .u32 IntKind.u32.max (X : Int) = ((sumOf l : Nat) : Int) := by
        rw [← HFN.out, Nat.xor_comm X]; exact h1
      exact congrArg (fun z => Ending.returned (.int .u32 z)) h2

set_option maxRecDepth 100000 in
set_option maxHeartbeats 1000000 in
theorem four_any (x : Nat) (w : World) (hx : x < 4294967296) :
    Calls Tryz.prog 36 #[.int .u32 x] w fun e w' => e = .returned (.slice (some ⟨w.heap.size, 0, none⟩) 4 4) ∧ w' = w.alloc (.cells ((four x).map B8).toArray 5) := by
  have hc : ((four x).map B8).toArray = #[.int .u8 ((x : Int) % 256), .int .u8 ((x : Int) / 256 % 256), .int .u8 ((x : Int) / 65536 % 256), .int .u8 ((x : Int) / 16777216)] := by
    have e3 : x / 16777216 % 256 = x / 16777216 := Nat.mod_eq_of_lt (by omega)
    simp [four, B8, e3]
  rw [hc]
  clear hc
  have hx' : (x : Int) < 4294967296 := by omega
  go_enter Tryz.func36, Tryz.ntmps36
  go_wp2_with fail
  go_ret
  exact ⟨rfl, by simp⟩

end Go.Proofs.YtaelbgjcoakdlaaGreat

