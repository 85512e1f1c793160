/- THE WALKS of the reader: NewReader, Num, Text, Left, Err. -/
import Derived.Test.YtflacchpgcggnaaRd
namespace Go.Proofs.Ytflacchpgcggnaa
open Go.RowKit

/-- A reader's data: what is left, the error. -/
structure Rd where
  left : List UInt8
  err : Nat
def Rd.num (r : Rd) : Nat := if r.err = 0 then (tk r.left 0 0).n else 0
def Rd.numR (r : Rd) : Rd := if r.err = 0 then ⟨r.left.drop (tk r.left 0 0).k, (tk r.left 0 0).e⟩ else r
/-- What Text answers: the text, the width, the error. -/
def tkT (l : List UInt8) (M : Nat) : List UInt8 × Nat × Nat :=
  if (tk l 0 0).e ≠ 0 then ([], 0, (tk l 0 0).e) else if M < (tk l 0 0).n then ([], 0, 21) else if l.length - (tk l 0 0).k < (tk l 0 0).n then ([], 0, 20)
  else ((l.drop (tk l 0 0).k).take (tk l 0 0).n, (tk l 0 0).k + (tk l 0 0).n, 0)
def tkText (l : List UInt8) (most : Int) : List UInt8 × Nat × Nat := tkT l (max most 0).toNat
def Rd.text (r : Rd) (most : Int) : List UInt8 := if r.err = 0 then (tkText r.left most).1 else []
def Rd.textR (r : Rd) (most : Int) : Rd := if r.err = 0 then ⟨r.left.drop (tkText r.left most).2.1, (tkText r.left most).2.2⟩ else r

/-- The reader at p; its blocks are of G. -/
structure RdAt (G : Nat → Prop) (w : World) (p : Nat) (r : Rd) : Prop where
  head : G p ∧ p < w.heap.size
  row : ∃ sv, w.heap[p]? = some (.cells #[sv, .int .i64 r.err] 62 (0, 0)) ∧ BytesV (fun k => G k ∧ k ≠ p) w sv r.left

theorem RdAt.keep {G : Nat → Prop} {w w' : World} {p : Nat} {r : Rd} (h : RdAt G w p r) (hk : ∀ k, k < w.heap.size → G k → w'.heap[k]? = w.heap[k]?) (hs : w.heap.size ≤ w'.heap.size) : RdAt G w' p r := by
  obtain ⟨⟨h1, h2⟩, sv, h3, h4⟩ := h
  exact ⟨⟨h1, Nat.lt_of_lt_of_le h2 hs⟩, sv, (hk p h2 h1).trans h3, h4.keep (fun k hk' hg => hk k hk' hg.1) hs⟩
theorem RdAt.below {G : Nat → Prop} {w w' : World} {p : Nat} {r : Rd} (h : RdAt G w p r) (hb : Below w.heap.size w w') : RdAt G w' p r := h.keep (fun k hk _ => hb.block k hk) hb.size
theorem RdAt.mod {F G : Nat → Prop} {w w' : World} {p : Nat} {r : Rd} (h : RdAt G w p r) (hm : Mod F w w') (hd : ∀ k, k < w.heap.size → G k → ¬ F k) : RdAt G w' p r := h.keep (fun k hk hG => hm.block k hk (hd k hk hG)) hm.size
theorem RdAt.mono {G G' : Nat → Prop} {w : World} {p : Nat} {r : Rd} (h : RdAt G w p r) (hG : ∀ k, k < w.heap.size → G k → G' k) : RdAt G' w p r := by
  obtain ⟨⟨h1, h2⟩, sv, h3, h4⟩ := h
  exact ⟨⟨hG p h2 h1, h2⟩, sv, h3, h4.mono (fun k hk hg => ⟨hG k hk hg.1, hg.2⟩)⟩

section
variable {D : Nat → Prop} {w : World} {a : Option Addr} {n c k : Nat} {l : List UInt8}
/-- l[k:], k less than the capacity. -/
theorem cut_from (h : BytesV D w (.slice a l.length c) l) (hk : k ≤ l.length) : BytesV D w (.slice (Option.map (fun x => x.add k) a) (l.length - k) (c - k)) (l.drop k) := by
  obtain ⟨a', c', e, h2, h3, h4, h5⟩ := h
  injection e with e1 _ e2
  subst e1 e2
  refine ⟨_, _, by rw [List.length_drop], by rw [List.length_drop]; omega, by omega, fun e => ?_, fun hl => ?_⟩
  · have : a = none := by cases a with | none => rfl | some x => cases e
    rw [h4 this]; omega
  · rw [List.length_drop] at hl
    obtain ⟨b, o, rfl, hb, hD, hc⟩ := h5 (by omega)
    refine ⟨b, o + k, by rw [Option.map_some, Addr.add_mid], hb, hD, fun j x hx => ?_⟩
    rw [List.getElem?_drop] at hx
    have := hc (k + j) x hx
    rwa [← Nat.add_assoc] at this
/-- l[k:], k the capacity. -/
theorem cut_end (h : BytesV D w (.slice a l.length c) l) (hk : k ≤ l.length) (hc : c = k) : BytesV D w (.slice a (l.length - k) 0) (l.drop k) := by
  obtain ⟨a', c', e, h2, h3, h4, h5⟩ := h
  injection e with e1 _ e2
  subst e1 e2
  refine ⟨a, 0, by rw [List.length_drop], by rw [List.length_drop]; omega, by omega, fun _ => rfl, fun hl => ?_⟩
  rw [List.length_drop] at hl
  omega
/-- l[k:k+n] -/
theorem cut_to (h : BytesV D w (.slice a l.length c) l) (hk : k + n ≤ l.length) : BytesV D w (.slice (Option.map (fun x => x.add k) a) n (c - k)) ((l.drop k).take n) := by
  have hn : ((l.drop k).take n).length = n := by simp; omega
  obtain ⟨a', c', e, h2, h3, h4, h5⟩ := h
  injection e with e1 _ e2
  subst e1 e2
  refine ⟨_, _, by rw [hn], by rw [hn]; omega, by omega, fun e => ?_, fun hl => ?_⟩
  · have : a = none := by cases a with | none => rfl | some x => cases e
    rw [h4 this]; omega
  · rw [hn] at hl
    obtain ⟨b, o, rfl, hb, hD, hc⟩ := h5 (by omega)
    refine ⟨b, o + k, by rw [Option.map_some, Addr.add_mid], hb, hD, fun j x hx => ?_⟩
    have hj : j < n := by have := (List.getElem?_eq_some_iff.1 hx).1; omega
    rw [List.getElem?_take_of_lt hj, List.getElem?_drop] at hx
    have := hc (k + j) x hx
    rwa [← Nat.add_assoc] at this
end

/-- The reader's cells are written anew. -/
theorem RdAt.done {G : Nat → Prop} {w : World} {p : Nat} {sv sv' : Value} {e0 : Value} {l : List UInt8} {e : Nat} (hG : G p) (hh : w.heap[p]? = some (.cells #[sv, e0] 62 (0, 0))) (hb : BytesV (fun k => G k ∧ k ≠ p) w sv' l) :
    RdAt G ((w.setCell ⟨p, 0, none⟩ sv').setCell ⟨p, 1, none⟩ (.int .i64 e)) p ⟨l, e⟩ ∧ Mod G w ((w.setCell ⟨p, 0, none⟩ sv').setCell ⟨p, 1, none⟩ (.int .i64 e)) := by
  have hp := lt_of_heap hh
  refine ⟨⟨⟨hG, by simpa [World.setCell] using hp⟩, sv', by rw [blk_set (blk_set hh 0 _) 1 _]; rfl, hb.keep (fun k _ hk => ?_) (by simp [World.setCell])⟩, ((Mod.refl _ _).setCell (fun _ => hG) _).setCell (fun _ => hG) _⟩
  exact (Below.heap_setCell _ ⟨p, 1, none⟩ _ k hk.2).trans (Below.heap_setCell _ ⟨p, 0, none⟩ _ k hk.2)
theorem RdAt.done1 {G : Nat → Prop} {w : World} {p : Nat} {sv : Value} {e0 : Value} {l : List UInt8} {e : Nat} (hG : G p) (hh : w.heap[p]? = some (.cells #[sv, e0] 62 (0, 0))) (hb : BytesV (fun k => G k ∧ k ≠ p) w sv l) :
    RdAt G (w.setCell ⟨p, 1, none⟩ (.int .i64 e)) p ⟨l, e⟩ ∧ Mod G w (w.setCell ⟨p, 1, none⟩ (.int .i64 e)) := by
  have hp := lt_of_heap hh
  refine ⟨⟨⟨hG, by simpa [World.setCell] using hp⟩, sv, by rw [blk_set hh 1 _]; rfl, hb.keep (fun k _ hk => ?_) (by simp [World.setCell])⟩, (Mod.refl _ _).setCell (fun _ => hG) _⟩
  exact Below.heap_setCell _ ⟨p, 1, none⟩ _ k hk.2
theorem RdAt.done0 {G : Nat → Prop} {w : World} {p : Nat} {sv sv' : Value} {l : List UInt8} {e : Nat} (hG : G p) (hh : w.heap[p]? = some (.cells #[sv, .int .i64 e] 62 (0, 0))) (hb : BytesV (fun k => G k ∧ k ≠ p) w sv' l) :
    RdAt G (w.setCell ⟨p, 0, none⟩ sv') p ⟨l, e⟩ ∧ Mod G w (w.setCell ⟨p, 0, none⟩ sv') := by
  have hp := lt_of_heap hh
  refine ⟨⟨⟨hG, by simpa [World.setCell] using hp⟩, sv', by rw [blk_set hh 0 _]; rfl, hb.keep (fun k _ hk => ?_) (by simp [World.setCell])⟩, (Mod.refl _ _).setCell (fun _ => hG) _⟩
  exact Below.heap_setCell _ ⟨p, 0, none⟩ _ k hk.2

set_option maxHeartbeats 1000000 in
theorem rnum_any (G : Nat → Prop) (p : Nat) (r : Rd) (w : World) (h : RdAt G w p r) :
    Calls Try.prog 15 #[.pointer (some ⟨p, 0, none⟩)] w fun e w' => e = .returned (.int .i64 r.num) ∧ RdAt G w' p r.numR ∧ Mod G w w' := by
  have H := Lib.hid h
  obtain ⟨⟨hG, hp⟩, sv, h1, h2⟩ := h
  obtain ⟨a0, a1, b0, b1⟩ := blk2 h1
  have H1 := Lib.hid h1
  have H2 := Lib.hid h2
  have hk : (tk r.left 0 0).k ≤ r.left.length := by
    rcases tk_err r.left 0 0 with h | h
    · have := (tk_width r.left 0 0 h).2.1; omega
    · omega
  obtain ⟨a, c, rfl, hc, hcm, _⟩ := h2
  unfold maxLen at hcm
  clear h1
  by_cases he : r.err = 0
  · have e0 : ((r.err : Int) != 0) = false := by rw [he]; rfl
    have hn : r.num = (tk r.left 0 0).n := by unfold Rd.num; rw [if_pos he]
    have hr : r.numR = ⟨r.left.drop (tk r.left 0 0).k, (tk r.left 0 0).e⟩ := by unfold Rd.numR; rw [if_pos he]
    have HN := Lib.hid hn
    have HR := Lib.hid hr
    have k0 : (0 : Int) ≤ ((tk r.left 0 0).k : Int) := by omega
    have k1 : ((tk r.left 0 0).k : Int) ≤ (r.left.length : Int) := by omega
    have k2 : (r.left.length : Int) ≤ (c : Int) := by omega
    clear he hn hr
    go_enter Try.func15, Try.ntmps15
    go_wp2_with fail
    refine (num_any _ r.left _ w H2.out).mono ?_
    rintro e w1 ⟨rfl, rfl⟩
    by_cases hck : c = (tk r.left 0 0).k
    · have HCK := Lib.hid hck
      go_wp2_with fail
      go_ret
      rw [HN.out, HR.out]
      have R := RdAt.done (e := (tk r.left 0 0).e) hG H1.out (cut_end H2.out hk HCK.out)
      exact ⟨rfl, R⟩
    · go_wp2_with fail
      go_ret
      rw [HN.out, HR.out]
      have R := RdAt.done (e := (tk r.left 0 0).e) hG H1.out (cut_from H2.out hk)
      exact ⟨rfl, R⟩
  · have e0 : ((r.err : Int) != 0) = true := by rw [bne_iff_ne]; omega
    have hn : r.num = 0 := by unfold Rd.num; rw [if_neg he]
    have hr : r.numR = r := by unfold Rd.numR; rw [if_neg he]
    rw [hn, hr]
    clear he hn hr
    go_enter Try.func15, Try.ntmps15
    go_wp2_with fail
    go_ret
    exact ⟨rfl, H.out, Mod.refl _ _⟩
end Go.Proofs.Ytflacchpgcggnaa
