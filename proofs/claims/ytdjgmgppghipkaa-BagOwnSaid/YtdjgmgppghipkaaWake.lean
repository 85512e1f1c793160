/- awake: the document's examples; a bag whose blocks are all new behind w0. -/
import Derived.Test.YtdjgmgppghipkaaOwn
namespace Go.Proofs.Ytdjgmgppghipkaa
open Go.RowKit

/-- A bag of the call's own: all of its blocks are new behind w0, and what was old is as it was. -/
structure BS (w0 : World) (p : Nat) (b : Bg) (wx : World) : Prop where
  bag : BagAt (fun k => w0.heap.size ≤ k) wx p b
  below : Below w0.heap.size w0 wx

theorem BS.step {w0 w w' : World} {p : Nat} {b b' : Bg} (h : BS w0 p b w) (hb : BagAt (Up (fun k => w0.heap.size ≤ k) w) w' p b') (hm : Mod (fun k => w0.heap.size ≤ k) w w') : BS w0 p b' w' :=
  ⟨hb.mono (fun k _ hk => hk.elim id (fun h' => by have := h.below.size; omega)), h.below.trans (hm.toBelow h.below.size (fun _ hk => hk))⟩
theorem BS.keep {w0 w w' : World} {p : Nat} {b : Bg} (h : BS w0 p b w) (hb : Below w.heap.size w w') : BS w0 p b w' :=
  ⟨h.bag.below hb, h.below.trans (hb.mono h.below.size)⟩

theorem new_s (w : World) : Calls Try.prog 10 #[] w fun e w' => e = .returned (.pointer (some ⟨w.heap.size, 0, none⟩)) ∧ BS w w.heap.size ⟨[], 0, 0⟩ w' :=
  (new_any w).mono fun _ _ ⟨h1, h2, h3⟩ => ⟨h1, h2.mono (fun k _ hk => by subst hk; exact Nat.le_refl _), h3⟩

theorem send_s {w0 w : World} {p : Nat} {b : Bg} (h : BS w0 p b w) (D : Nat → Prop) (q : Pkt) (dv : Value) (hd : BytesV D w dv q.data) (hD : ∀ k, k < w.heap.size → D k → k ≠ p) (hs : b.sent + 1 < 4611686018427387904) (hl : b.lost + 1 < 4611686018427387904) :
    Calls Try.prog 11 #[.pointer (some ⟨p, 0, none⟩), .agg #[.int .i64 q.src, .int .i64 q.dst, dv]] w fun e w' => e = .returned (.int .i64 (b.sendE q)) ∧ BS w0 p (b.send q) w' :=
  (send_any _ D p b q dv w h.bag hd hD hs hl).mono fun _ _ ⟨h1, h2, h3⟩ => ⟨h1, h.step h2 h3⟩
theorem drop_s {w0 w : World} {p : Nat} {b : Bg} (h : BS w0 p b w) (k : Int) :
    Calls Try.prog 26 #[.pointer (some ⟨p, 0, none⟩), .int .i64 k] w fun e w' => e = .returned (.bool (b.at_ k).isSome) ∧ BS w0 p (b.drop k) w' :=
  (drop_any _ p b k w h.bag).mono fun _ _ ⟨h1, h2, h3⟩ => ⟨h1, h.step h2 h3⟩
theorem double_s {w0 w : World} {p : Nat} {b : Bg} (h : BS w0 p b w) (k : Int) :
    Calls Try.prog 18 #[.pointer (some ⟨p, 0, none⟩), .int .i64 k] w fun e w' => e = .returned (.int .i64 (b.doubleE k)) ∧ BS w0 p (b.double k) w' :=
  (double_any _ p b k w h.bag).mono fun _ _ ⟨h1, h2, h3⟩ => ⟨h1, h.step h2 h3⟩
theorem look_s {w0 w : World} {p : Nat} {b : Bg} (h : BS w0 p b w) (k : Int) :
    Calls Try.prog 17 #[.pointer (some ⟨p, 0, none⟩), .int .i64 k] w fun e w' => Got w (b.at_ k) e w' ∧ Below w.heap.size w w' ∧ BS w0 p b w' :=
  (look_any _ p b k w h.bag).mono fun _ _ ⟨h1, h2⟩ => ⟨h1, h2, h.keep h2⟩
theorem take_s {w0 w : World} {p : Nat} {b : Bg} (h : BS w0 p b w) (k : Int) :
    Calls Try.prog 12 #[.pointer (some ⟨p, 0, none⟩), .int .i64 k] w fun e w' => Got w (b.at_ k) e w' ∧ BS w0 p (b.drop k) w' :=
  (take_any _ p b k w h.bag).mono fun _ _ ⟨h1, h2, h3⟩ => ⟨h1, h.step h2 h3⟩

set_option maxHeartbeats 4000000 in
theorem awake_any (w : World) : Calls Try.prog 9 #[] w fun e w' => e = .returned (.bool true) ∧ Below w.heap.size w w' := by
  go_enter Try.func9, Try.ntmps9
  go_wp2_with fail
  refine (new_s w).mono ?_
  rintro e w1 ⟨rfl, s1⟩
  go_wp2_with fail
  refine (packet_any 1 ⟨#[120]⟩ (by decide) w1).mono ?_
  rintro e w2 ⟨dv, rfl, hd, hb2⟩
  have s2 := s1.keep hb2
  go_wp2_with fail
  refine (send_s s2 _ ⟨1, 0, [120]⟩ dv hd (fun k _ hk e => by have := s1.bag.head.2; omega) (by decide) (by decide)).mono ?_
  rintro e w3 ⟨he, s3⟩
  replace he : e = .returned (.int .i64 0) := he
  subst he
  replace s3 : BS w w.heap.size ⟨[⟨1, 0, [120]⟩], 1, 0⟩ w3 := s3
  go_wp2_with fail
  refine (packet_any 2 ⟨#[121]⟩ (by decide) w3).mono ?_
  rintro e w4 ⟨dv2, rfl, hd2, hb4⟩
  have s4 := s3.keep hb4
  go_wp2_with fail
  refine (send_s s4 _ ⟨2, 0, [121]⟩ dv2 hd2 (fun k _ hk e => by have := s3.bag.head.2; omega) (by decide) (by decide)).mono ?_
  rintro e w5 ⟨he, s5⟩
  replace he : e = .returned (.int .i64 0) := he
  subst he
  replace s5 : BS w w.heap.size ⟨[⟨1, 0, [120]⟩, ⟨2, 0, [121]⟩], 2, 0⟩ w5 := s5
  go_wp2_with fail
  refine (double_s s5 0).mono ?_
  rintro e w6 ⟨he, s6⟩
  replace he : e = .returned (.int .i64 0) := he
  subst he
  replace s6 : BS w w.heap.size ⟨[⟨1, 0, [120]⟩, ⟨2, 0, [121]⟩, ⟨1, 0, [120]⟩], 2, 0⟩ w6 := s6
  go_wp2_with fail
  refine (len_any _ _ _ w6 s6.bag).mono ?_
  rintro e w7 ⟨he, rfl⟩
  replace he : e = .returned (.int .i64 3) := he
  subst he
  go_wp2_with fail
  refine (sent_any _ _ _ w6 s6.bag).mono ?_
  rintro e w7 ⟨he, rfl⟩
  replace he : e = .returned (.int .i64 2) := he
  subst he
  go_wp2_with fail
  refine (take_s s6 0).mono ?_
  rintro e w7 ⟨⟨v1, rfl, g1⟩, s7⟩
  replace s7 : BS w w.heap.size ⟨[⟨2, 0, [121]⟩, ⟨1, 0, [120]⟩], 2, 0⟩ w7 := s7
  obtain ⟨dv3, rfl, hd3⟩ := g1.bytes (by decide)
  have H3 := Lib.hid hd3
  obtain ⟨a3, c3, rfl, _⟩ := hd3
  have hp7 := s7.bag.head.2
  have hw7 := s7.below.size
  go_wp2_with fail
  refine (look_s (s7.keep ((Below.refl _ _).alloc (Nat.le_refl _) _)) 1).mono ?_
  rintro e w8 ⟨⟨v1, rfl, g2⟩, hb8, s8⟩
  obtain ⟨dv4, rfl, hd4⟩ := g2.bytes (by decide)
  have H4 := Lib.hid hd4
  obtain ⟨a4, c4, rfl, _⟩ := hd4
  obtain ⟨W9, hW9⟩ : ∃ W9, W9 = w8.alloc (.cells #[.int .i64 1, .int .i64 0, .slice a4 1 c4] 30) := ⟨_, rfl⟩
  have hk9 : ∀ k, k < w8.heap.size → W9.heap[k]? = w8.heap[k]? := fun k hk => by rw [hW9]; exact heap_past w8 _ k hk
  have h87 : w7.heap.size + 1 ≤ w8.heap.size := by have := hb8.size; simpa using this
  obtain ⟨x0, x1, x2, -, -, -⟩ := blk3 ((hk9 w7.heap.size (by omega)).trans ((hb8.block w7.heap.size (by simp)).trans (heap_at w7 _ _ rfl)))
  obtain ⟨y0, y1, y2, -, -, -⟩ := blk3 (show W9.heap[w8.heap.size]? = _ by rw [hW9]; exact heap_at w8 _ _ rfl)
  have cv3 : (convert 28 9 (.slice a3 1 c3)).run Try.prog W9 = .ok (.string ⟨#[120]⟩) W9 := H3.out.string 28 9 5 Try.underlying28 Try.underlying5 Try.underlying9 (w' := W9) (fun k hk _ => (hk9 k (by omega)).trans ((hb8.block k (by simp; omega)).trans (heap_past w7 _ k hk)))
  have cv4 : (convert 28 9 (.slice a4 1 c4)).run Try.prog W9 = .ok (.string ⟨#[120]⟩) W9 := H4.out.string 28 9 5 Try.underlying28 Try.underlying5 Try.underlying9 (w' := W9) (fun k hk _ => hk9 k hk)
  have s9 : BS w w.heap.size _ W9 := s8.keep (by rw [hW9]; exact (Below.refl _ _).alloc (Nat.le_refl _) _)
  subst hW9
  go_wp2_with fail
  refine (len_any _ _ _ _ s9.bag).mono ?_
  rintro e w7 ⟨he, rfl⟩
  replace he : e = .returned (.int .i64 2) := he
  subst he
  go_wp2_with fail
  refine (list_any _ _ _ _ s9.bag).mono ?_
  rintro e w10 ⟨lv, rfl, ⟨cs, hown, -⟩, hb10⟩
  obtain ⟨g, cap, rfl, -⟩ := hown.form (by show 0 < 2; omega)
  have s10 := s9.keep hb10
  go_wp2_with fail
  refine (drop_s s10 5).mono ?_
  rintro e w11 ⟨he, s11⟩
  replace he : e = .returned (.bool false) := he
  subst he
  replace s11 : BS w w.heap.size ⟨[⟨2, 0, [121]⟩, ⟨1, 0, [120]⟩], 2, 0⟩ w11 := s11
  go_wp2_with fail
  refine (double_s s11 2).mono ?_
  rintro e w12 ⟨he, s12⟩
  replace he : e = .returned (.int .i64 72) := he
  subst he
  go_wp2_with fail
  go_ret
  exact ⟨rfl, s12.below⟩
end Go.Proofs.Ytdjgmgppghipkaa
