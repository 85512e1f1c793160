/- Clocks of the call's own; awake: the document's examples. -/
import Derived.Test.YtlcjkfikfnfneaaTick
namespace Go.Proofs.Ytlcjkfikfnfneaa
open Go.RowKit

/-- Clocks that lie behind w0. -/
structure Cs (w0 : World) (p g : Nat) (c : Ck) (w : World) : Prop where
  at_ : CkAt w p g c
  fit : c.Fit
  new : w0.heap.size ≤ p ∧ w0.heap.size ≤ g
  out : Below w0.heap.size w0 w
section
variable {w0 w w' : World} {p g : Nat} {c : Ck}
theorem Cs.keep (h : Cs w0 p g c w) (hb : Below w.heap.size w w') : Cs w0 p g c w' := ⟨h.at_.below hb, h.fit, h.new, h.out.trans (hb.mono h.out.size)⟩
theorem Cs.box (h : Cs w0 p g c w) (o : Obj) : Cs w0 p g c (w.alloc o) := h.keep ((Below.refl _ _).alloc (Nat.le_refl _) o)
theorem Cs.drew (h : Cs w0 p g c w) : Cs w0 p g c w.drew := h.keep (below_drew w)
theorem Cs.drewN (h : Cs w0 p g c w) (n : Nat) : Cs w0 p g c (w.drewN n) := h.keep (below_drewN w n)
theorem Cs.of_new {n : Int} (hn : 1 ≤ n ∧ n ≤ 8) (h : CkAt w' p g (Ck.start n.toNat)) (hp : w.heap.size ≤ p) (hg : w.heap.size ≤ g) (hb : Below w.heap.size w w') : Cs w p g (Ck.start n.toNat) w' :=
  ⟨h, Ck.start_fit (by omega), ⟨hp, hg⟩, hb⟩
theorem cs_tick {D : Nat → Prop} {dl : List Int} {dv : Value} (h : Cs w0 p g c w) (d : Int) (hd : I64 d) (hdl : ∀ (j : Nat) (x : Int), dl[j]? = some x → I64 x) (hv : IntsV D w dv dl) (hD : ¬ D p ∧ ¬ D g) :
    Calls Try.prog 10 #[.pointer (some ⟨p, 0, none⟩), .int .i64 d, dv] w fun e w' => e = .returned (.int .i64 (c.tickE d dl)) ∧ Cs w0 p g (c.tickR d dl) w' ∧ Mod (Fpg p g) w w' :=
  (tick_any p g c d D dl dv w h.at_ h.fit hd hdl hv hD).mono fun _ _ ⟨h1, h2, h3⟩ => ⟨h1, ⟨h2, Ck.tickR_fit h.fit d dl, h.new, h.out.trans (h3.toBelow h.out.size (fun k hk => by rcases hk with rfl | rfl; exact h.new.1; exact h.new.2))⟩, h3⟩
end
/-- Ints that have just been laid. -/
theorem ints_new (w : World) (l : List Int) (cs : Array Value) (hcs : cs = (l.map I8).toArray) (n : Nat) (hn : n = l.length) (hl : n ≤ maxLen) : IntsV (fun k => k = w.heap.size) (w.alloc (.cells cs 3)) (.slice (some ⟨w.heap.size, 0, none⟩) n n) l := by
  subst hcs hn
  exact IntsV.of_block (heap_at w _ _ rfl) (fun j x hx => by simp [hx, I8]) (Nat.le_refl _) hl
theorem Cs.apart {w0 w : World} {p g : Nat} {c : Ck} (h : Cs w0 p g c w) : ¬ p = w.heap.size ∧ ¬ g = w.heap.size := by
  have := h.at_.lt
  omega

theorem wake_e : (Ck.start 2).tickE 100 [99, 101] = 0 := by decide +kernel
theorem wake_r : (Ck.start 2).tickR 100 [99, 101] = ⟨[99, 101], 100, 10⟩ := by
  unfold Ck.tickR
  rw [if_pos wake_e]
  have h : T3.leastT 100 99 = 10 ∧ T3.leastT 100 101 = 10 := by decide +kernel
  simp [driftU, nowU, Ck.start, h.1, h.2] <;> decide
theorem wake_e2 : (Ck.mk [99, 101] 100 10).tickE 1 [1] = 2 := by decide
theorem i64_lits {l : List Int} (h : (l.all fun x => decide (-9223372036854775808 ≤ x) && decide (x ≤ 9223372036854775807)) = true) : ∀ (j : Nat) (x : Int), l[j]? = some x → I64 x := fun j x hx => by
  have := List.all_eq_true.1 h x (List.mem_of_getElem? hx)
  simpa [I64] using this

set_option maxRecDepth 100000 in
set_option maxHeartbeats 2000000 in
theorem awake_any (w : World) : Calls Try.prog 9 #[] w fun e w' => e = .returned (.bool true) ∧ Below w.heap.size w w' := by
  go_enter Try.func9, Try.ntmps9
  go_wp2_with fail
  refine (new_ok 2 w (by omega)).mono ?_
  rintro e w1 ⟨p, g, rfl, C1, hp, hg, hb⟩
  have H1 := Lib.hid (Cs.of_new (by omega) C1 hp hg hb)
  clear C1 hp hg hb
  go_wp2_with fail
  refine (cs_tick (H1.out.box _) 100 ⟨by omega, by omega⟩ (i64_lits (by decide)) (ints_new w1 [99, 101] _ rfl 2 rfl (by decide)) H1.out.apart).mono ?_
  rintro e w2 ⟨he, T2, -⟩
  replace he : e = .returned (.int .i64 0) := he.trans (by rw [show (Ck.start (2 : Int).toNat).tickE 100 [99, 101] = 0 from wake_e]; rfl)
  replace T2 : Cs w p g ⟨[99, 101], 100, 10⟩ w2 := wake_r ▸ T2
  subst he
  have H2 := Lib.hid T2
  clear T2
  go_wp2_with fail
  refine (true_any p g _ w2 H2.out.at_).mono ?_
  rintro e w3 ⟨rfl, rfl⟩
  go_wp2_with fail
  refine (now_any p g _ 0 w2 H2.out.at_).mono ?_
  rintro e w3 ⟨he, rfl⟩
  replace he : e = .returned (.int .i64 99) := he
  subst he
  go_wp2_with fail
  refine (now_any p g _ 1 w2 H2.out.at_).mono ?_
  rintro e w3 ⟨he, rfl⟩
  replace he : e = .returned (.int .i64 101) := he
  subst he
  go_wp2_with fail
  refine (drift_any p g _ w2 H2.out.at_).mono ?_
  rintro e w3 ⟨rfl, rfl⟩
  go_wp2_with fail
  refine (len_any p g _ w2 H2.out.at_).mono ?_
  rintro e w3 ⟨he, rfl⟩
  replace he : e = .returned (.int .i64 2) := he
  subst he
  go_wp2_with fail
  refine (cs_tick (H2.out.box _) 1 ⟨by omega, by omega⟩ (i64_lits (by decide)) (ints_new w2 [1] _ rfl 1 rfl (by decide)) H2.out.apart).mono ?_
  rintro e w3 ⟨he, T3, -⟩
  replace he : e = .returned (.int .i64 2) := he.trans (by rw [wake_e2]; rfl)
  subst he
  go_wp2_with fail
  go_ret
  exact ⟨rfl, T3.out⟩
end Go.Proofs.Ytlcjkfikfnfneaa
