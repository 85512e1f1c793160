/- TopTwoClocks' plain law: whenever the lease may be used, the grant stands.  TopTwoClocks' memory: clocks, grantor, holder side by side; each call's contract over it.  TopTwoClocks' calls: one contract each, over all that the law has made.  TopTwoClocks: its set-up. -/
import Derived.Test.YtchdfogifhfclaaGreatDoorStd
import Derived.Test.YtchdfogifhfclaaGreatDoorHonpM
namespace Go.Proofs.YtchdfogifhfclaaGreatDoor
open Go.RowKit

/-- The plan. -/
structure Pn where
  rho : Int
  T : Int
  sent : Int
  granted : Int
  come : Int
  renews : Int
  pa : ByteArray
  m : Int
def Pn.t (P : Pn) : Int := min (max P.T 4) 1048576
theorem Pn.t_ok (P : Pn) : 4 ≤ P.t ∧ P.t ≤ 1048576 := by unfold Pn.t; omega
/-- A lease till e1 that was asked for at a moment that was noted, the grant standing till x. -/
def Saf (P : Pn) (c : Ck8.Ck) (x e1 : Int) : Prop := ∃ tau a b, Ck8.Snap P.rho c tau [a, b] ∧ e1 ≤ b + T3.shrT P.t P.rho ∧ a + P.t ≤ x
theorem Saf.use {P : Pn} {c : Ck8.Ck} {x e1 g h : Int} (S : Saf P c x e1) (hr : 0 ≤ P.rho ∧ P.rho ≤ 999) (hd : c.drift ≤ P.rho) (hc : c.now = [g, h]) (he : h < e1) : g < x := by
  obtain ⟨tau, a, b, S, h1, h2⟩ := S
  have ht := P.t_ok
  obtain ⟨_, _, s0⟩ := S.now 0 a g rfl (by rw [hc]; rfl)
  obtain ⟨_, _, s1⟩ := S.now 1 b h rfl (by rw [hc]; rfl)
  have := T3.safe (t := P.t) (rho := P.rho) (decide_eq_true ⟨by omega, by omega, hr.1, hr.2⟩) (s1 hd) (s0 hd) (Int.le_refl _) (show h - b < T3.shrT P.t P.rho by omega)
  omega
theorem Saf.mono {P : Pn} {c : Ck8.Ck} {x x' e1 : Int} (S : Saf P c x e1) (hx : x ≤ x') : Saf P c x' e1 := by
  obtain ⟨tau, a, b, S, h1, h2⟩ := S
  exact ⟨tau, a, b, S, h1, by omega⟩
theorem Saf.tick {P : Pn} {c : Ck8.Ck} {x e1 d : Int} {dl : List Int} (S : Saf P c x e1) (hr : 0 ≤ P.rho ∧ P.rho ≤ 999) (hE : c.tickE d dl = 0) : Saf P (c.tickR d dl) x e1 := by
  obtain ⟨tau, a, b, S, h1, h2⟩ := S
  exact ⟨tau, a, b, S.tick hr hE, h1, h2⟩
structure Inv (P : Pn) (ng nc nr : Int) (gs : Nat) (c : Ck8.Ck) (x : Int) (ol : Option Ls) (sent : Int) : Prop where
  rho : 0 ≤ P.rho ∧ P.rho ≤ 999
  dr : c.drift ≤ P.rho
  fit : c.Fit
  two : ∃ g h, c.now = [g, h]
  sn : 0 ≤ sent → ∃ tau a, Ck8.Snap P.rho c tau [a, sent] ∧ (gs ≠ 0 → a + P.t ≤ x)
  g0 : gs = 0 → ol = none
  g1 : gs ≠ 0 → pathOK P.pa = true ∧ ModeB P.m = true ∧ 0 ≤ sent ∧ P.granted < ng
  g2 : gs = 2 → P.renews < nr
  le : ∀ l, ol = some l → l.p = P.pa ∧ l.m = P.m ∧ (l.s = 1 ∨ l.s = 2) ∧ P.come < nc ∧ Saf P c x l.exp
  gle : gs ≤ 2
section
variable {P : Pn} {ng nc nr : Int} {gs : Nat} {c : Ck8.Ck} {x : Int} {ol : Option Ls} {sent : Int}
theorem Inv.start (hr : 0 ≤ P.rho ∧ P.rho ≤ 999) : Inv P 0 0 0 0 (Ck8.Ck.start 2) 0 none (-1) :=
  ⟨hr, by simpa [Ck8.Ck.start] using hr.1, Ck8.Ck.start_fit (by omega), ⟨0, 0, rfl⟩, fun h => by omega, fun _ => rfl, fun h => absurd rfl h, fun h => by omega, fun l h => (by cases h), by omega⟩
theorem Inv.wide (I : Inv P ng nc nr gs c x ol sent) {ng' nc' nr' : Int} (h1 : ng ≤ ng') (h2 : nc ≤ nc') (h3 : nr ≤ nr') : Inv P ng' nc' nr' gs c x ol sent :=
  ⟨I.rho, I.dr, I.fit, I.two, I.sn, I.g0, fun h => by have := I.g1 h; exact ⟨this.1, this.2.1, this.2.2.1, by omega⟩, fun h => by have := I.g2 h; omega, fun l h => by have := I.le l h; exact ⟨this.1, this.2.1, this.2.2.1, by omega, this.2.2.2.2⟩, I.gle⟩
theorem Inv.present (I : Inv P ng nc nr gs c x ol sent) {g h : Int} (hc : c.now = [g, h]) : Ck8.Snap P.rho c c.passed [g, h] := by
  have := Ck8.Snap.present I.rho I.fit
  rwa [hc] at this
theorem Inv.bounds (I : Inv P ng nc nr gs c x ol sent) {g h : Int} (hc : c.now = [g, h]) : (0 ≤ g ∧ g ≤ 1152921504606846976) ∧ 0 ≤ h ∧ h ≤ 1152921504606846976 :=
  ⟨I.fit.now 0 g (by rw [hc]; rfl), I.fit.now 1 h (by rw [hc]; rfl)⟩
/-- The request is sent. -/
theorem Inv.send (I : Inv P ng nc nr gs c x ol sent) {g h : Int} (hc : c.now = [g, h]) (hn : ng ≤ P.granted) : Inv P ng nc nr gs c x ol h := by
  have h0 : gs = 0 := Classical.byContradiction fun h => by have := (I.g1 h).2.2.2; omega
  exact ⟨I.rho, I.dr, I.fit, I.two, fun _ => ⟨_, g, I.present hc, fun hg => absurd h0 hg⟩, I.g0, fun hg => absurd h0 hg, I.g2, I.le, I.gle⟩
theorem Inv.none0 (I : Inv P ng nc nr gs c x ol sent) (hn : ng ≤ P.granted) : gs = 0 := Classical.byContradiction fun h => by have := (I.g1 h).2.2.2; omega
/-- It is granted. -/
theorem Inv.grant (I : Inv P ng nc nr 0 c x ol sent) {g h : Int} (hc : c.now = [g, h]) (hs : 0 ≤ sent) (hp : pathOK P.pa = true) (hm : ModeB P.m = true) (hn : P.granted < ng + 1) : Inv P (ng + 1) nc nr 1 c (g + P.t) ol sent := by
  obtain ⟨tau, a, S, -⟩ := I.sn hs
  obtain ⟨_, s0, _⟩ := S.now 0 a g rfl (by rw [hc]; rfl)
  exact ⟨I.rho, I.dr, I.fit, I.two, fun _ => ⟨tau, a, S, fun _ => by omega⟩, fun h => by omega, fun _ => ⟨hp, hm, hs, hn⟩, fun h => by omega, fun l hl => (by rw [I.g0 rfl] at hl; cases hl), by omega⟩
theorem Inv.sent_le (I : Inv P ng nc nr gs c x ol sent) {g h : Int} (hc : c.now = [g, h]) (hs : 0 ≤ sent) : sent ≤ h := by
  obtain ⟨tau, a, S, -⟩ := I.sn hs
  exact (S.now 1 sent h rfl (by rw [hc]; rfl)).2.1
theorem Inv.noLease (I : Inv P ng nc nr gs c x ol sent) (hn : nc ≤ P.come) : ol = none := by
  cases ol with
  | none => rfl
  | some l => have := (I.le l rfl).2.2.2.1; omega
/-- The answer has come. -/
theorem Inv.add (I : Inv P ng nc nr gs c x ol sent) (hg : gs ≠ 0) (hn : P.come < nc + 1) : Inv P ng (nc + 1) nr gs c x (some ⟨P.pa, P.m, 1, P.t, sent, sent + T3.shrT P.t P.rho⟩) sent := by
  obtain ⟨hp, hm, hs, hgr⟩ := I.g1 hg
  obtain ⟨tau, a, S, ha⟩ := I.sn hs
  refine ⟨I.rho, I.dr, I.fit, I.two, I.sn, fun h => absurd h hg, I.g1, I.g2, fun l hl => ?_, I.gle⟩
  cases hl
  exact ⟨rfl, rfl, .inl rfl, hn, tau, a, sent, S, Int.le_refl _, ha hg⟩
/-- It is renewed, with no lease. -/
theorem Inv.renewN (I : Inv P ng nc nr 1 c x none sent) (x' : Int) (hx : x ≤ x') (hn : P.renews < nr + 1) : Inv P ng nc (nr + 1) 2 c x' none sent :=
  ⟨I.rho, I.dr, I.fit, I.two, fun hs => by obtain ⟨tau, a, S, ha⟩ := I.sn hs; exact ⟨tau, a, S, fun _ => by have := ha (by decide); omega⟩, fun h => by omega, fun _ => I.g1 (by decide), fun _ => hn, fun l hl => (by cases hl), by omega⟩
/-- It is renewed, and so is the lease. -/
theorem Inv.renewS {l : Ls} (I : Inv P ng nc nr 1 c x (some l) sent) {g h : Int} (hc : c.now = [g, h]) (hn : P.renews < nr + 1) : Inv P ng nc (nr + 1) 2 c (max x (g + P.t)) (some (l.fresh P.rho h P.t 2)) sent := by
  refine ⟨I.rho, I.dr, I.fit, I.two, fun hs => by obtain ⟨tau, a, S, ha⟩ := I.sn hs; exact ⟨tau, a, S, fun _ => by have := ha (by decide); omega⟩, fun h => by omega, fun _ => I.g1 (by decide), fun _ => hn, fun l' hl => ?_, by omega⟩
  cases hl
  obtain ⟨h1, h2, h3, h4, h5⟩ := I.le l rfl
  refine ⟨h1, h2, ?_, h4, ?_⟩
  · show (if l.s < 2 then 2 else l.s) = 1 ∨ (if l.s < 2 then 2 else l.s) = 2
    rcases h3 with h3 | h3 <;> rw [h3] <;> decide
  · show Saf P c (max x (g + P.t)) (max l.exp (h + T3.shrT P.t P.rho))
    by_cases he : h + T3.shrT P.t P.rho ≤ l.exp
    · rw [show max l.exp (h + T3.shrT P.t P.rho) = l.exp by omega]
      exact h5.mono (by omega)
    · rw [show max l.exp (h + T3.shrT P.t P.rho) = h + T3.shrT P.t P.rho by omega]
      exact ⟨_, g, h, I.present hc, Int.le_refl _, by omega⟩
theorem Inv.is1 (I : Inv P ng nc nr gs c x ol sent) (hg : gs ≠ 0) (hn : nr ≤ P.renews) : gs = 1 := by
  have h1 := I.gle
  have h2 : gs ≠ 2 := fun h => by have := I.g2 h; omega
  omega
/-- Is the lease in force? -/
def live (ol : Option Ls) (now : Int) : Bool := match ol with
  | none => false
  | some l => decide (now < l.exp)
theorem Inv.safe (I : Inv P ng nc nr gs c x ol sent) {g h : Int} (hc : c.now = [g, h]) (hl : live ol h = true) : gs ≠ 0 ∧ g < x := by
  cases ol with
  | none => cases hl
  | some l =>
    refine ⟨fun h0 => (by have := I.g0 h0; cases this), ?_⟩
    exact (I.le l rfl).2.2.2.2.use I.rho I.dr hc (of_decide_eq_true hl)
theorem Inv.tick (I : Inv P ng nc nr gs c x ol sent) {d : Int} {dl : List Int} (hE : c.tickE d dl = 0) (hd : (c.tickR d dl).drift ≤ P.rho) : Inv P ng nc nr gs (c.tickR d dl) x ol sent := by
  refine ⟨I.rho, hd, Ck8.Ck.tickR_fit I.fit d dl, ?_, fun hs => ?_, I.g0, I.g1, I.g2, fun l hl => ?_, I.gle⟩
  · obtain ⟨g, h, hc⟩ := I.two
    have hl : (c.tickR d dl).now.length = 2 := by rw [(Ck8.went_ok hE).2, hc]; rfl
    match h3 : (c.tickR d dl).now, hl with
    | [a, b], _ => exact ⟨a, b, rfl⟩
  · obtain ⟨tau, a, S, ha⟩ := I.sn hs
    exact ⟨tau, a, S.tick I.rho hE, ha⟩
  · obtain ⟨h1, h2, h3, h4, h5⟩ := I.le l hl
    exact ⟨h1, h2, h3, h4, h5.tick I.rho hE⟩
end
end Go.Proofs.YtchdfogifhfclaaGreatDoor
namespace Go.Proofs.YtchdfogifhfclaaGreatDoor
open Go.RowKit Go.Maps Go.MapKept
open Go.ChangeMaps (setBlock)

def planC (P : Pn) : Array Value := plC P.rho P.T P.sent P.granted P.come P.renews P.pa P.m
/-- All that the law has made; Z: blocks of the law's own that none of them has. -/
structure Wd (W : World) (P : Pn) (pc gc : Nat) (q : Gs) (hb : Nat) (Z : Nat → Prop) (c : Ck8.Ck) (L : Lst) (os : Option Ent) (x : Int) (ol : Option Ls) (w : World) : Prop where
  ck : Ck8.CkAt w pc gc c
  box : w.heap[W.heap.size]? = some (.cells (planC P) 24 (0, 0))
  sets : ∃ FG FH : Nat → Prop, GrAt FG q L os x w ∧ HoAt FH hb P.rho ol w ∧ (∀ k, FG k → k < w.heap.size ∧ W.heap.size < k ∧ k ≠ pc ∧ k ≠ gc ∧ ¬ FH k ∧ ¬ Z k) ∧ (∀ k, FH k → k < w.heap.size ∧ W.heap.size < k ∧ k ≠ pc ∧ k ≠ gc ∧ ¬ Z k)
  new : W.heap.size < pc ∧ W.heap.size < gc
  far : ∀ k, Z k → W.heap.size < k ∧ k < w.heap.size ∧ k ≠ pc ∧ k ≠ gc
  out : Below W.heap.size W w
section
variable {W : World} {P : Pn} {pc gc : Nat} {q : Gs} {hb : Nat} {Z : Nat → Prop} {c : Ck8.Ck} {L : Lst} {os : Option Ent} {x : Int} {ol : Option Ls} {w w' : World}
theorem Wd.below (h : Wd W P pc gc q hb Z c L os x ol w) (hb' : Below w.heap.size w w') : Wd W P pc gc q hb Z c L os x ol w' := by
  obtain ⟨FG, FH, h1, h2, h3, h4⟩ := h.sets
  exact ⟨h.ck.below hb', (hb'.block _ (lt_of_heap h.box)).trans h.box, ⟨FG, FH, h1.below hb', h2.below hb', fun k hk => ⟨Nat.lt_of_lt_of_le (h3 k hk).1 hb'.size, (h3 k hk).2⟩, fun k hk => ⟨Nat.lt_of_lt_of_le (h4 k hk).1 hb'.size, (h4 k hk).2⟩⟩, h.new, fun k hk => ⟨(h.far k hk).1, Nat.lt_of_lt_of_le (h.far k hk).2.1 hb'.size, (h.far k hk).2.2⟩, h.out.trans (hb'.mono h.out.size)⟩
theorem Wd.drew (h : Wd W P pc gc q hb Z c L os x ol w) : Wd W P pc gc q hb Z c L os x ol w.drew := h.below (Ck8.below_drew w)
/-- A block more of the law's own. -/
theorem Wd.alloc (h : Wd W P pc gc q hb Z c L os x ol w) (o : Obj) : Wd W P pc gc q hb (fun k => Z k ∨ k = w.heap.size) c L os x ol (w.alloc o) := by
  obtain ⟨FG, FH, h1, h2, h3, h4⟩ := h.sets
  have hb' := below_one w o
  have hlt := h.ck.lt
  have hz : (w.alloc o).heap.size = w.heap.size + 1 := by simp
  have hbx := lt_of_heap h.box
  refine ⟨h.ck.below hb', (hb'.block _ (lt_of_heap h.box)).trans h.box, ⟨FG, FH, h1.below hb', h2.below hb', fun k hk => ?_, fun k hk => ?_⟩, h.new, fun k hk => ?_, h.out.trans (hb'.mono h.out.size)⟩
  · obtain ⟨g1, g2, g3, g4, g5, g6⟩ := h3 k hk
    exact ⟨by omega, g2, g3, g4, g5, fun hh => by rcases hh with hh | hh; exact g6 hh; omega⟩
  · obtain ⟨g1, g2, g3, g4, g5⟩ := h4 k hk
    exact ⟨by omega, g2, g3, g4, fun hh => by rcases hh with hh | hh; exact g5 hh; omega⟩
  · rcases hk with hk | rfl
    · obtain ⟨g1, g2, g3, g4⟩ := h.far k hk
      exact ⟨g1, by omega, g3, g4⟩
    · exact ⟨hbx, by omega, by omega, by omega⟩
theorem Wd.forget {Z' : Nat → Prop} (h : Wd W P pc gc q hb Z c L os x ol w) (hz : ∀ k, Z' k → Z k) : Wd W P pc gc q hb Z' c L os x ol w := by
  obtain ⟨FG, FH, h1, h2, h3, h4⟩ := h.sets
  exact ⟨h.ck, h.box, ⟨FG, FH, h1, h2, fun k hk => ⟨(h3 k hk).1, (h3 k hk).2.1, (h3 k hk).2.2.1, (h3 k hk).2.2.2.1, (h3 k hk).2.2.2.2.1, fun hh => (h3 k hk).2.2.2.2.2 (hz k hh)⟩, fun k hk => ⟨(h4 k hk).1, (h4 k hk).2.1, (h4 k hk).2.2.1, (h4 k hk).2.2.2.1, fun hh => (h4 k hk).2.2.2.2 (hz k hh)⟩⟩, h.new, fun k hk => h.far k (hz k hk), h.out⟩
/-- A block of the law's own is written. -/
theorem Wd.write (h : Wd W P pc gc q hb Z c L os x ol w) {g : Nat} (hg : Z g) (ho : w'.os = w.os ∧ w'.tape = w.tape ∧ w'.output = w.output) (hz : w'.heap.size = w.heap.size) (hk : ∀ k, k ≠ g → w'.heap[k]? = w.heap[k]?) : Wd W P pc gc q hb Z c L os x ol w' := by
  obtain ⟨FG, FH, h1, h2, h3, h4⟩ := h.sets
  obtain ⟨f1, f2, f3, f4⟩ := h.far g hg
  refine ⟨h.ck.keep (fun k hk' => hk k (by rcases hk' with rfl | rfl; exact fun e => f3 e.symm; exact fun e => f4 e.symm)), (hk _ (by omega)).trans h.box, ⟨FG, FH, h1.keep (fun k _ hf => hk k (fun e => (h3 k hf).2.2.2.2.2 (by rw [e]; exact hg))) (by rw [hz]; exact Nat.le_refl _), h2.keep (fun k _ hf => hk k (fun e => (h4 k hf).2.2.2.2 (by rw [e]; exact hg))) (by rw [hz]; exact Nat.le_refl _), ?_, ?_⟩, h.new, ?_, ?_⟩
  · rw [hz]; exact h3
  · rw [hz]; exact h4
  · rw [hz]; exact h.far
  · exact ⟨ho.1.trans h.out.os, ho.2.1.trans h.out.tape, ho.2.2.trans h.out.output, by rw [hz]; exact h.out.size, fun k hl => (hk k (by omega)).trans (h.out.block k hl)⟩
/-- The grantor goes on. -/
theorem Wd.gr (h : Wd W P pc gc q hb Z c L os x ol w) : ∃ FG : Nat → Prop, GrAt FG q L os x w ∧ (∀ k, FG k → k < w.heap.size) ∧ ∀ L' os' x' w', Within FG q L' os' x' w w' → Wd W P pc gc q hb Z c L' os' x' ol w' ∧ ∀ k, Z k → w'.heap[k]? = w.heap[k]? := by
  obtain ⟨FG, FH, h1, h2, h3, h4⟩ := h.sets
  refine ⟨FG, h1, fun k hk => (h3 k hk).1, fun L' os' x' w' hw => ⟨?_, fun k hk => hw.mod.block k (h.far k hk).2.1 (fun hf => (h3 k hf).2.2.2.2.2 hk)⟩⟩
  have hlt := h.ck.lt
  have hm := hw.mod.size
  have hbx := lt_of_heap h.box
  refine ⟨h.ck.mod hw.mod (fun hf => (h3 _ hf).2.2.1 rfl) (fun hf => (h3 _ hf).2.2.2.1 rfl), (hw.mod.block _ hbx (fun hf => by have := (h3 _ hf).2.1; omega)).trans h.box, ⟨fun k => Up FG w k ∧ k < w'.heap.size, FH, hw.gr.mono (fun k hk hf => ⟨hf, hk⟩), h2.mod hw.mod (fun k _ hf hg => (h3 k hg).2.2.2.2.1 hf), ?_, fun k hk => ?_⟩, h.new, fun k hk => ?_, h.out.trans (hw.mod.toBelow h.out.size (fun k hk => Nat.le_of_lt (h3 k hk).2.1))⟩
  · rintro k ⟨hf | hf, hk⟩
    · obtain ⟨g1, g2⟩ := h3 k hf
      exact ⟨hk, g2⟩
    · refine ⟨hk, by omega, by omega, by omega, fun hh => by have := (h4 k hh).1; omega, fun hh => by have := (h.far k hh).2.1; omega⟩
  · exact ⟨Nat.lt_of_lt_of_le (h4 k hk).1 hm, (h4 k hk).2⟩
  · exact ⟨(h.far k hk).1, Nat.lt_of_lt_of_le (h.far k hk).2.1 hm, (h.far k hk).2.2⟩
/-- The holder goes on. -/
theorem Wd.ho (h : Wd W P pc gc q hb Z c L os x ol w) : ∃ FH : Nat → Prop, HoAt FH hb P.rho ol w ∧ ∀ ol' w', HoAt (Up FH w) hb P.rho ol' w' → Mod FH w w' → Wd W P pc gc q hb Z c L os x ol' w' := by
  obtain ⟨FG, FH, h1, h2, h3, h4⟩ := h.sets
  refine ⟨FH, h2, fun ol' w' hh hm => ?_⟩
  have hlt := h.ck.lt
  have hms := hm.size
  have hbx := lt_of_heap h.box
  refine ⟨h.ck.mod hm (fun hf => (h4 _ hf).2.2.1 rfl) (fun hf => (h4 _ hf).2.2.2.1 rfl), (hm.block _ hbx (fun hf => by have := (h4 _ hf).2.1; omega)).trans h.box, ⟨FG, fun k => Up FH w k ∧ k < w'.heap.size, h1.mod hm (fun k _ hf hg => (h3 k hf).2.2.2.2.1 hg), hh.mono (fun k hk hf => ⟨hf, hk⟩), fun k hk => ?_, ?_⟩, h.new, fun k hk => ?_, h.out.trans (hm.toBelow h.out.size (fun k hk => Nat.le_of_lt (h4 k hk).2.1))⟩
  · obtain ⟨g1, g2, g3, g4, g5, g6⟩ := h3 k hk
    refine ⟨by omega, g2, g3, g4, ?_, g6⟩
    rintro ⟨hf | hf, _⟩
    · exact g5 hf
    · omega
  · rintro k ⟨hf | hf, hk⟩
    · obtain ⟨g1, g2⟩ := h4 k hf
      exact ⟨hk, g2⟩
    · exact ⟨hk, by omega, by omega, by omega, fun hh => by have := (h.far k hh).2.1; omega⟩
  · exact ⟨(h.far k hk).1, Nat.lt_of_lt_of_le (h.far k hk).2.1 hms, (h.far k hk).2.2⟩
/-- The clocks go on. -/
theorem Wd.clk {c' : Ck8.Ck} (h : Wd W P pc gc q hb Z c L os x ol w) (hc : Ck8.CkAt w' pc gc c') (hm : Mod (Ck8.Fpg pc gc) w w') : Wd W P pc gc q hb Z c' L os x ol w' := by
  obtain ⟨FG, FH, h1, h2, h3, h4⟩ := h.sets
  have hms := hm.size
  have hbx := lt_of_heap h.box
  have hn := h.new
  refine ⟨hc, (hm.block _ hbx (fun hf => by rcases hf with hf | hf <;> omega)).trans h.box, ⟨FG, FH, h1.mod hm (fun k _ hf hg => ?_), h2.mod hm (fun k _ hf hg => ?_), fun k hk => ⟨Nat.lt_of_lt_of_le (h3 k hk).1 hms, (h3 k hk).2⟩, fun k hk => ⟨Nat.lt_of_lt_of_le (h4 k hk).1 hms, (h4 k hk).2⟩⟩, h.new, fun k hk => ⟨(h.far k hk).1, Nat.lt_of_lt_of_le (h.far k hk).2.1 hms, (h.far k hk).2.2⟩, h.out.trans (hm.toBelow h.out.size (fun k hk => by rcases hk with rfl | rfl; exact Nat.le_of_lt hn.1; exact Nat.le_of_lt hn.2))⟩
  · obtain ⟨_, _, g3, g4, _⟩ := h3 k hf
    rcases hg with hg | hg
    · exact g3 hg
    · exact g4 hg
  · obtain ⟨_, _, g3, g4, _⟩ := h4 k hf
    rcases hg with hg | hg
    · exact g3 hg
    · exact g4 hg
end
end Go.Proofs.YtchdfogifhfclaaGreatDoor
namespace Go.Proofs.YtchdfogifhfclaaGreatDoor
open Go.RowKit Go.Maps Go.MapKept
open Go.ChangeMaps (setBlock)

def LOf (P : Pn) : Nat → Lst
  | 0 => ⟨0, 1, 0, none⟩
  | 1 => ⟨2, 2, P.t, some ⟨P.pa, P.m, 1, P.t⟩⟩
  | _ => ⟨3, 3, P.t, some ⟨P.pa, P.m, 2, P.t⟩⟩
def osOf (P : Pn) : Nat → Option Ent
  | 0 => none
  | _ + 1 => some ⟨P.pa, P.m⟩
section
variable {W : World} {P : Pn} {pc gc : Nat} {q : Gs} {hb : Nat} {Z : Nat → Prop} {c : Ck8.Ck} {gs : Nat} {x : Int} {ol : Option Ls} {w : World} {ng nc nr sent g h : Int}
theorem now0_w {L : Lst} {os : Option Ent} (H : Wd W P pc gc q hb Z c L os x ol w) (hc : c.now = [g, h]) : Calls Tryz.prog 9 #[.pointer (some ⟨pc, 0, none⟩), .int .i64 0] w fun e w' => e = .returned (.int .i64 g) ∧ w = w' := by
  have := Ck8.now_any pc gc c 0 w H.ck
  have e : c.at_ 0 = g := by unfold Ck8.Ck.at_; rw [hc]; rfl
  rwa [e] at this
theorem now1_w {L : Lst} {os : Option Ent} (H : Wd W P pc gc q hb Z c L os x ol w) (hc : c.now = [g, h]) : Calls Tryz.prog 9 #[.pointer (some ⟨pc, 0, none⟩), .int .i64 1] w fun e w' => e = .returned (.int .i64 h) ∧ w = w' := by
  have := Ck8.now_any pc gc c 1 w H.ck
  have e : c.at_ 1 = h := by unfold Ck8.Ck.at_; rw [hc]; rfl
  rwa [e] at this
/-- A grant's cells, an error's number. -/
def GcV (i0 i1 : Int) (s : ByteArray) (a3 : Int) (ad : Option Addr) (n cc : Nat) (a5 r : Int) : Ending := .returned (.tuple #[.agg #[.int .i64 i0, .int .i64 i1, .string s, .int .i64 a3, .slice ad n cc, .int .i64 a5], .int .i64 r])
def GrantQ (W : World) (P : Pn) (pc gc : Nat) (q : Gs) (hb : Nat) (Z : Nat → Prop) (c : Ck8.Ck) (x g : Int) (w : World) (e : Ending) (w' : World) : Prop :=
  ∃ i0 i1 s a3 ad n cc a5 r, e = GcV i0 i1 s a3 ad n cc a5 r ∧ (∀ k, Z k → w'.heap[k]? = w.heap[k]?) ∧
    (((r != 0) = true ∧ i0 = 0 ∧ ((r == 10) || (r == 11)) = true ∧ Wd W P pc gc q hb Z c (LOf P 0) none x none w') ∨ (r = 0 ∧ i0 = 1 ∧ pathOK P.pa = true ∧ ModeB P.m = true ∧ Wd W P pc gc q hb Z c (LOf P 1) (osOf P 1) (g + P.t) none w'))
theorem grant_w (H : Wd W P pc gc q hb Z c (LOf P 0) none x none w) (hg : 0 ≤ g ∧ g ≤ 1152921504606846976) (hs : P.pa.size ≤ 140737488355328) :
    Calls Tryz.prog 10 #[.pointer (some ⟨q.g, 0, none⟩), .int .i64 g, .agg rootC, .int .i64 1, .string P.pa, .int .i64 P.m, .int .i64 P.t] w (GrantQ W P pc gc q hb Z c x g w) := by
  obtain ⟨FG, h1, h2, h3⟩ := H.gr
  have hr : ReqOK g 1 P.t := ⟨hg, .inl rfl, P.t_ok⟩
  cases hp : pathOK P.pa with
  | false =>
    have hw : wordsR P.pa P.m = 10 := by unfold wordsR; rw [hp]; rfl
    refine (grant_err FG q (LOf P 0) none x g 1 P.t P.pa P.m 10 w h1 h2 (by decide) (fun W b Bg Bn Bt Br hA hg => ?_)).mono ?_
    · have := ask_bad hA hg hr hs (by rw [hw]; decide)
      rwa [hw] at this
    · rintro e w' ⟨rfl, hW⟩
      obtain ⟨k1, k2⟩ := h3 _ _ _ _ hW
      exact ⟨0, 0, estr, 0, none, 0, 0, 0, 10, rfl, k2, .inl ⟨rfl, rfl, rfl, k1⟩⟩
  | true =>
    cases hm : ModeB P.m with
    | false =>
      have hw : wordsR P.pa P.m = 11 := by unfold wordsR; rw [hp, hm]; rfl
      refine (grant_err FG q (LOf P 0) none x g 1 P.t P.pa P.m 11 w h1 h2 (by decide) (fun W b Bg Bn Bt Br hA hg => ?_)).mono ?_
      · have := ask_bad hA hg hr hs (by rw [hw]; decide)
        rwa [hw] at this
      · rintro e w' ⟨rfl, hW⟩
        obtain ⟨k1, k2⟩ := h3 _ _ _ _ hW
        exact ⟨0, 0, estr, 0, none, 0, 0, 0, 11, rfl, k2, .inl ⟨rfl, rfl, rfl, k1⟩⟩
    | true =>
      refine (grant_ok FG q x g P.t P.pa P.m w h1 h2 hr hs hp hm).mono ?_
      rintro e w' ⟨sb, sc, rfl, hW⟩
      obtain ⟨k1, k2⟩ := h3 _ _ _ _ hW
      exact ⟨1, 1, P.pa, P.m, _, _, _, P.t, 0, rfl, k2, .inr ⟨rfl, rfl, hp, hm, k1⟩⟩
/-- A lease's cells, an error's number. -/
def LcV (a0 a1 : Int) (s : ByteArray) (a3 : Int) (ad : Option Addr) (n cc : Nat) (a5 a6 a7 : Int) (b8 : Bool) (r : Int) : Ending := .returned (.tuple #[.agg #[.int .i64 a0, .int .i64 a1, .string s, .int .i64 a3, .slice ad n cc, .int .i64 a5, .int .i64 a6, .int .i64 a7, .bool b8], .int .i64 r])
def UseQ (lv : Bool) (w : World) (e : Ending) (w' : World) : Prop := ∃ a0 a1 s a3 ad n cc a5 a6 a7 b8 r, e = LcV a0 a1 s a3 ad n cc a5 a6 a7 b8 r ∧ (r == 0) = lv ∧ Below w.heap.size w w'
theorem use_w {L : Lst} {os : Option Ent} (H : Wd W P pc gc q hb Z c L os x ol w) (I : Inv P ng nc nr gs c x ol sent) (hs : P.pa.size ≤ 140737488355328) :
    Calls Tryz.prog 13 #[.pointer (some ⟨hb, 0, none⟩), .int .i64 h, .string P.pa, .int .i64 P.m] w (UseQ (live ol h) w) := by
  obtain ⟨FH, h1, -⟩ := H.ho
  cases ol with
  | none =>
    refine (use_none FH hb P.rho h P.pa P.m w h1 hs).mono ?_
    rintro e w' ⟨rfl, hb'⟩
    refine ⟨0, 0, estr, 0, none, 0, 0, 0, 0, 0, false, _, rfl, ?_, hb'⟩
    show (useR P.pa P.m == 0) = false
    unfold useR
    split
    · split <;> rfl
    · rfl
  | some l =>
    obtain ⟨e1, e2, e3, -, -⟩ := I.le l rfl
    have hg : gs ≠ 0 := fun h0 => by have := I.g0 h0; cases this
    obtain ⟨hp, hm, -, -⟩ := I.g1 hg
    have := use_some FH hb P.rho h l w h1 (by rw [e1]; exact hp) (by rw [e2]; exact hm) (by rcases e3 with e3 | e3 <;> rw [e3] <;> decide)
    rw [e1, e2] at this
    refine this.mono ?_
    rintro e w' (⟨hd, rfl, hb'⟩ | ⟨hd, vb, vc, rfl, hb'⟩)
    · exact ⟨0, 0, estr, 0, none, 0, 0, 0, 0, 0, false, 62, rfl, (decide_eq_false (by omega)).symm, hb'⟩
    · exact ⟨0, 1, l.p, l.m, _, _, _, l.t, l.sent, l.exp, false, 0, rfl, (decide_eq_true hd).symm, hb'⟩
def AddQ (W : World) (P : Pn) (pc gc : Nat) (q : Gs) (hb : Nat) (Z : Nat → Prop) (c : Ck8.Ck) (L : Lst) (os : Option Ent) (x : Int) (ng nc nr : Int) (gs : Nat) (sent h : Int) (e : Ending) (w' : World) : Prop :=
  ∃ r ol', e = .returned (.int .i64 r) ∧ Wd W P pc gc q hb Z c L os x ol' w' ∧ Inv P ng (nc + 1) nr gs c x ol' sent ∧ ((r = 62 ∧ live ol' h = false) ∨ (r = 0 ∧ live ol' h = true))
theorem add_w {L : Lst} {os : Option Ent} {D : Nat → Prop} {sv : Value} (H : Wd W P pc gc q hb Z c L os x none w) (I : Inv P ng nc nr gs c x none sent) (hc : c.now = [g, h]) (hg : gs ≠ 0) (hn : P.come < nc + 1) (hv : Ck8.IntsV D w sv [1]) :
    Calls Tryz.prog 12 #[.pointer (some ⟨hb, 0, none⟩), .int .i64 h, .int .i64 sent, .agg (lC P.pa P.m sv P.t 0 0)] w (AddQ W P pc gc q hb Z c L os x ng nc nr gs sent h) := by
  obtain ⟨FH, h1, h2⟩ := H.ho
  obtain ⟨hp, hm, hs, -⟩ := I.g1 hg
  have hO : LeaseOK h sent P.pa P.m 1 P.t P.rho := ⟨⟨hs, I.sent_le hc hs, (I.bounds hc).2.2⟩, hp, hm, by omega, P.t_ok, I.rho⟩
  by_cases hd : sent + T3.shrT P.t P.rho ≤ h
  · refine (add_no FH D hb P.rho h sent P.pa P.m 1 P.t sv w h1 hv hO hd).mono ?_
    rintro e w' (⟨_, rfl, hb'⟩ | ⟨hd2, -, -, -⟩)
    · exact ⟨62, none, rfl, H.below hb', (I.wide (Int.le_refl _) (by omega) (Int.le_refl _)), .inl ⟨rfl, rfl⟩⟩
    · omega
  · refine (add_ok FH D hb P.rho h sent P.pa P.m 1 P.t sv w h1 hv hO (by omega)).mono ?_
    rintro e w' (⟨hd2, -, -⟩ | ⟨hd2, rfl, h3, h4⟩)
    · omega
    · exact ⟨0, _, rfl, h2 _ _ h3 h4, I.add hg hn, .inr ⟨rfl, decide_eq_true hd2⟩⟩
def RenewQ (W : World) (P : Pn) (pc gc : Nat) (q : Gs) (hb : Nat) (Z : Nat → Prop) (c : Ck8.Ck) (x : Int) (ol : Option Ls) (g : Int) (w : World) (e : Ending) (w' : World) : Prop :=
  ∃ i0 i1 s a3 ad n cc a5 r, e = GcV i0 i1 s a3 ad n cc a5 r ∧
    ((r = 63 ∧ x ≤ g ∧ Wd W P pc gc q hb Z c (LOf P 1) (osOf P 1) x ol w') ∨ (r = 0 ∧ g < x ∧ Ck8.IntsV (fun k => w.heap.size ≤ k) w' (.slice ad n cc) [2] ∧ Wd W P pc gc q hb Z c (LOf P 2) (osOf P 2) (max x (g + P.t)) ol w'))
theorem renew_w (H : Wd W P pc gc q hb Z c (LOf P 1) (osOf P 1) x ol w) (I : Inv P ng nc nr 1 c x ol sent) (hg : 0 ≤ g ∧ g ≤ 1152921504606846976) :
    Calls Tryz.prog 14 #[.pointer (some ⟨q.g, 0, none⟩), .int .i64 g, .agg rootC, .int .i64 1, .int .i64 1, .int .i64 P.t, .bool true] w (RenewQ W P pc gc q hb Z c x ol g w) := by
  obtain ⟨FG, h1, h2, h3⟩ := H.gr
  obtain ⟨hp, hm, -, -⟩ := I.g1 (by decide)
  have hr : ReqOK g 1 P.t := ⟨hg, .inl rfl, P.t_ok⟩
  by_cases hx : x ≤ g
  · refine (renew_dead FG q (LOf P 1) x g P.t P.pa P.m 1 P.t w h1 rfl hr hx).mono ?_
    rintro e w' ⟨rfl, hb'⟩
    exact ⟨0, 0, estr, 0, none, 0, 0, 0, 63, rfl, .inl ⟨rfl, hx, H.below hb'⟩⟩
  · refine (renew_ok FG q (LOf P 1) x g P.t P.pa P.m w h1 rfl rfl h2 hr hp hm (by omega)).mono ?_
    rintro e w' ⟨sb, so, sc, rfl, hiv, hW⟩
    exact ⟨1, 1, P.pa, P.m, _, _, _, P.t, 0, rfl, .inr ⟨rfl, by omega, hiv, (h3 _ _ _ _ hW).1⟩⟩
def RenewedQ (W : World) (P : Pn) (pc gc : Nat) (q : Gs) (hb : Nat) (Z : Nat → Prop) (c : Ck8.Ck) (x : Int) (ng nc nr : Int) (sent : Int) (e : Ending) (w' : World) : Prop :=
  ∃ b ol', e = .returned (.bool b) ∧ Wd W P pc gc q hb Z c (LOf P 2) (osOf P 2) x ol' w' ∧ Inv P ng nc (nr + 1) 2 c x ol' sent
theorem renewed_w {D : Nat → Prop} {sv : Value} (H : Wd W P pc gc q hb Z c (LOf P 2) (osOf P 2) (max x (g + P.t)) ol w) (I : Inv P ng nc nr 1 c x ol sent) (hc : c.now = [g, h]) (hn : P.renews < nr + 1) (hv : Ck8.IntsV D w sv [2]) :
    Calls Tryz.prog 15 #[.pointer (some ⟨hb, 0, none⟩), .int .i64 h, .int .i64 h, .int .i64 0, .int .i64 1, sv, .int .i64 P.t] w (RenewedQ W P pc gc q hb Z c (max x (g + P.t)) ng nc nr sent) := by
  obtain ⟨FH, h1, h2⟩ := H.ho
  obtain ⟨hp, hm, -, -⟩ := I.g1 (by decide)
  cases ol with
  | none =>
    refine (renewedH_none FH D hb P.rho h h P.t 2 sv w h1 hv).mono ?_
    rintro e w' ⟨rfl, hb'⟩
    exact ⟨false, none, rfl, H.below hb', I.renewN _ (by omega) hn⟩
  | some l =>
    obtain ⟨e1, e2, -, -, -⟩ := I.le l rfl
    refine (renewedH_some FH D hb P.rho h h P.t 2 l sv w h1 hv ⟨⟨(I.bounds hc).2.1, Int.le_refl _, (I.bounds hc).2.2⟩, by rw [e1]; exact hp, by rw [e2]; exact hm, by omega, P.t_ok, I.rho⟩).mono ?_
    rintro e w' ⟨rfl, h3, h4⟩
    exact ⟨true, _, rfl, h2 _ _ h3 h4, I.renewS hc hn⟩
theorem stands_w (H : Wd W P pc gc q hb Z c (LOf P gs) (osOf P gs) x ol w) (I : Inv P ng nc nr gs c x ol sent) (hc : c.now = [g, h]) (hl : live ol h = true) :
    Calls Tryz.prog 16 #[.pointer (some ⟨q.g, 0, none⟩), .int .i64 g, .int .i64 1, .agg (planC P)] w (fun e w' => e = .returned (.bool true) ∧ Wd W P pc gc q hb Z c (LOf P gs) (osOf P gs) x ol w') := by
  obtain ⟨FG, h1, h2, h3⟩ := H.gr
  obtain ⟨hg, hx⟩ := I.safe hc hl
  obtain ⟨hp, -, -, -⟩ := I.g1 hg
  have hgs : gs = 1 ∨ gs = 2 := by have := I.gle; omega
  rcases hgs with rfl | rfl
  · refine (stands_any FG q (LOf P 1) ⟨P.pa, P.m, 1, P.t⟩ x g P.m P.rho P.T P.sent P.granted P.come P.renews w h1 rfl h2 (I.bounds hc).1 hp hx).mono ?_
    rintro e w' ⟨rfl, hW⟩
    exact ⟨rfl, (h3 _ _ _ _ hW).1⟩
  · refine (stands_any FG q (LOf P 2) ⟨P.pa, P.m, 2, P.t⟩ x g P.m P.rho P.T P.sent P.granted P.come P.renews w h1 rfl h2 (I.bounds hc).1 hp hx).mono ?_
    rintro e w' ⟨rfl, hW⟩
    exact ⟨rfl, (h3 _ _ _ _ hW).1⟩
def TickQ (W : World) (P : Pn) (pc gc : Nat) (q : Gs) (hb : Nat) (Z : Nat → Prop) (c : Ck8.Ck) (d : Int) (dl : List Int) (L : Lst) (os : Option Ent) (x : Int) (ol : Option Ls) (e : Ending) (w' : World) : Prop :=
  ∃ r : Int, e = .returned (.int .i64 r) ∧ (((r != 0) = true ∧ Wd W P pc gc q hb Z c L os x ol w') ∨ (r = 0 ∧ c.tickE d dl = 0 ∧ Wd W P pc gc q hb Z (c.tickR d dl) L os x ol w'))
theorem tick_w {L : Lst} {os : Option Ent} {d : Int} {dl : List Int} {dv : Value} {D : Nat → Prop} (H : Wd W P pc gc q hb Z c L os x ol w) (hf : c.Fit) (hd : Ck8.I64 d) (hdl : ∀ (j : Nat) (y : Int), dl[j]? = some y → Ck8.I64 y) (hv : Ck8.IntsV D w dv dl) (hD : ¬ D pc ∧ ¬ D gc) :
    Calls Tryz.prog 17 #[.pointer (some ⟨pc, 0, none⟩), .int .i64 d, dv] w (TickQ W P pc gc q hb Z c d dl L os x ol) := by
  refine (Ck8.tick_any pc gc c d D dl dv w H.ck hf hd hdl hv hD).mono ?_
  rintro e w' ⟨rfl, h1, h2⟩
  by_cases hE : c.tickE d dl = 0
  · refine ⟨_, rfl, .inr ⟨by rw [hE]; rfl, hE, H.clk h1 h2⟩⟩
  · refine ⟨_, rfl, .inl ⟨?_, ?_⟩⟩
    · simp; exact hE
    · rw [Ck8.went_no hE] at h1
      exact H.clk h1 h2
theorem drift_w {L : Lst} {os : Option Ent} (H : Wd W P pc gc q hb Z c L os x ol w) : Calls Tryz.prog 18 #[.pointer (some ⟨pc, 0, none⟩)] w fun e w' => e = .returned (.int .i64 c.drift) ∧ w = w' := Ck8.drift_any pc gc c w H.ck
end
end Go.Proofs.YtchdfogifhfclaaGreatDoor
namespace Go.Proofs.YtchdfogifhfclaaGreatDoor
open Go.RowKit Go.Maps Go.MapKept

/-- Ticks that came in. -/
def TkIn (w : World) (v : Value) (l : List (Int × Int × Int)) : Prop :=
  ∃ (a : Option Addr) (c : Nat), v = .slice a l.length c ∧ l.length ≤ c ∧ c ≤ maxLen ∧
    (0 < l.length → ∃ b o, a = some ⟨b, o, none⟩ ∧ b < w.heap.size ∧ ∀ (j : Nat) (t : Int × Int × Int), l[j]? = some t →
      w.cell? ⟨b, o + j * 3, none⟩ = some (.int .i64 t.1) ∧ w.cell? ⟨b, o + j * 3 + 1, none⟩ = some (.int .i64 t.2.1) ∧ w.cell? ⟨b, o + j * 3 + 2, none⟩ = some (.int .i64 t.2.2) ∧ Ck8.I64 t.1 ∧ Ck8.I64 t.2.1 ∧ Ck8.I64 t.2.2)
theorem LedNew.at_ {w w' : World} {p d s : Nat} (hp : w'.heap[p]? = some (.cells (ledC d 1 0 0 1 0 (.slice none 0 0)) 75 (0, 0))) (hd : DiskOk w' d s 1) : LedAt (fun k => k = p ∨ k = d ∨ k = s) p d s 0 1 0 none w' :=
  ⟨⟨.slice none 0 0, hp, rfl⟩, hd, ⟨.inl rfl, .inr (.inl rfl), .inr (.inr rfl)⟩, by omega⟩
/-- What has been made when the loop begins. -/
structure Made (W : World) (P : Pn) (pc gc : Nat) (q : Gs) (hb : Nat) (w : World) : Prop where
  wd : Wd W P pc gc q hb (fun _ => False) (Ck8.Ck.start 2) (LOf P 0) none 0 none w
theorem made_of {W W1 w1 w2 w3 w4 w5 : World} {P : Pn} {pc hb : Nat} {q : Gs} (hW : W1 = W.alloc (.cells (planC P) 24)) (h1 : Ck8.NewCk 2 W1 (.returned (.tuple #[.pointer (some ⟨pc, 0, none⟩), .int .i64 0])) w1)
    (h2 : Below w1.heap.size w1 w2) (hd2 : w2.heap.size ≤ w3.heap.size ∧ Mod (fun k => w1.heap.size ≤ k) w2 w3) (hl : LedAt (fun k => w1.heap.size ≤ k ∧ k < w3.heap.size) q.lp q.d q.s 0 1 0 none w3)
    (h4 : GrAt (Up (fun k => w1.heap.size ≤ k ∧ k < w3.heap.size) w3) q ⟨0, 1, 0, none⟩ none 0 w4) (hb4 : Below w3.heap.size w3 w4) (h5 : HoAt (fun k => w4.heap.size ≤ k) hb P.rho none w5) (hb5 : Below w4.heap.size w4 w5) : ∃ gc, Made W P pc gc q hb w5 := by
  obtain ⟨p, gc, e, hck, hp, hg, hb1⟩ := h1
  have ep : pc = p := by injection e with e; injection e with e; simp at e; exact e
  subst ep
  have hx : W1.heap[W.heap.size]? = some (.cells (planC P) 24 (0, 0)) := by rw [hW]; exact heap_at _ _ _ rfl
  have hz : W1.heap.size = W.heap.size + 1 := by rw [hW]; simp
  have hlt := hck.lt
  have b13 : Below w1.heap.size w1 w3 := h2.trans (hd2.2.toBelow h2.size (fun k hk => hk))
  have b15 : Below w1.heap.size w1 w5 := below_step (below_step b13 hb4) hb5
  have b05 := below_step hb1 b15
  have s34 := hb4.size
  have s13 := b13.size
  have s45 := hb5.size
  refine ⟨gc, ⟨hck.below b15, (b05.block _ (by omega)).trans hx, ⟨fun k => Up (fun k => w1.heap.size ≤ k ∧ k < w3.heap.size) w3 k ∧ k < w4.heap.size, fun k => w4.heap.size ≤ k ∧ k < w5.heap.size, (h4.mono (fun k hk hf => ⟨hf, hk⟩)).below hb5, h5.mono (fun k hk hf => ⟨hf, hk⟩), ?_, ?_⟩, ⟨by omega, by omega⟩, fun k hk => absurd hk id, ?_⟩⟩
  · rintro k ⟨hf | hf, hk⟩
    · have hf : w1.heap.size ≤ k ∧ k < w3.heap.size := hf
      exact ⟨by omega, by omega, by omega, by omega, fun hh => by omega, id⟩
    · exact ⟨by omega, by omega, by omega, by omega, fun hh => by omega, id⟩
  · intro k hf
    exact ⟨by omega, by omega, by omega, by omega, id⟩
  · exact below_step (by rw [hW]; exact below_one _ _) b05
set_option maxRecDepth 100000 in
set_option maxHeartbeats 4000000 in
theorem two_no (P : Pn) (v : Value) (W : World) (hr : P.rho < 0 ∨ 999 < P.rho) :
    Calls Tryz.prog 3 #[.agg (planC P), v] W (fun e w' => e = .returned (.bool true) ∧ Below W.heap.size W w') := by
  obtain ⟨W1, hW1⟩ : ∃ W1, W1 = W.alloc (.cells (planC P) 24) := ⟨_, rfl⟩
  have hb1 : Below W.heap.size W W1 := by rw [hW1]; exact below_one _ _
  have HX1 := Lib.hid (show W1.heap[W.heap.size]? = some (.cells (planC P) 24 (0, 0)) by rw [hW1]; exact heap_at _ _ _ rfl)
  have HB1 := Lib.hid hb1
  have HR := Lib.hid hr
  have c0 := blk_cell HX1.out
  have l0 := lt_of_heap HX1.out
  clear hb1 hr
  unfold planC plC at hW1 c0
  unfold planC plC
  go_enter Tryz.func3, Tryz.ntmps3
  go_upto_region 1 with fail
  rw [← hW1]
  clear hW1
  go_wp2_with fail
  refine (Ck8.new_ok 2 _ (by omega)).mono ?_
  rintro e w1 ⟨pc, gc, rfl, hck, hp, hg, hbc⟩
  have HB2 := Lib.hid (below_step HB1.out hbc)
  have HX2 := Lib.hid ((hbc.block _ (lt_of_heap HX1.out)).trans HX1.out)
  clear c0 hck hp hg hbc l0
  go_wp2_with fail
  refine (newDisk_any _).mono ?_
  rintro e w2 ⟨rfl, hda, hbd⟩
  have HDA := Lib.hid hda
  have HB3 := Lib.hid (below_step HB2.out hbd)
  have HX3 := Lib.hid ((hbd.block _ (lt_of_heap HX2.out)).trans HX2.out)
  have HS1 := Lib.hid (show W.heap.size < w1.heap.size from lt_of_heap HX2.out)
  clear hda hbd
  go_wp2_with fail
  refine (openLed_any _ _ _ HDA.out).mono ?_
  rintro e w3 ⟨lp, rfl, hlp, hlw, hdk, hm⟩
  have hled := LedNew.at_ (w := w2) hlp hdk
  have HB4 := Lib.hid (show Below W.heap.size W w3 from HB3.out.trans (hm.toBelow HB3.out.size (fun k hk => by have := HS1.out; rcases hk with rfl | rfl <;> omega)))
  have HX4 := Lib.hid ((hm.block _ (lt_of_heap HX3.out) (fun hk => by have := HS1.out; rcases hk with hk | hk <;> omega)).trans HX3.out)
  have HG := Lib.hid (openG_any _ lp _ _ w3 hled (fun k hk => by rcases hk with rfl | rfl | rfl; exact lt_of_heap hlp; exact hdk.lt.1; exact hdk.lt.2))
  clear hlp hlw hdk hm hled
  go_wp2_with fail
  refine HG.out.mono ?_
  rintro e w4 ⟨q, rfl, -, -, -, -, hb4⟩
  have HB5 := Lib.hid (below_step HB4.out hb4)
  have HX5 := Lib.hid ((hb4.block _ (lt_of_heap HX4.out)).trans HX4.out)
  have c5 := blk_cell HX5.out
  clear hb4
  unfold planC plC at c5
  go_wp2_with fail
  refine (newH_no P.rho _ HR.out).mono ?_
  rintro e w5 ⟨rfl, rfl⟩
  by_cases h0 : P.rho < 0
  · have d1 : decide (P.rho < 0) = true := decide_eq_true h0
    clear h0
    go_wp2_with fail
    go_ret
    exact ⟨rfl, HB5.out⟩
  · have d1 : decide (P.rho < 0) = false := decide_eq_false h0
    have d2 : decide (999 < P.rho) = true := decide_eq_true (by have := HR.out; omega)
    clear h0
    go_wp2_with fail
    go_ret
    exact ⟨rfl, HB5.out⟩
end Go.Proofs.YtchdfogifhfclaaGreatDoor
