/- The bag's methods, each by ONE contract: over a bag whose blocks are all behind a first world w0 ('St'). -/
import Derived.Test.YtdjgmgppghipkaaList
namespace Go.Proofs.Ytdjgmgppghipkaa
open Go.RowKit

def Bg.send (b : Bg) (q : Pkt) : Bg := if 200 < q.data.length then ⟨b.l, b.sent, b.lost + 1⟩ else if 48 ≤ b.l.length then ⟨b.l, b.sent, b.lost + 1⟩ else ⟨b.l ++ [q], b.sent + 1, b.lost⟩
def Bg.sendE (b : Bg) (q : Pkt) : Int := if 200 < q.data.length then 41 else if 48 ≤ b.l.length then 51 else 0
/-- the packet with the number k, an int -/
def Bg.at_ (b : Bg) (k : Int) : Option Pkt := if k < 0 then none else b.l[k.toNat]?
def Bg.drop (b : Bg) (k : Int) : Bg := match b.at_ k with | none => b | some _ => ⟨b.l.eraseIdx k.toNat, b.sent, b.lost⟩
def Bg.double (b : Bg) (k : Int) : Bg := match b.at_ k with | none => b | some q => if 48 ≤ b.l.length then b else ⟨b.l ++ [q], b.sent, b.lost⟩
def Bg.doubleE (b : Bg) (k : Int) : Int := match b.at_ k with | none => 72 | some _ => if 48 ≤ b.l.length then 51 else 0

theorem Bg.at_none {b : Bg} {k : Int} (h : b.at_ k = none) : k < 0 ∨ (b.l.length : Int) ≤ k := by
  unfold Bg.at_ at h
  split at h
  · exact Or.inl (by assumption)
  · right; have := List.getElem?_eq_none_iff.1 h; omega
theorem Bg.at_some {b : Bg} {k : Int} {q : Pkt} (h : b.at_ k = some q) : ∃ i : Nat, k = i ∧ b.l[i]? = some q := by
  unfold Bg.at_ at h
  split at h
  · cases h
  · exact ⟨k.toNat, by omega, h⟩

/-- The bag b at p, all of its blocks in G; below w0 all is as it was. -/
structure St (G : Nat → Prop) (w0 : World) (p : Nat) (b : Bg) (wx : World) : Prop where
  bag : BagAt G wx p b
  below : Below w0.heap.size w0 wx

/-- G holds of all that is new behind w. -/
def News (G : Nat → Prop) (w : World) : Prop := ∀ k, w.heap.size ≤ k → G k

theorem new_st (w0 w : World) (hB : Below w0.heap.size w0 w) : Calls Try.prog 10 #[] w fun e w' => e = .returned (.pointer (some ⟨w.heap.size, 0, none⟩)) ∧ BagAt (fun k => k = w.heap.size) w' w.heap.size ⟨[], 0, 0⟩ ∧ Below w.heap.size w w' ∧ Below w0.heap.size w0 w' :=
  (new_any w).mono fun _ _ ⟨h1, h2, h3⟩ => ⟨h1, h2, h3, hB.trans (h3.mono hB.size)⟩

theorem send_any (G D : Nat → Prop) (p : Nat) (b : Bg) (q : Pkt) (dv : Value) (w : World) (h : BagAt G w p b) (hd : BytesV D w dv q.data) (hD : ∀ k, k < w.heap.size → D k → k ≠ p) (hs : b.sent + 1 < 4611686018427387904) (hl : b.lost + 1 < 4611686018427387904) :
    Calls Try.prog 11 #[.pointer (some ⟨p, 0, none⟩), .agg #[.int .i64 q.src, .int .i64 q.dst, dv]] w fun e w' => e = .returned (.int .i64 (b.sendE q)) ∧ BagAt (Up G w) w' p (b.send q) ∧ Mod G w w' := by
  unfold Bg.send Bg.sendE
  by_cases h1 : 200 < q.data.length
  · rw [if_pos h1, if_pos h1]; exact send_big G D p b q dv w h hd h1 hl
  · rw [if_neg h1, if_neg h1]
    by_cases h2 : 48 ≤ b.l.length
    · rw [if_pos h2, if_pos h2]; exact send_full G D p b q dv w h hd (by omega) h2 hl
    · rw [if_neg h2, if_neg h2]; exact send_ok G D p b q dv w h hd hD (by omega) (by omega) hs

theorem drop_any (G : Nat → Prop) (p : Nat) (b : Bg) (k : Int) (w : World) (h : BagAt G w p b) :
    Calls Try.prog 26 #[.pointer (some ⟨p, 0, none⟩), .int .i64 k] w fun e w' => e = .returned (.bool (b.at_ k).isSome) ∧ BagAt (Up G w) w' p (b.drop k) ∧ Mod G w w' := by
  unfold Bg.drop
  cases hk : b.at_ k with
  | none => exact (drop_no G p b k w h (Bg.at_none hk)).mono fun _ _ ⟨h1, h2⟩ => ⟨h1, (h.below h2).up, Mod.of_below h2⟩
  | some q =>
    obtain ⟨i, rfl, hi⟩ := Bg.at_some hk
    exact (drop_yes G p b i q w h hi).mono fun _ _ ⟨h1, h2, h3⟩ => ⟨h1, by simpa using h2, h3⟩

theorem double_any (G : Nat → Prop) (p : Nat) (b : Bg) (k : Int) (w : World) (h : BagAt G w p b) :
    Calls Try.prog 18 #[.pointer (some ⟨p, 0, none⟩), .int .i64 k] w fun e w' => e = .returned (.int .i64 (b.doubleE k)) ∧ BagAt (Up G w) w' p (b.double k) ∧ Mod G w w' := by
  unfold Bg.double Bg.doubleE
  cases hk : b.at_ k with
  | none => exact (double_gone G p b k w h (Bg.at_none hk)).mono fun _ _ ⟨h1, h2⟩ => ⟨h1, (h.below h2).up, Mod.of_below h2⟩
  | some q =>
    obtain ⟨i, rfl, hi⟩ := Bg.at_some hk
    by_cases hf : 48 ≤ b.l.length
    · simp only [if_pos hf]
      exact (double_full G p b i q w h hi hf).mono fun _ _ ⟨h1, h2⟩ => ⟨h1, (h.below h2).up, Mod.of_below h2⟩
    · simp only [if_neg hf]
      exact double_ok G p b i q w h hi (by omega)

/-- What Look and Take hand back: the packet, new; or the zero packet and false. -/
def Got (w : World) (o : Option Pkt) (e : Ending) (w' : World) : Prop :=
  match o with
  | none => e = .returned (.tuple #[.agg #[.int .i64 0, .int .i64 0, .slice none 0 0], .bool false])
  | some q => ∃ v, e = .returned (.tuple #[v, .bool true]) ∧ NewPkt w w' v q

theorem look_any (G : Nat → Prop) (p : Nat) (b : Bg) (k : Int) (w : World) (h : BagAt G w p b) :
    Calls Try.prog 17 #[.pointer (some ⟨p, 0, none⟩), .int .i64 k] w fun e w' => Got w (b.at_ k) e w' ∧ Below w.heap.size w w' := by
  cases hk : b.at_ k with
  | none => exact (look_no G p b k w h (Bg.at_none hk)).mono fun _ _ h => h
  | some q =>
    obtain ⟨i, rfl, hi⟩ := Bg.at_some hk
    exact (look_yes G p b i q w h hi).mono fun _ _ ⟨v, h1, h2, h3⟩ => ⟨⟨v, h1, h2⟩, h3⟩
theorem take_any2 (G : Nat → Prop) (p : Nat) (b : Bg) (k : Int) (w : World) (h : BagAt G w p b) :
    Calls Try.prog 12 #[.pointer (some ⟨p, 0, none⟩), .int .i64 k] w fun e w' => Got w (b.at_ k) e w' ∧ BagAt (fun k => G k ∧ k < w.heap.size) w' p (b.drop k) ∧ Mod G w w' := by
  unfold Bg.drop
  cases hk : b.at_ k with
  | none => exact (take_no G p b k w h (Bg.at_none hk)).mono fun _ _ ⟨h1, h2⟩ => ⟨h1, h.tight.below h2, Mod.of_below h2⟩
  | some q =>
    obtain ⟨i, rfl, hi⟩ := Bg.at_some hk
    exact (take_yes G p b i q w h hi).mono fun _ _ ⟨v, h1, h2, h3, h4⟩ => ⟨⟨v, h1, h2⟩, by simpa using h3, h4⟩
theorem take_any (G : Nat → Prop) (p : Nat) (b : Bg) (k : Int) (w : World) (h : BagAt G w p b) :
    Calls Try.prog 12 #[.pointer (some ⟨p, 0, none⟩), .int .i64 k] w fun e w' => Got w (b.at_ k) e w' ∧ BagAt (Up G w) w' p (b.drop k) ∧ Mod G w w' :=
  (take_any2 G p b k w h).mono fun _ _ ⟨h1, h2, h3⟩ => ⟨h1, h2.mono (fun _ _ hk => Or.inl hk.1), h3⟩

/-- own(p): bytes of its own. -/
theorem NewPkt.bytes {w w' : World} {v : Value} {q : Pkt} (h : NewPkt w w' v q) (hq : q.data.length ≤ maxLen) : ∃ dv, v = .agg #[.int .i64 q.src, .int .i64 q.dst, dv] ∧ BytesV (fun k => w.heap.size ≤ k) w' dv q.data := by
  obtain ⟨d, rfl, hd, hw⟩ := h
  exact ⟨_, rfl, (BytesV.of_block (l := q.data) (c := q.data.length) hd (fun j x hx => by simp [hx]) (Nat.le_refl _) hq).mono (fun k _ hk => hk ▸ hw)⟩
end Go.Proofs.Ytdjgmgppghipkaa
