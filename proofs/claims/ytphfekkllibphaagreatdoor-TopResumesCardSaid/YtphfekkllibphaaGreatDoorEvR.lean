/- The reckoner: what is known, and what is. -/
import Derived.Test.YtphfekkllibphaaGreatDoorEvTM
import Derived.Below
namespace Go.Proofs.YtphfekkllibphaaGreatDoor.Ev
open Go Go.RowKit

/-- Where the blocks lie, how much the slices bear, what the letters are. -/
structure Ren where
  n : Nat
  d : Nat → Prop
  fr : ∀ b, n ≤ b → ¬ d b
  π : Nat → Nat
  γ : Nat → Nat
  m : Nat
  σ : Nat → Int
  τ : Nat → ByteArray
  ok : TabOK m σ τ
structure Ren.le (r s : Ren) : Prop where
  d : ∀ b, r.d b → s.d b
  π : ∀ b, r.d b → s.π b = r.π b
  γ : ∀ b, r.d b → s.γ b = r.γ b
  m : s.m = r.m
  σ : s.σ = r.σ
  τ : s.τ = r.τ
theorem Ren.le.refl (r : Ren) : r.le r := ⟨fun _ h => h, fun _ _ => rfl, fun _ _ => rfl, rfl, rfl, rfl⟩
theorem Ren.le.trans {r s t : Ren} (h : r.le s) (k : s.le t) : r.le t :=
  ⟨fun b hb => k.d b (h.d b hb), fun b hb => (k.π b (h.d b hb)).trans (h.π b hb), fun b hb => (k.γ b (h.d b hb)).trans (h.γ b hb),
   k.m.trans h.m, k.σ.trans h.σ, k.τ.trans h.τ⟩
theorem Ren.lt {r : Ren} {b : Nat} (h : r.d b) : b < r.n := by
  apply Classical.byContradiction
  intro hb
  exact r.fr b (by omega) h
/-- The value is as known. -/
inductive VR (ρ : Ren) : V → Value → Prop
  | u (x : Value) : VR ρ .u x
  | b (x : Bool) : VR ρ (.b x) (.bool x)
  | ui (k : IntKind) (n : Int) : VR ρ (.ui k) (.int k n)
  | i (k : IntKind) (n : Int) : VR ρ (.i k n) (.int k n)
  | x {k : IntKind} {a : Nat} {c : Int} (h : a < ρ.m) : VR ρ (.x k a c) (.int k (ρ.σ a + c))
  | s {l : List V} {s : ByteArray} (hn : l.length = s.size) (h : ∀ (i : Nat) (v : V) (c : UInt8), l[i]? = some v → s.data[i]? = some c → VR ρ v (.int .u8 c.toNat)) : VR ρ (.s l) (.string s)
  | sv {a : Nat} (h : a < ρ.m) : VR ρ (.sv a) (.string (ρ.τ a))
  | pn : VR ρ .pn (.pointer none)
  | p {b o : Nat} (h : ρ.d b) : VR ρ (.p b o) (.pointer (some ⟨ρ.π b, o, none⟩))
  | sn : VR ρ .sn (.slice none 0 0)
  | se (a : Addr) (c : Nat) : VR ρ .se (.slice (some a) 0 c)
  | slc {b o len c : Nat} (h : ρ.d b) : VR ρ (.sl b o len (some c)) (.slice (some ⟨ρ.π b, o, none⟩) len c)
  | slu {b o len c : Nat} (h : ρ.d b) (hl : len ≤ c) (h0 : o = 0 → c = ρ.γ b) : VR ρ (.sl b o len none) (.slice (some ⟨ρ.π b, o, none⟩) len c)
  | mn : VR ρ .mn (.map none)
  | m {b : Nat} (h : ρ.d b) : VR ρ (.m b) (.map (some (ρ.π b)))
  | f {fn : Fn} {l k : List V} {l' k' : Array Value} (hl : l.length = l'.size) (h : ∀ (i : Nat) (v : V) (x : Value), l[i]? = some v → l'[i]? = some x → VR ρ v x)
      (hk : k.length = k'.size) (g : ∀ (i : Nat) (v : V) (x : Value), k[i]? = some v → k'[i]? = some x → VR ρ v x) : VR ρ (.f fn l k) (.func fn l' k')
  | nf : VR ρ .nf .nilFunc
  | ic {t : TypeId} {v : V} {x : Value} (h : VR ρ v x) : VR ρ (.ic t v) (.iface t x)
  | nic : VR ρ .nic .nilIface
  | agg {l : List V} {cs : Array Value} (hn : l.length = cs.size) (h : ∀ (i : Nat) (v : V) (x : Value), l[i]? = some v → cs[i]? = some x → VR ρ v x) : VR ρ (.agg l) (.agg cs)
  | tup {l : List V} {cs : Array Value} (hn : l.length = cs.size) (h : ∀ (i : Nat) (v : V) (x : Value), l[i]? = some v → cs[i]? = some x → VR ρ v x) : VR ρ (.tup l) (.tuple cs)
theorem VR.mono {ρ ρ' : Ren} (hle : ρ.le ρ') {v : V} {x : Value} (h : VR ρ v x) : VR ρ' v x := by
  induction h with
  | u x => exact .u x
  | b x => exact .b x
  | ui k n => exact .ui k n
  | i k n => exact .i k n
  | x h => rw [← hle.σ]; exact .x (hle.m ▸ h)
  | s hn _ ih => exact .s hn ih
  | sv h => rw [← hle.τ]; exact .sv (hle.m ▸ h)
  | pn => exact .pn
  | p h => rw [← hle.π _ h]; exact .p (hle.d _ h)
  | sn => exact .sn
  | se a c => exact .se a c
  | slc h => rw [← hle.π _ h]; exact .slc (hle.d _ h)
  | slu h hl h0 => rw [← hle.π _ h]; exact .slu (hle.d _ h) hl (fun e => (h0 e).trans (hle.γ _ h).symm)
  | mn => exact .mn
  | m h => rw [← hle.π _ h]; exact .m (hle.d _ h)
  | f hl _ hk _ ih ig => exact .f hl ih hk ig
  | nf => exact .nf
  | ic _ ih => exact .ic ih
  | nic => exact .nic
  | agg hn _ ih => exact .agg hn ih
  | tup hn _ ih => exact .tup hn ih
/-- A list of them. -/
def LR (ρ : Ren) (l : List V) (cs : List Value) : Prop := l.length = cs.length ∧ ∀ (i : Nat) (v : V) (x : Value), l[i]? = some v → cs[i]? = some x → VR ρ v x
section
variable {ρ ρ' : Ren} {l m : List V} {cs ds : List Value} {v : V} {x : Value}
theorem LR.mono (hle : ρ.le ρ') (h : LR ρ l cs) : LR ρ' l cs := ⟨h.1, fun i v x hv hx => (h.2 i v x hv hx).mono hle⟩
theorem LR.nil : LR ρ [] [] := ⟨rfl, fun i v x h => by simp at h⟩
theorem LR.cons (h : VR ρ v x) (hl : LR ρ l cs) : LR ρ (v :: l) (x :: cs) := by
  refine ⟨by simp [hl.1], fun i q y hu hy => ?_⟩
  cases i with
  | zero => simp at hu hy; subst hu hy; exact h
  | succ i => exact hl.2 i q y (by simpa using hu) (by simpa using hy)
theorem LR.append (h : LR ρ l cs) (hm : LR ρ m ds) : LR ρ (l ++ m) (cs ++ ds) := by
  refine ⟨by simp [h.1, hm.1], fun i q y hu hy => ?_⟩
  rcases Nat.lt_or_ge i l.length with hi | hi
  · rw [List.getElem?_append_left hi] at hu
    rw [List.getElem?_append_left (by have := h.1; omega)] at hy
    exact h.2 i q y hu hy
  · rw [List.getElem?_append_right hi] at hu
    rw [List.getElem?_append_right (by have := h.1; omega), ← h.1] at hy
    exact hm.2 _ q y hu hy
theorem LR.take (h : LR ρ l cs) (n : Nat) : LR ρ (l.take n) (cs.take n) := by
  refine ⟨by simp [h.1], fun i q y hu hy => ?_⟩
  rw [List.getElem?_take] at hu hy
  split at hu
  · rename_i hi
    rw [if_pos hi] at hy
    exact h.2 i q y hu hy
  · cases hu
theorem LR.drop (h : LR ρ l cs) (n : Nat) : LR ρ (l.drop n) (cs.drop n) := by
  refine ⟨by simp [h.1], fun i q y hu hy => ?_⟩
  rw [List.getElem?_drop] at hu hy
  exact h.2 _ q y hu hy
theorem LR.at_ (h : LR ρ l cs) {i : Nat} (hv : l[i]? = some v) : ∃ x, cs[i]? = some x ∧ VR ρ v x := by
  have hi := (List.getElem?_eq_some_iff.1 hv).1
  obtain ⟨x, hx⟩ : ∃ x, cs[i]? = some x := ⟨_, List.getElem?_eq_getElem (by rw [← h.1]; exact hi)⟩
  exact ⟨x, hx, h.2 i v x hv hx⟩
theorem VR.lr {as : Array Value} (hn : l.length = as.size) (h : ∀ (i : Nat) (v : V) (x : Value), l[i]? = some v → as[i]? = some x → VR ρ v x) : LR ρ l as.toList :=
  ⟨by simpa using hn, fun i v x hv hx => h i v x hv (by simpa using hx)⟩
theorem VR.agg' {as : Array Value} (h : LR ρ l as.toList) : VR ρ (.agg l) (.agg as) := .agg (by simpa using h.1) (fun i v x hv hx => h.2 i v x hv (by simpa using hx))
theorem VR.tup' {as : Array Value} (h : LR ρ l as.toList) : VR ρ (.tup l) (.tuple as) := .tup (by simpa using h.1) (fun i v x hv hx => h.2 i v x hv (by simpa using hx))
theorem VR.agg_inv (h : VR ρ (.agg l) x) : ∃ as : Array Value, x = .agg as ∧ LR ρ l as.toList := by
  cases h with
  | agg hn h => exact ⟨_, rfl, VR.lr hn h⟩
theorem VR.tup_inv (h : VR ρ (.tup l) x) : ∃ as : Array Value, x = .tuple as ∧ LR ρ l as.toList := by
  cases h with
  | tup hn h => exact ⟨_, rfl, VR.lr hn h⟩
theorem VR.i_inv {k : IntKind} {n : Int} (h : VR ρ (.i k n) x) : x = .int k n := by cases h; rfl
theorem VR.b_inv {y : Bool} (h : VR ρ (.b y) x) : x = .bool y := by cases h; rfl
theorem VR.p_inv {b o : Nat} (h : VR ρ (.p b o) x) : ρ.d b ∧ x = .pointer (some ⟨ρ.π b, o, none⟩) := by cases h with | p h => exact ⟨h, rfl⟩
theorem VR.m_inv {b : Nat} (h : VR ρ (.m b) x) : ρ.d b ∧ x = .map (some (ρ.π b)) := by cases h with | m h => exact ⟨h, rfl⟩
theorem VR.sl_inv {b o len : Nat} {c : Option Nat} (h : VR ρ (.sl b o len c) x) : ∃ c', x = .slice (some ⟨ρ.π b, o, none⟩) len c' ∧ ρ.d b ∧ (∀ d, c = some d → c' = d) ∧ (c = none → len ≤ c' ∧ (o = 0 → c' = ρ.γ b)) := by
  cases h with
  | slc h => exact ⟨_, rfl, h, fun d e => (Option.some.inj e).symm ▸ rfl, fun e => by cases e⟩
  | slu h hl h0 => exact ⟨_, rfl, h, fun d e => (by cases e), fun _ => ⟨hl, h0⟩⟩
end
/-- The block is as known. -/
def OR (ρ : Ren) (w : World) (b : Nat) : O → Prop
  | .z => True
  | .c n t e g => ρ.d b ∧ ∃ cs fz, w.heap[ρ.π b]? = some (.cells cs e fz) ∧ n ≤ cs.size ∧ (g = none → cs.size = n) ∧ (∀ s, g = some s → cs.size = ρ.γ b * s) ∧
      (∀ i, i < n → ∃ x, cs[i]? = some x ∧ VR ρ (t.get .u (i + 1)) x) ∧ (∀ i, i < cs.size → ¬ (fz.1 ≤ i ∧ i < fz.2))
  | .mp es cl => ρ.d b ∧ ∃ es' : Array MapEntry, w.heap[ρ.π b]? = some (.map es' cl) ∧ es.length = es'.size ∧
      ∀ (i : Nat) (e : V × V × Nat) (e' : MapEntry), es[i]? = some e → es'[i]? = some e' → VR ρ e.1 e'.key ∧ VR ρ e.2.1 e'.val ∧ e'.born = e.2.2
  | .it m since seen last => ρ.d b ∧ (∀ c, m = some c → ρ.d c) ∧ w.heap[ρ.π b]? = some (.mapIter (m.map ρ.π) since seen.toArray last)
theorem OR.lt {ρ : Ren} {w : World} {b : Nat} {o : O} (h : OR ρ w b o) (hz : o ≠ .z) : ρ.d b ∧ ρ.π b < w.heap.size := by
  have key : ∀ {x : Obj}, w.heap[ρ.π b]? = some x → ρ.π b < w.heap.size := fun hx => (Array.getElem?_eq_some_iff.1 hx).1
  cases o with
  | z => exact absurd rfl hz
  | c n t e g => obtain ⟨h1, cs, fz, h2, _⟩ := h; exact ⟨h1, key h2⟩
  | mp es cl => obtain ⟨h1, es', h2, _⟩ := h; exact ⟨h1, key h2⟩
  | it m s l k => obtain ⟨h1, _, h2⟩ := h; exact ⟨h1, key h2⟩
/-- Elsewhere it stays. -/
theorem OR.keep {ρ ρ' : Ren} {w w' : World} {b : Nat} {o : O} (h : OR ρ w b o) (hle : ρ.le ρ') (hw : o ≠ .z → w'.heap[ρ.π b]? = w.heap[ρ.π b]?) : OR ρ' w' b o := by
  cases o with
  | z => trivial
  | c n t e g =>
    obtain ⟨h1, cs, fz, h2, h3, h4, h5, h6, h7⟩ := h
    exact ⟨hle.d _ h1, cs, fz, by rw [hle.π b h1, hw (by simp), h2], h3, h4, fun s e => by rw [hle.γ b h1]; exact h5 s e, fun i hi => let ⟨x, hx, hv⟩ := h6 i hi; ⟨x, hx, hv.mono hle⟩, h7⟩
  | mp es cl =>
    obtain ⟨h1, es', h2, h3, h4⟩ := h
    exact ⟨hle.d _ h1, es', by rw [hle.π b h1, hw (by simp), h2], h3, fun i e e' he he' => let ⟨a, c, d⟩ := h4 i e e' he he'; ⟨a.mono hle, c.mono hle, d⟩⟩
  | it m s l k =>
    obtain ⟨h1, h2, h3⟩ := h
    refine ⟨hle.d _ h1, fun c hc => hle.d _ (h2 c hc), ?_⟩
    rw [hle.π b h1, hw (by simp), h3]
    cases m with
    | none => rfl
    | some c => simp [hle.π c (h2 c rfl)]
/-- The world is as known. -/
structure Sat (ρ : Ren) (h : H) (w : World) : Prop where
  n : ρ.n = h.nx
  o : ∀ b, OR ρ w b (h.get b)
  inj : ∀ b c, h.get b ≠ .z → h.get c ≠ .z → ρ.π b = ρ.π c → b = c
/-- From one world to the next: what isn't known stays. -/
structure Step (ρ : Ren) (h : H) (w : World) (ρ' : Ren) (h' : H) (w' : World) : Prop where
  le : ρ.le ρ'
  os : w'.os = w.os
  tape : w'.tape = w.tape
  output : w'.output = w.output
  size : w.heap.size ≤ w'.heap.size
  frame : ∀ r, r < w.heap.size → (∀ b, h.get b ≠ .z → ρ.π b ≠ r) → w'.heap[r]? = w.heap[r]?
  img : ∀ b, h'.get b ≠ .z → (∃ c, h.get c ≠ .z ∧ ρ.π c = ρ'.π b) ∨ w.heap.size ≤ ρ'.π b
  nx : h.nx ≤ h'.nx
  lg : ∀ b, b ∈ h.lg → b ∈ h'.lg
  keep : ∀ b, b < h.nx → b ∉ h'.lg → h'.get b = h.get b
  df : h'.df = h.df
  new : ∀ b, ρ'.d b → ρ.d b ∨ (h.nx ≤ b ∧ b < h'.nx)
theorem Step.refl (ρ : Ren) (h : H) (w : World) : Step ρ h w ρ h w := ⟨.refl _, rfl, rfl, rfl, Nat.le_refl _, fun _ _ _ => rfl, fun b hb => .inl ⟨b, hb, rfl⟩, Nat.le_refl _, fun _ h => h, fun _ _ _ => rfl, rfl, fun _ h => .inl h⟩
theorem Step.trans {ρ ρ1 ρ2 : Ren} {h h1 h2 : H} {w w1 w2 : World} (a : Step ρ h w ρ1 h1 w1) (b : Step ρ1 h1 w1 ρ2 h2 w2) : Step ρ h w ρ2 h2 w2 := by
  refine ⟨a.le.trans b.le, b.os.trans a.os, b.tape.trans a.tape, b.output.trans a.output, Nat.le_trans a.size b.size, fun r hr hf => ?_, fun c hc => ?_, Nat.le_trans a.nx b.nx, fun c hc => b.lg c (a.lg c hc),
    fun c hc hl => (b.keep c (Nat.lt_of_lt_of_le hc a.nx) hl).trans (a.keep c hc (fun h => hl (b.lg c h))), b.df.trans a.df, fun c hc => ?_⟩
  · refine (b.frame r (Nat.lt_of_lt_of_le hr a.size) (fun d hd e => ?_)).trans (a.frame r hr hf)
    rcases a.img d hd with ⟨c, hc, hcd⟩ | hge
    · exact hf c hc (hcd.trans e)
    · omega
  · rcases b.img c hc with ⟨d, hd, hdc⟩ | hge
    · rcases a.img d hd with ⟨e, he, hed⟩ | hge
      · exact .inl ⟨e, he, hed.trans hdc⟩
      · exact .inr (by rw [← hdc]; exact hge)
    · exact .inr (Nat.le_trans a.size hge)
  · have h1 := a.nx
    have h2 := b.nx
    rcases b.new c hc with h | h
    · rcases a.new c h with h | h
      · exact .inl h
      · exact .inr ⟨h.1, by omega⟩
    · exact .inr ⟨by omega, h.2⟩
section
variable {ρ : Ren} {h : H} {w : World}
/-- A memory with less known. -/
theorem Sat.less {h' : H} (s : Sat ρ h w) (hn : h'.nx = h.nx) (hg : ∀ b, h'.get b = h.get b ∨ h'.get b = .z) : Sat ρ h' w := by
  have key : ∀ b, h'.get b ≠ .z → h.get b ≠ .z := fun b hb => by
    rcases hg b with e | e
    · rwa [← e]
    · exact absurd e hb
  refine ⟨by rw [s.n, hn], fun b => ?_, fun b c hb hc => s.inj b c (key b hb) (key c hc)⟩
  rcases hg b with e | e
  · rw [e]; exact s.o b
  · rw [e]; trivial
theorem Sat.fresh (s : Sat ρ h w) {b : Nat} (hb : h.nx ≤ b) : h.get b = .z := by
  apply Classical.byContradiction
  intro hz
  have := ρ.fr b (by rw [s.n]; exact hb)
  exact this ((s.o b).lt hz).1
theorem Sat.drew (s : Sat ρ h w) : Sat ρ h w.drew := ⟨s.n, fun b => (s.o b).keep (.refl _) (fun _ => rfl), s.inj⟩
theorem Step.drew (ρ : Ren) (h : H) (w : World) : Step ρ h w ρ h w.drew := ⟨.refl _, rfl, rfl, rfl, Nat.le_refl _, fun _ _ _ => rfl, fun b hb => .inl ⟨b, hb, rfl⟩, Nat.le_refl _, fun _ h => h, fun _ _ _ => rfl, rfl, fun _ h => .inl h⟩
/-- ρ with one block more. -/
def Ren.add (ρ : Ren) (r g : Nat) : Ren := { ρ with n := ρ.n + 1, d := fun b => b = ρ.n ∨ ρ.d b, fr := fun b hb h => h.elim (fun e => by omega) (ρ.fr b (by omega)), π := fun b => if b = ρ.n then r else ρ.π b, γ := fun b => if b = ρ.n then g else ρ.γ b }
theorem Ren.add_le (ρ : Ren) (r g : Nat) : ρ.le (ρ.add r g) :=
  ⟨fun _ h => .inr h, fun b hb => if_neg (Nat.ne_of_lt (Ren.lt hb)), fun b hb => if_neg (Nat.ne_of_lt (Ren.lt hb)), rfl, rfl, rfl⟩
theorem Ren.add_π (ρ : Ren) (r g : Nat) : (ρ.add r g).π ρ.n = r := if_pos rfl
theorem Ren.add_γ (ρ : Ren) (r g : Nat) : (ρ.add r g).γ ρ.n = g := if_pos rfl
noncomputable def H.add (h : H) (o : O) : H := ⟨h.t.set (h.nx + 1) o, h.nx + 1, h.lg, h.df⟩
theorem H.new_eq (h : H) (o : O) (K : Nat → H → Bool) : h.new o K = K h.nx (h.add o) := by
  unfold H.new H.add
  rw [T.setK_eq]
theorem H.add_get (h : H) (o : O) (b : Nat) : (b = h.nx ∧ ((h.add o).get b = o ∨ (h.add o).get b = .z)) ∨ (b ≠ h.nx ∧ (h.add o).get b = h.get b) := by
  rcases T.get_set (d := .z) (t := h.t) (j := b + 1) (k := h.nx + 1) o (by omega) (by omega) with ⟨h1, h2⟩ | ⟨h1, h2⟩
  · exact .inl ⟨by omega, h2⟩
  · exact .inr ⟨by omega, h2⟩
/-- A block more: its place is one that isn't known yet. -/
theorem Sat.add {w' : World} {o : O} {r g : Nat} (s : Sat ρ h w) (ho : OR (ρ.add r g) w' ρ.n o) (hr : ∀ b, h.get b ≠ .z → ρ.π b ≠ r) (hw : ∀ b, h.get b ≠ .z → w'.heap[ρ.π b]? = w.heap[ρ.π b]?) : Sat (ρ.add r g) (h.add o) w' := by
  have hsn := s.n
  refine ⟨by show ρ.n + 1 = h.nx + 1; omega, fun b => ?_, fun b c hb hc e => ?_⟩
  · rcases h.add_get o b with ⟨rfl, e | e⟩ | ⟨hb, e⟩
    · rw [e, ← hsn]; exact ho
    · rw [e]; trivial
    · rw [e]; exact (s.o b).keep (ρ.add_le r g) (hw b)
  · have key : ∀ b, (h.add o).get b ≠ .z → b ≠ h.nx → h.get b ≠ .z ∧ (ρ.add r g).π b = ρ.π b := fun b hb hne => by
      rcases h.add_get o b with ⟨e, _⟩ | ⟨_, e⟩
      · exact absurd e hne
      · rw [e] at hb
        exact ⟨hb, (ρ.add_le r g).π b ((s.o b).lt hb).1⟩
    have hnew : (ρ.add r g).π h.nx = r := by rw [← hsn]; exact ρ.add_π r g
    by_cases h1 : b = h.nx
    · by_cases h2 : c = h.nx
      · rw [h1, h2]
      · obtain ⟨k1, k2⟩ := key c hc h2
        rw [h1, hnew, k2] at e
        exact absurd e.symm (hr c k1)
    · obtain ⟨k1, k2⟩ := key b hb h1
      by_cases h2 : c = h.nx
      · rw [h2, hnew, k2] at e
        exact absurd e (hr b k1)
      · obtain ⟨k3, k4⟩ := key c hc h2
        rw [k2, k4] at e
        exact s.inj b c k1 k3 e
/-- A new block. -/
theorem Sat.alloc {o : O} {x : Obj} (s : Sat ρ h w) (g : Nat) (ho : OR (ρ.add w.heap.size g) (w.alloc x) ρ.n o) :
    Sat (ρ.add w.heap.size g) (h.add o) (w.alloc x) ∧ Step ρ h w (ρ.add w.heap.size g) (h.add o) (w.alloc x) := by
  have hold : ∀ b, h.get b ≠ .z → ρ.π b < w.heap.size := fun b hb => ((s.o b).lt hb).2
  refine ⟨s.add ho (fun b hb => Nat.ne_of_lt (hold b hb)) (fun b hb => Below.heap_alloc w x _ (hold b hb)), ⟨ρ.add_le _ _, rfl, rfl, rfl, by simp, fun r hr _ => Below.heap_alloc w x r hr, fun b hb => ?_, Nat.le_succ _, fun _ h => h, fun b hb _ => ?_, rfl, fun b hb => ?_⟩⟩
  rcases h.add_get o b with ⟨rfl, _⟩ | ⟨_, e⟩
  · refine .inr (Nat.le_of_eq ?_)
    rw [← s.n, ρ.add_π]
  · rw [e] at hb
    exact .inl ⟨b, hb, ((ρ.add_le w.heap.size g).π b ((s.o b).lt hb).1).symm⟩
  · rcases h.add_get o b with ⟨rfl, _⟩ | ⟨_, e⟩
    · omega
    · exact e
  · rcases hb with e | h9
    · exact .inr ⟨by rw [e, s.n]; exact Nat.le_refl _, by rw [e, s.n]; exact Nat.lt_succ_self _⟩
    · exact .inl h9
noncomputable def H.upd (h : H) (b : Nat) (o : O) : H := ⟨h.t.set (b + 1) o, h.nx, b :: h.lg, h.df⟩
theorem H.put_eq (h : H) (b : Nat) (o : O) (K : H → Bool) : h.put b o K = K (h.upd b o) := by
  unfold H.put H.upd
  rw [T.setK_eq]
theorem H.upd_get (h : H) (c : Nat) (o : O) (b : Nat) : (b = c ∧ ((h.upd c o).get b = o ∨ (h.upd c o).get b = .z)) ∨ (b ≠ c ∧ (h.upd c o).get b = h.get b) := by
  rcases T.get_set (d := .z) (t := h.t) (j := b + 1) (k := c + 1) o (by omega) (by omega) with ⟨h1, h2⟩ | ⟨h1, h2⟩
  · exact .inl ⟨by omega, h2⟩
  · exact .inr ⟨by omega, h2⟩
/-- A block written. -/
theorem Sat.upd {w' : World} {o : O} {c : Nat} (s : Sat ρ h w) (hc : h.get c ≠ .z) (ho : OR ρ w' c o) (hz : w'.heap.size = w.heap.size) (hos : w'.os = w.os) (htp : w'.tape = w.tape) (hop : w'.output = w.output)
    (hw : ∀ r, r ≠ ρ.π c → w'.heap[r]? = w.heap[r]?) : Sat ρ (h.upd c o) w' ∧ Step ρ h w ρ (h.upd c o) w' := by
  have key : ∀ b, (h.upd c o).get b ≠ .z → h.get b ≠ .z := fun b hb => by
    rcases h.upd_get c o b with ⟨rfl, _⟩ | ⟨_, e⟩
    · exact hc
    · rwa [← e]
  refine ⟨⟨s.n, fun b => ?_, fun b d hb hd => s.inj b d (key b hb) (key d hd)⟩, ⟨.refl _, hos, htp, hop, by omega, fun r _ hf => hw r (fun e => hf c hc e.symm), fun b hb => .inl ⟨b, key b hb, rfl⟩, Nat.le_refl _, fun _ h => List.mem_cons_of_mem _ h, fun b _ hl => ?_, rfl, fun _ h => .inl h⟩⟩
  rcases h.upd_get c o b with ⟨rfl, e | e⟩ | ⟨hb, e⟩
  · rw [e]; exact ho
  · rw [e]; trivial
  · rw [e]
    refine (s.o b).keep (.refl _) (fun hz => hw _ (fun e => hb ?_))
    exact s.inj b c hz hc e
  · rcases h.upd_get c o b with ⟨rfl, _⟩ | ⟨_, e⟩
    · exact absurd List.mem_cons_self hl
    · exact e
end
end Go.Proofs.YtphfekkllibphaaGreatDoor.Ev
