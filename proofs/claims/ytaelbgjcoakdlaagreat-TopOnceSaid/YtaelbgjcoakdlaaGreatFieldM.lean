/- A message in memory: 16 cells. The fields' places.  The fields' closures: what they are, what makes them. -/
import Derived.Test.YtaelbgjcoakdlaaGreatSumM
import Derived.RegionTactic
import Derived.Deep.RegionHeldLaw
import Derived.BigQuiet
import Derived.Laws.EntriesVeiled
import Derived.WideLaws
namespace Go.Proofs.YtaelbgjcoakdlaaGreat
open Go.RowKit

/-- A message without path and stamp. -/
structure Ms where
  kind : Int
  src : Int
  dst : Int
  boot : Int
  seq : Int
  low : Int
  verb : Int
  term : Int
  id : Int
  code : Int
def estr : ByteArray := ⟨#[]⟩
def Ms.cells (m : Ms) : Array Value :=
  #[.int .i64 m.kind, .int .i64 m.src, .int .i64 m.dst, .int .i64 m.boot, .int .i64 m.seq, .int .i64 m.low, .int .i64 m.verb, .string estr, .int .i64 0, .int .i64 m.term, .int .i64 m.id, .bool false, .int .i64 m.code, .slice none 0 0, .int .i64 0, .int .i64 0]
def Ms.val (m : Ms) : Value := .agg m.cells
/-- The message lies in the block p. -/
def MsgAt (w : World) (p : Nat) (m : Ms) : Prop := w.heap[p]? = some (.cells m.cells 51 (0, 0))
theorem MsgAt.lt {w : World} {p : Nat} {m : Ms} (h : MsgAt w p m) : p < w.heap.size := lt_of_heap h
theorem MsgAt.cell {w : World} {p : Nat} {m : Ms} (h : MsgAt w p m) :
    w.cell? ⟨p, 0, none⟩ = some (.int .i64 m.kind) ∧ w.cell? ⟨p, 1, none⟩ = some (.int .i64 m.src) ∧ w.cell? ⟨p, 2, none⟩ = some (.int .i64 m.dst) ∧ w.cell? ⟨p, 3, none⟩ = some (.int .i64 m.boot) ∧
    w.cell? ⟨p, 4, none⟩ = some (.int .i64 m.seq) ∧ w.cell? ⟨p, 5, none⟩ = some (.int .i64 m.low) ∧ w.cell? ⟨p, 6, none⟩ = some (.int .i64 m.verb) ∧ w.cell? ⟨p, 7, none⟩ = some (.string estr) ∧
    w.cell? ⟨p, 8, none⟩ = some (.int .i64 0) ∧ w.cell? ⟨p, 9, none⟩ = some (.int .i64 m.term) ∧ w.cell? ⟨p, 10, none⟩ = some (.int .i64 m.id) ∧ w.cell? ⟨p, 11, none⟩ = some (.bool false) ∧
    w.cell? ⟨p, 12, none⟩ = some (.int .i64 m.code) ∧ w.cell? ⟨p, 13, none⟩ = some (.slice none 0 0) ∧ w.cell? ⟨p, 14, none⟩ = some (.int .i64 0) ∧ w.cell? ⟨p, 15, none⟩ = some (.int .i64 0) :=
  ⟨blk_cell h 0, blk_cell h 1, blk_cell h 2, blk_cell h 3, blk_cell h 4, blk_cell h 5, blk_cell h 6, blk_cell h 7, blk_cell h 8, blk_cell h 9, blk_cell h 10, blk_cell h 11, blk_cell h 12, blk_cell h 13, blk_cell h 14, blk_cell h 15⟩
theorem MsgAt.free {w : World} {p : Nat} {m : Ms} (h : MsgAt w p m) (i : Nat) : w.frozen? ⟨p, i, none⟩ = false := blk_free h i
theorem MsgAt.keep {w w' : World} {p : Nat} {m : Ms} (h : MsgAt w p m) (hk : w'.heap[p]? = w.heap[p]?) : MsgAt w' p m := hk.trans h
theorem MsgAt.below {w w' : World} {p : Nat} {m : Ms} (h : MsgAt w p m) (hb : Below w.heap.size w w') : MsgAt w' p m := h.keep (hb.block p h.lt)
theorem MsgAt.drew {w : World} {p : Nat} {m : Ms} (h : MsgAt w p m) : MsgAt w.drew p m := h
theorem below_drew (w : World) : Below w.heap.size w w.drew := ⟨rfl, rfl, rfl, Nat.le_refl _, fun _ _ => rfl⟩
theorem below_drewN (w : World) (n : Nat) : Below w.heap.size w (w.drewN n) := ⟨rfl, rfl, rfl, Nat.le_refl _, fun _ _ => rfl⟩

/-- The fields. -/
inductive FK where
  | boot | seq | low | verb | code | id | term | stamp | bad
/-- The field's place in a message. -/
def FK.at : FK → Nat
  | .boot => 3 | .seq => 4 | .low => 5 | .verb => 6 | .code => 12 | .id => 10 | .term => 9 | .stamp => 13 | .bad => 0
/-- The function that answers it. -/
def FK.fn : FK → Nat
  | .boot => 56 | .seq => 57 | .low => 59 | .verb => 61 | .code => 65 | .id => 67 | .term => 68 | .stamp => 0 | .bad => 0
/-- The field's number, the message with another. -/
def FK.get (k : FK) (m : Ms) : Int := match k with
  | .boot => m.boot | .seq => m.seq | .low => m.low | .verb => m.verb | .code => m.code | .id => m.id | .term => m.term | .stamp => 0 | .bad => 0
def FK.put (k : FK) (m : Ms) (n : Int) : Ms := match k with
  | .boot => { m with boot := n } | .seq => { m with seq := n } | .low => { m with low := n } | .verb => { m with verb := n } | .code => { m with code := n } | .id => { m with id := n } | .term => { m with term := n } | .stamp => m | .bad => m

theorem boot_any (p : Nat) (w : World) : Calls Tryz.prog 56 #[.pointer (some ⟨p, 0, none⟩)] w fun e w' => e = .returned (.pointer (some ⟨p, 3, none⟩)) ∧ w = w' := by
  go_enter Tryz.func56, Tryz.ntmps56
  go_wp2_with fail
  go_ret
  exact ⟨rfl, rfl⟩
theorem seq_any (p : Nat) (w : World) : Calls Tryz.prog 57 #[.pointer (some ⟨p, 0, none⟩)] w fun e w' => e = .returned (.pointer (some ⟨p, 4, none⟩)) ∧ w = w' := by
  go_enter Tryz.func57, Tryz.ntmps57
  go_wp2_with fail
  go_ret
  exact ⟨rfl, rfl⟩
theorem low_any (p : Nat) (w : World) : Calls Tryz.prog 59 #[.pointer (some ⟨p, 0, none⟩)] w fun e w' => e = .returned (.pointer (some ⟨p, 5, none⟩)) ∧ w = w' := by
  go_enter Tryz.func59, Tryz.ntmps59
  go_wp2_with fail
  go_ret
  exact ⟨rfl, rfl⟩
theorem verb_any (p : Nat) (w : World) : Calls Tryz.prog 61 #[.pointer (some ⟨p, 0, none⟩)] w fun e w' => e = .returned (.pointer (some ⟨p, 6, none⟩)) ∧ w = w' := by
  go_enter Tryz.func61, Tryz.ntmps61
  go_wp2_with fail
  go_ret
  exact ⟨rfl, rfl⟩
theorem code_any (p : Nat) (w : World) : Calls Tryz.prog 65 #[.pointer (some ⟨p, 0, none⟩)] w fun e w' => e = .returned (.pointer (some ⟨p, 12, none⟩)) ∧ w = w' := by
  go_enter Tryz.func65, Tryz.ntmps65
  go_wp2_with fail
  go_ret
  exact ⟨rfl, rfl⟩
theorem id_any (p : Nat) (w : World) : Calls Tryz.prog 67 #[.pointer (some ⟨p, 0, none⟩)] w fun e w' => e = .returned (.pointer (some ⟨p, 10, none⟩)) ∧ w = w' := by
  go_enter Tryz.func67, Tryz.ntmps67
  go_wp2_with fail
  go_ret
  exact ⟨rfl, rfl⟩
theorem term_any (p : Nat) (w : World) : Calls Tryz.prog 68 #[.pointer (some ⟨p, 0, none⟩)] w fun e w' => e = .returned (.pointer (some ⟨p, 9, none⟩)) ∧ w = w' := by
  go_enter Tryz.func68, Tryz.ntmps68
  go_wp2_with fail
  go_ret
  exact ⟨rfl, rfl⟩
/-- Is it a field that is a number? -/
def FK.num : FK → Prop
  | .stamp => False | .bad => False | _ => True
theorem at_any (k : FK) (hk : k.num) (p : Nat) (w : World) : Calls Tryz.prog k.fn #[.pointer (some ⟨p, 0, none⟩)] w fun e w' => e = .returned (.pointer (some ⟨p, k.at, none⟩)) ∧ w = w' := by
  cases k
  · exact boot_any p w
  · exact seq_any p w
  · exact low_any p w
  · exact verb_any p w
  · exact code_any p w
  · exact id_any p w
  · exact term_any p w
  · exact hk.elim
  · exact hk.elim
theorem FK.cell (k : FK) (hk : k.num) {w : World} {p : Nat} {m : Ms} (h : MsgAt w p m) : w.cell? ⟨p, k.at, none⟩ = some (.int .i64 (k.get m)) := by
  obtain ⟨h0, h1, h2, h3, h4, h5, h6, h7, h8, h9, h10, h11, h12, h13, h14, h15⟩ := h.cell
  cases k <;> first | assumption | exact hk.elim
theorem FK.store (k : FK) (hk : k.num) {w : World} {p : Nat} {m : Ms} (h : MsgAt w p m) (n : Int) : MsgAt (w.setCell ⟨p, k.at, none⟩ (.int .i64 n)) p (k.put m n) := by
  have := blk_set h k.at (.int .i64 n)
  cases k <;> first | exact this | exact hk.elim
end Go.Proofs.YtaelbgjcoakdlaaGreat
namespace Go.Proofs.YtaelbgjcoakdlaaGreat
open Go.RowKit

/-- A variable that holds a function. -/
def FB (w : World) (b f : Nat) (t : TypeId) : Prop := w.heap[b]? = some (.cells #[.func (.func f) #[] #[]] t (0, 0))
theorem FB.keep {w w' : World} {b f : Nat} {t : TypeId} (h : FB w b f t) (hk : w'.heap[b]? = w.heap[b]?) : FB w' b f t := hk.trans h
theorem FB.lt {w : World} {b f : Nat} {t : TypeId} (h : FB w b f t) : b < w.heap.size := lt_of_heap h
theorem FB.cell {w : World} {b f : Nat} {t : TypeId} (h : FB w b f t) : w.cell? ⟨b, 0, none⟩ = some (.func (.func f) #[] #[]) := blk_cell h 0
def NumV (w : World) (G : Nat → Prop) (k : FK) (c0 c1 : Value) : Prop :=
  ∃ b1 b2 b3, (G b1 ∧ G b2 ∧ G b3) ∧ c0 = .func (.func 87) #[] #[.pointer (some ⟨b1, 0, none⟩), .pointer (some ⟨b3, 0, none⟩)] ∧ c1 = .func (.func 88) #[] #[.pointer (some ⟨b2, 0, none⟩), .pointer (some ⟨b3, 0, none⟩)] ∧
    FB w b1 48 155 ∧ FB w b2 41 156 ∧ FB w b3 k.fn 132
def CountV (w : World) (G : Nat → Prop) (k : FK) (c2 : Value) : Prop :=
  ∃ b, G b ∧ c2 = .func (.func 85) #[] #[.pointer (some ⟨b, 0, none⟩)] ∧ FB w b k.fn 132
def VerbV (w : World) (G : Nat → Prop) (c0 c1 c2 : Value) : Prop :=
  ∃ b1 b2, (G b1 ∧ G b2) ∧ c0 = .func (.func 89) #[] #[.pointer (some ⟨b1, 0, none⟩)] ∧ c1 = .func (.func 90) #[] #[.pointer (some ⟨b1, 0, none⟩)] ∧
    c2 = .func (.func 91) #[] #[.pointer (some ⟨b2, 0, none⟩), .pointer (some ⟨b1, 0, none⟩)] ∧ FB w b1 61 135 ∧ FB w b2 62 136
def CodeV (w : World) (G : Nat → Prop) (c0 c1 c2 : Value) : Prop :=
  ∃ b1 b2, (G b1 ∧ G b2) ∧ c0 = .func (.func 97) #[] #[.pointer (some ⟨b1, 0, none⟩)] ∧ c1 = .func (.func 98) #[] #[.pointer (some ⟨b1, 0, none⟩)] ∧
    c2 = .func (.func 99) #[] #[.pointer (some ⟨b2, 0, none⟩), .pointer (some ⟨b1, 0, none⟩)] ∧ FB w b1 65 139 ∧ FB w b2 66 140
/-- The three functions of a field. -/
def FieldV (w : World) (G : Nat → Prop) (k : FK) (c0 c1 c2 : Value) : Prop := match k with
  | .boot => NumV w G .boot c0 c1 ∧ CountV w G .boot c2
  | .seq => NumV w G .seq c0 c1 ∧ CountV w G .seq c2
  | .id => NumV w G .id c0 c1 ∧ CountV w G .id c2
  | .low => NumV w G .low c0 c1 ∧ c2 = .func (.func 54) #[] #[]
  | .term => NumV w G .term c0 c1 ∧ c2 = .func (.func 69) #[] #[]
  | .verb => VerbV w G c0 c1 c2
  | .code => CodeV w G c0 c1 c2
  | .stamp => c0 = .func (.func 101) #[] #[] ∧ c1 = .func (.func 102) #[] #[] ∧ c2 = .func (.func 103) #[] #[]
  | .bad => c0 = .func (.func 94) #[] #[] ∧ c1 = .func (.func 95) #[] #[] ∧ c2 = .func (.func 96) #[] #[]
section
variable {w w' : World} {G G' : Nat → Prop} {k : FK} {c0 c1 c2 : Value}
theorem NumV.keep (h : NumV w G k c0 c1) (hk : ∀ b, G b → b < w.heap.size → w'.heap[b]? = w.heap[b]?) (hG : ∀ b, G b → b < w.heap.size → G' b) : NumV w' G' k c0 c1 := by
  obtain ⟨b1, b2, b3, ⟨g1, g2, g3⟩, e1, e2, f1, f2, f3⟩ := h
  exact ⟨b1, b2, b3, ⟨hG _ g1 f1.lt, hG _ g2 f2.lt, hG _ g3 f3.lt⟩, e1, e2, f1.keep (hk _ g1 f1.lt), f2.keep (hk _ g2 f2.lt), f3.keep (hk _ g3 f3.lt)⟩
theorem CountV.keep (h : CountV w G k c2) (hk : ∀ b, G b → b < w.heap.size → w'.heap[b]? = w.heap[b]?) (hG : ∀ b, G b → b < w.heap.size → G' b) : CountV w' G' k c2 := by
  obtain ⟨b, g, e, f⟩ := h
  exact ⟨b, hG _ g f.lt, e, f.keep (hk _ g f.lt)⟩
theorem FieldV.keep (h : FieldV w G k c0 c1 c2) (hk : ∀ b, G b → b < w.heap.size → w'.heap[b]? = w.heap[b]?) (hG : ∀ b, G b → b < w.heap.size → G' b) : FieldV w' G' k c0 c1 c2 := by
  cases k
  · exact ⟨h.1.keep hk hG, h.2.keep hk hG⟩
  · exact ⟨h.1.keep hk hG, h.2.keep hk hG⟩
  · exact ⟨h.1.keep hk hG, h.2⟩
  · obtain ⟨b1, b2, ⟨g1, g2⟩, e1, e2, e3, f1, f2⟩ := h
    exact ⟨b1, b2, ⟨hG _ g1 f1.lt, hG _ g2 f2.lt⟩, e1, e2, e3, f1.keep (hk _ g1 f1.lt), f2.keep (hk _ g2 f2.lt)⟩
  · obtain ⟨b1, b2, ⟨g1, g2⟩, e1, e2, e3, f1, f2⟩ := h
    exact ⟨b1, b2, ⟨hG _ g1 f1.lt, hG _ g2 f2.lt⟩, e1, e2, e3, f1.keep (hk _ g1 f1.lt), f2.keep (hk _ g2 f2.lt)⟩
  · exact ⟨h.1.keep hk hG, h.2.keep hk hG⟩
  · exact ⟨h.1.keep hk hG, h.2⟩
  · exact h
  · exact h
theorem FieldV.below (h : FieldV w G k c0 c1 c2) (hb : Below w.heap.size w w') : FieldV w' G k c0 c1 c2 := h.keep (fun b _ hl => hb.block b hl) (fun _ g _ => g)
/-- They are functions. -/
theorem FieldV.form (h : FieldV w G k c0 c1 c2) : ∃ f0 a0 f1 a1 f2 a2, c0 = .func (.func f0) #[] a0 ∧ c1 = .func (.func f1) #[] a1 ∧ c2 = .func (.func f2) #[] a2 := by
  cases k
  · obtain ⟨⟨b1, b2, b3, _, e1, e2, _⟩, ⟨b, _, e3, _⟩⟩ := h; exact ⟨_, _, _, _, _, _, e1, e2, e3⟩
  · obtain ⟨⟨b1, b2, b3, _, e1, e2, _⟩, ⟨b, _, e3, _⟩⟩ := h; exact ⟨_, _, _, _, _, _, e1, e2, e3⟩
  · obtain ⟨⟨b1, b2, b3, _, e1, e2, _⟩, e3⟩ := h; exact ⟨_, _, _, _, _, _, e1, e2, e3⟩
  · obtain ⟨b1, b2, _, e1, e2, e3, _⟩ := h; exact ⟨_, _, _, _, _, _, e1, e2, e3⟩
  · obtain ⟨b1, b2, _, e1, e2, e3, _⟩ := h; exact ⟨_, _, _, _, _, _, e1, e2, e3⟩
  · obtain ⟨⟨b1, b2, b3, _, e1, e2, _⟩, ⟨b, _, e3, _⟩⟩ := h; exact ⟨_, _, _, _, _, _, e1, e2, e3⟩
  · obtain ⟨⟨b1, b2, b3, _, e1, e2, _⟩, e3⟩ := h; exact ⟨_, _, _, _, _, _, e1, e2, e3⟩
  · exact ⟨_, _, _, _, _, _, h.1, h.2.1, h.2.2⟩
  · exact ⟨_, _, _, _, _, _, h.1, h.2.1, h.2.2⟩
end
theorem set3_keep {w : World} {g k : Nat} {a b c : Value} (hk : k ≠ g) : (((w.setCell ⟨g, 0, none⟩ a).setCell ⟨g, 1, none⟩ b).setCell ⟨g, 2, none⟩ c).heap[k]? = w.heap[k]? :=
  (Below.heap_setCell _ _ _ k hk).trans ((Below.heap_setCell _ _ _ k hk).trans (Below.heap_setCell _ _ _ k hk))
theorem set3_self {w : World} {g : Nat} {a b c x y z : Value} {t : TypeId} (h : w.heap[g]? = some (.cells #[x, y, z] t (0, 0))) : (((w.setCell ⟨g, 0, none⟩ a).setCell ⟨g, 1, none⟩ b).setCell ⟨g, 2, none⟩ c).heap[g]? = some (.cells #[a, b, c] t (0, 0)) :=
  blk_set (blk_set (blk_set h 0 a) 1 b) 2 c
theorem set3_below {w0 w : World} {B g : Nat} {a b c : Value} (h : Below B w0 w) (hg : B ≤ g) : Below B w0 (((w.setCell ⟨g, 0, none⟩ a).setCell ⟨g, 1, none⟩ b).setCell ⟨g, 2, none⟩ c) :=
  ((h.setCell hg _).setCell hg _).setCell hg _
/-- What makes a field hands back three functions, new. -/
def NewField (w : World) (k : FK) (e : Ending) (w' : World) : Prop := ∃ c0 c1 c2, e = .returned (.agg #[c0, c1, c2]) ∧ FieldV w' (fun b => w.heap.size ≤ b) k c0 c1 c2 ∧ Below w.heap.size w w'

theorem number_any (k : FK) (f2 : Nat) (a2 : Array Value) (w : World) :
    Calls Tryz.prog 58 #[.func (.func k.fn) #[] #[], .func (.func f2) #[] a2] w fun e w' => ∃ c0 c1, e = .returned (.agg #[c0, c1, .func (.func f2) #[] a2]) ∧ NumV w' (fun b => w.heap.size ≤ b) k c0 c1 ∧ Below w.heap.size w w' := by
  go_enter Tryz.func58, Tryz.ntmps58
  go_wp2_with fail
  refine bodyPost_ret (v := .agg #[.func (.func 87) #[] #[.pointer (some ⟨w.heap.size + 1 + 1, 0, none⟩), .pointer (some ⟨w.heap.size, 0, none⟩)], .func (.func 88) #[] #[.pointer (some ⟨w.heap.size + 1 + 1 + 1, 0, none⟩), .pointer (some ⟨w.heap.size, 0, none⟩)], .func (.func f2) #[] a2]) (by simp [results, Tryz.results58, go_sem]) rfl ⟨_, _, rfl, ⟨w.heap.size + 1 + 1, w.heap.size + 1 + 1 + 1, w.heap.size, ⟨by omega, by omega, Nat.le_refl _⟩, rfl, rfl, ?_, ?_, ?_⟩, ?_⟩
  · exact blk_alloc (heap_at _ _ _ (by simp)) _
  · exact heap_at _ _ _ (by simp)
  · exact blk_alloc (blk_alloc (blk_alloc (heap_at _ _ _ rfl) _) _) _
  · exact ((((Below.refl _ _).alloc (Nat.le_refl _) _).alloc (by simp) _).alloc (by simp; omega) _).alloc (by simp; omega) _
theorem counter_any (k : FK) (w : World) :
    Calls Tryz.prog 55 #[.func (.func k.fn) #[] #[]] w fun e w' => ∃ c0 c1 c2, e = .returned (.agg #[c0, c1, c2]) ∧ NumV w' (fun b => w.heap.size ≤ b) k c0 c1 ∧ CountV w' (fun b => w.heap.size ≤ b) k c2 ∧ Below w.heap.size w w' := by
  go_enter Tryz.func55, Tryz.ntmps55
  go_wp2_with fail
  refine (number_any k _ _ _).mono ?_
  rintro e w1 ⟨c0, c1, rfl, hn, hb⟩
  have hs : w.heap.size + 2 ≤ w1.heap.size := by have := hb.size; simp at this; omega
  have h0 : w1.heap[w.heap.size]? = some (.cells #[.func (.func k.fn) #[] #[]] 132 (0, 0)) := (hb.block _ (by simp; omega)).trans (blk_alloc (heap_at w _ _ rfl) _)
  have h1 : w1.heap[w.heap.size + 1]? = some (.cells #[.nilFunc, .nilFunc, .nilFunc] 116 (0, 0)) := (hb.block _ (by simp)).trans (heap_at _ _ _ (by simp))
  obtain ⟨d0, d1, d2, e0, e1, e2⟩ := blk3 h1
  have hN := Lib.hid hn
  obtain ⟨b1, b2, b3, hg, rfl, rfl, _⟩ := hn
  have H0 := Lib.hid h0
  have HB := Lib.hid hb
  have H1 := Lib.hid h1
  clear h0 hb h1
  go_wp2_with fail
  obtain ⟨z0, z1, z2, -, -, -⟩ := blk3 (set3_self (a := .func (.func 87) #[] #[.pointer (some ⟨b1, 0, none⟩), .pointer (some ⟨b3, 0, none⟩)]) (b := .func (.func 88) #[] #[.pointer (some ⟨b2, 0, none⟩), .pointer (some ⟨b3, 0, none⟩)]) (c := .func (.func 85) #[] #[.pointer (some ⟨w.heap.size, 0, none⟩)]) H1.out)
  refine bodyPost_ret (v := .agg #[.func (.func 87) #[] #[.pointer (some ⟨b1, 0, none⟩), .pointer (some ⟨b3, 0, none⟩)], .func (.func 88) #[] #[.pointer (some ⟨b2, 0, none⟩), .pointer (some ⟨b3, 0, none⟩)], .func (.func 85) #[] #[.pointer (some ⟨w.heap.size, 0, none⟩)]]) (by simp [results, Tryz.results55, go_sem, z0, z1, z2]) rfl ⟨_, _, _, rfl, ?_, ⟨w.heap.size, Nat.le_refl _, rfl, ?_⟩, ?_⟩
  · exact hN.out.keep (fun b hb _ => set3_keep (by simp at hb; omega)) (fun b hb _ => by simp at hb; omega)
  · exact (set3_keep (by omega)).trans H0.out
  · exact set3_below ((((Below.refl _ _).alloc (Nat.le_refl _) _).alloc (by simp) _).trans (HB.out.mono (by simp; omega))) (by omega)
/-- A field of its own kind of numbers. -/
theorem castVerb_any (w : World) : Calls Tryz.prog 60 #[.func (.func 61) #[] #[], .func (.func 62) #[] #[]] w (NewField w .verb) := by
  go_enter Tryz.func60, Tryz.ntmps60
  go_wp2_with fail
  refine bodyPost_ret (v := .agg #[.func (.func 89) #[] #[.pointer (some ⟨w.heap.size, 0, none⟩)], .func (.func 90) #[] #[.pointer (some ⟨w.heap.size, 0, none⟩)], .func (.func 91) #[] #[.pointer (some ⟨w.heap.size + 1, 0, none⟩), .pointer (some ⟨w.heap.size, 0, none⟩)]]) (by simp [results, Tryz.results60, go_sem]) rfl ⟨_, _, _, rfl, ⟨w.heap.size, w.heap.size + 1, ⟨Nat.le_refl _, by omega⟩, rfl, rfl, rfl, ?_, ?_⟩, ?_⟩
  · exact blk_alloc (blk_alloc (heap_at _ _ _ rfl) _) _
  · exact blk_alloc (heap_at _ _ _ (by simp)) _
  · exact (((Below.refl _ _).alloc (Nat.le_refl _) _).alloc (by simp) _).alloc (by simp; omega) _
theorem castCode_any (w : World) : Calls Tryz.prog 64 #[.func (.func 65) #[] #[], .func (.func 66) #[] #[]] w (NewField w .code) := by
  go_enter Tryz.func64, Tryz.ntmps64
  go_wp2_with fail
  refine bodyPost_ret (v := .agg #[.func (.func 97) #[] #[.pointer (some ⟨w.heap.size, 0, none⟩)], .func (.func 98) #[] #[.pointer (some ⟨w.heap.size, 0, none⟩)], .func (.func 99) #[] #[.pointer (some ⟨w.heap.size + 1, 0, none⟩), .pointer (some ⟨w.heap.size, 0, none⟩)]]) (by simp [results, Tryz.results64, go_sem]) rfl ⟨_, _, _, rfl, ⟨w.heap.size, w.heap.size + 1, ⟨Nat.le_refl _, by omega⟩, rfl, rfl, rfl, ?_, ?_⟩, ?_⟩
  · exact blk_alloc (blk_alloc (heap_at _ _ _ rfl) _) _
  · exact blk_alloc (heap_at _ _ _ (by simp)) _
  · exact (((Below.refl _ _).alloc (Nat.le_refl _) _).alloc (by simp) _).alloc (by simp; omega) _
theorem stamp_any (w : World) : Calls Tryz.prog 70 #[] w (NewField w .stamp) := by
  go_enter Tryz.func70, Tryz.ntmps70
  go_wp2_with fail
  refine bodyPost_ret (v := .agg #[.func (.func 101) #[] #[], .func (.func 102) #[] #[], .func (.func 103) #[] #[]]) (by simp [results, Tryz.results70, go_sem]) rfl ⟨_, _, _, rfl, ⟨rfl, rfl, rfl⟩, ?_⟩
  exact (Below.refl _ _).alloc (Nat.le_refl _) _
end Go.Proofs.YtaelbgjcoakdlaaGreat
