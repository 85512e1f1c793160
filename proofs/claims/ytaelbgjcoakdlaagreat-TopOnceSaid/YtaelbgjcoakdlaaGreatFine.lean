/- The fields' tests, where they answer true. (Laid by mkfine.py.) -/
import Derived.Test.YtaelbgjcoakdlaaGreatFieldr
namespace Go.Proofs.YtaelbgjcoakdlaaGreat
open Go.RowKit

def FineOK (k : FK) (m : Ms) : Prop := match k with
  | .boot => 1 ≤ m.boot ∧ m.boot ≤ 1099511627776
  | .seq => 1 ≤ m.seq ∧ m.seq ≤ 1099511627776
  | .id => 1 ≤ m.id ∧ m.id ≤ 1099511627776
  | .low => 1 ≤ m.low ∧ m.low ≤ m.seq
  | .verb => True
  | .code => 0 ≤ m.code ∧ m.code ≤ 99
  | .term => m.term = 0
  | .stamp => True
  | .bad => False
def Yes (w : World) (e : Ending) (w' : World) : Prop := e = .returned (.bool true) ∧ Below w.heap.size w w'
theorem isCounter_any (n : Int) (w : World) (h : 1 ≤ n ∧ n ≤ 1099511627776) : Calls Tryz.prog 86 #[.int .i64 n] w fun e w' => e = .returned (.bool true) ∧ w = w' := by
  obtain ⟨h1, h2⟩ := h
  have d1 : decide (1 ≤ n) = true := decide_eq_true h1
  have d2 : decide (n ≤ 1099511627776) = true := decide_eq_true h2
  go_enter Tryz.func86, Tryz.ntmps86
  go_wp2_with fail
  go_ret
  exact ⟨rfl, rfl⟩
theorem legal0_any (w : World) : Calls Tryz.prog 100 #[.int .i64 0] w fun e w' => e = .returned (.bool false) ∧ w = w' := by
  go_enter Tryz.func100, Tryz.ntmps100
  go_wp2_with fail
  go_ret
  exact ⟨rfl, rfl⟩

theorem fine_boot (pm b : Nat) (m : Ms) (w : World) (hm : MsgAt w pm m) (h : FB w b 56 132) (hf : 1 ≤ m.boot ∧ m.boot ≤ 1099511627776) :
    Calls Tryz.prog 85 #[.pointer (some ⟨pm, 0, none⟩), .pointer (some ⟨b, 0, none⟩)] w (Yes w) := by
  have c1 : w.cell? ⟨b, 0, none⟩ = some (.func (.func 56) #[] #[]) := h.cell
  have cm : w.cell? ⟨pm, 3, none⟩ = some (.int .i64 m.boot) := blk_cell hm 3
  have HF := Lib.hid hf
  clear hm h hf
  go_enter Tryz.func85, Tryz.ntmps85
  go_wp2_with fail
  refine (boot_any pm _).mono ?_
  rintro e w1 ⟨rfl, rfl⟩
  go_wp2_with fail
  refine (isCounter_any m.boot _ HF.out).mono ?_
  rintro e w1 ⟨rfl, rfl⟩
  go_wp2_with fail
  go_ret
  exact ⟨rfl, Below.refl _ _⟩

theorem fine_seq (pm b : Nat) (m : Ms) (w : World) (hm : MsgAt w pm m) (h : FB w b 57 132) (hf : 1 ≤ m.seq ∧ m.seq ≤ 1099511627776) :
    Calls Tryz.prog 85 #[.pointer (some ⟨pm, 0, none⟩), .pointer (some ⟨b, 0, none⟩)] w (Yes w) := by
  have c1 : w.cell? ⟨b, 0, none⟩ = some (.func (.func 57) #[] #[]) := h.cell
  have cm : w.cell? ⟨pm, 4, none⟩ = some (.int .i64 m.seq) := blk_cell hm 4
  have HF := Lib.hid hf
  clear hm h hf
  go_enter Tryz.func85, Tryz.ntmps85
  go_wp2_with fail
  refine (seq_any pm _).mono ?_
  rintro e w1 ⟨rfl, rfl⟩
  go_wp2_with fail
  refine (isCounter_any m.seq _ HF.out).mono ?_
  rintro e w1 ⟨rfl, rfl⟩
  go_wp2_with fail
  go_ret
  exact ⟨rfl, Below.refl _ _⟩

theorem fine_id (pm b : Nat) (m : Ms) (w : World) (hm : MsgAt w pm m) (h : FB w b 67 132) (hf : 1 ≤ m.id ∧ m.id ≤ 1099511627776) :
    Calls Tryz.prog 85 #[.pointer (some ⟨pm, 0, none⟩), .pointer (some ⟨b, 0, none⟩)] w (Yes w) := by
  have c1 : w.cell? ⟨b, 0, none⟩ = some (.func (.func 67) #[] #[]) := h.cell
  have cm : w.cell? ⟨pm, 10, none⟩ = some (.int .i64 m.id) := blk_cell hm 10
  have HF := Lib.hid hf
  clear hm h hf
  go_enter Tryz.func85, Tryz.ntmps85
  go_wp2_with fail
  refine (id_any pm _).mono ?_
  rintro e w1 ⟨rfl, rfl⟩
  go_wp2_with fail
  refine (isCounter_any m.id _ HF.out).mono ?_
  rintro e w1 ⟨rfl, rfl⟩
  go_wp2_with fail
  go_ret
  exact ⟨rfl, Below.refl _ _⟩

theorem fine_low (pm : Nat) (m : Ms) (w : World) (hm : MsgAt w pm m) (hf : 1 ≤ m.low ∧ m.low ≤ m.seq) :
    Calls Tryz.prog 54 #[.pointer (some ⟨pm, 0, none⟩)] w (Yes w) := by
  have c4 : w.cell? ⟨pm, 4, none⟩ = some (.int .i64 m.seq) := blk_cell hm 4
  have c5 : w.cell? ⟨pm, 5, none⟩ = some (.int .i64 m.low) := blk_cell hm 5
  have d1 : decide (1 ≤ m.low) = true := decide_eq_true hf.1
  have d2 : decide (m.low ≤ m.seq) = true := decide_eq_true hf.2
  clear hm hf
  go_enter Tryz.func54, Tryz.ntmps54
  go_wp2_with fail
  go_quiet (fail)
  go_wp2_with fail
  go_ret
  exact ⟨rfl, below_drewN _ _⟩
theorem fine_term (pm : Nat) (m : Ms) (w : World) (hm : MsgAt w pm m) (hf : m.term = 0) :
    Calls Tryz.prog 69 #[.pointer (some ⟨pm, 0, none⟩)] w (Yes w) := by
  have c9 : w.cell? ⟨pm, 9, none⟩ = some (.int .i64 0) := by rw [← hf]; exact blk_cell hm 9
  have c13 : w.cell? ⟨pm, 13, none⟩ = some (.slice none 0 0) := blk_cell hm 13
  clear hm hf
  go_enter Tryz.func69, Tryz.ntmps69
  go_wp2_with fail
  refine (legal0_any _).mono ?_
  rintro e w1 ⟨rfl, rfl⟩
  go_wp2_with fail
  go_ret
  exact ⟨rfl, Below.refl _ _⟩
theorem fverb_any (n : Int) (w : World) : Calls Tryz.prog 62 #[.int .i64 n] w fun e w' => e = .returned (.bool true) ∧ w = w' := by
  go_enter Tryz.func62, Tryz.ntmps62
  go_wp2_with fail
  go_ret
  exact ⟨rfl, rfl⟩
theorem fcode_any (n : Int) (w : World) (h : 0 ≤ n ∧ n ≤ 99) : Calls Tryz.prog 66 #[.int .i64 n] w fun e w' => e = .returned (.bool true) ∧ w = w' := by
  have d1 : decide (0 ≤ n) = true := decide_eq_true h.1
  have d2 : decide (n ≤ 99) = true := decide_eq_true h.2
  clear h
  go_enter Tryz.func66, Tryz.ntmps66
  go_wp2_with fail
  go_ret
  exact ⟨rfl, rfl⟩

theorem fine_verb (pm b1 b2 : Nat) (m : Ms) (w : World) (hm : MsgAt w pm m) (h1 : FB w b1 61 135) (h2 : FB w b2 62 136) (hf : True) :
    Calls Tryz.prog 91 #[.pointer (some ⟨pm, 0, none⟩), .pointer (some ⟨b2, 0, none⟩), .pointer (some ⟨b1, 0, none⟩)] w (Yes w) := by
  have c1 : w.cell? ⟨b1, 0, none⟩ = some (.func (.func 61) #[] #[]) := h1.cell
  have c2 : w.cell? ⟨b2, 0, none⟩ = some (.func (.func 62) #[] #[]) := h2.cell
  have cm : w.cell? ⟨pm, 6, none⟩ = some (.int .i64 m.verb) := blk_cell hm 6
  have HF := Lib.hid hf
  clear hm h1 h2 hf
  go_enter Tryz.func91, Tryz.ntmps91
  go_wp2_with fail
  go_quiet (first | (go_at_call 61; exact (verb_any pm _).mono (fun _ _ h => ⟨h.1, _, h.2.symm⟩)) | (go_at_call 62; exact (fverb_any m.verb _).mono (fun _ _ h => ⟨h.1, _, h.2.symm⟩)))
  go_wp2_with fail
  go_ret
  exact ⟨rfl, below_drewN _ _⟩

theorem fine_code (pm b1 b2 : Nat) (m : Ms) (w : World) (hm : MsgAt w pm m) (h1 : FB w b1 65 139) (h2 : FB w b2 66 140) (hf : 0 ≤ m.code ∧ m.code ≤ 99) :
    Calls Tryz.prog 99 #[.pointer (some ⟨pm, 0, none⟩), .pointer (some ⟨b2, 0, none⟩), .pointer (some ⟨b1, 0, none⟩)] w (Yes w) := by
  have c1 : w.cell? ⟨b1, 0, none⟩ = some (.func (.func 65) #[] #[]) := h1.cell
  have c2 : w.cell? ⟨b2, 0, none⟩ = some (.func (.func 66) #[] #[]) := h2.cell
  have cm : w.cell? ⟨pm, 12, none⟩ = some (.int .i64 m.code) := blk_cell hm 12
  have HF := Lib.hid hf
  clear hm h1 h2 hf
  go_enter Tryz.func99, Tryz.ntmps99
  go_wp2_with fail
  go_quiet (first | (go_at_call 65; exact (code_any pm _).mono (fun _ _ h => ⟨h.1, _, h.2.symm⟩)) | (go_at_call 66; exact (fcode_any m.code _ HF.out).mono (fun _ _ h => ⟨h.1, _, h.2.symm⟩)))
  go_wp2_with fail
  go_ret
  exact ⟨rfl, below_drewN _ _⟩

theorem index0_any (f : Nat) (w : World) : Calls Tryz.prog 141 #[.slice none 0 0, .func (.func f) #[] #[]] w fun e w' => e = .returned (.int .i64 (-1)) ∧ w = w' := by
  go_enter Tryz.func141, Tryz.ntmps141
  go_wp2_with fail
  go_loopw [8] (fun i wt => i = .int .i64 0 ∧ wt = w) (fun _ _ => 0)
  case atStart => exact ⟨rfl, rfl⟩
  case round =>
    obtain ⟨rfl, hwt⟩ := hrel
    subst hwt
    go_wp2_with fail
    go_ret
    exact ⟨rfl, rfl⟩
theorem contains0_any (f : Nat) (w : World) : Calls Tryz.prog 128 #[.slice none 0 0, .func (.func f) #[] #[]] w fun e w' => e = .returned (.bool false) ∧ w = w' := by
  go_enter Tryz.func128, Tryz.ntmps128
  go_wp2_with fail
  refine (index0_any _ _).mono ?_
  rintro e w1 ⟨rfl, rfl⟩
  go_wp2_with fail
  go_ret
  exact ⟨rfl, rfl⟩
theorem valid0_any (w : World) : Calls Tryz.prog 104 #[.slice none 0 0] w fun e w' => e = .returned (.bool true) ∧ w = w' := by
  go_enter Tryz.func104, Tryz.ntmps104
  go_wp2_with fail
  refine (contains0_any _ _).mono ?_
  rintro e w1 ⟨rfl, rfl⟩
  go_wp2_with fail
  go_ret
  exact ⟨rfl, rfl⟩
theorem fine_stamp (pm : Nat) (m : Ms) (w : World) (hm : MsgAt w pm m) :
    Calls Tryz.prog 103 #[.pointer (some ⟨pm, 0, none⟩)] w (Yes w) := by
  have c13 : w.cell? ⟨pm, 13, none⟩ = some (.slice none 0 0) := blk_cell hm 13
  clear hm
  go_enter Tryz.func103, Tryz.ntmps103
  go_wp2_with fail
  refine (valid0_any _).mono ?_
  rintro e w1 ⟨rfl, rfl⟩
  go_wp2_with fail
  go_ret
  exact ⟨rfl, Below.refl _ _⟩
end Go.Proofs.YtaelbgjcoakdlaaGreat
