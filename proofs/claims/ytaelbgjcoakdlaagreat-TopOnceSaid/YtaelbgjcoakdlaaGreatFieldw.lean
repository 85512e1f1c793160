/- The fields' closures: what they write, what they read. (Laid by mkfieldw.py.) -/
import Derived.Test.YtaelbgjcoakdlaaGreatFieldM
namespace Go.Proofs.YtaelbgjcoakdlaaGreat
open Go.RowKit

theorem wr_drew {G : Nat → Prop} {w : World} {p : Nat} {l : List UInt8} (h : WrAt G w p l) : WrAt G w.drew p l := h.below (below_drew w)
theorem rd_drew {G : Nat → Prop} {w : World} {p : Nat} {r : Rd} (h : RdAt G w p r) : RdAt G w.drew p r := h.below (below_drew w)
/-- What writing a field does. -/
def Wrote (G : Nat → Prop) (pw : Nat) (l : List UInt8) (n : Int) (w : World) (e : Ending) (w' : World) : Prop := e = .returned (.tuple #[]) ∧ WrAt (Up G w) w' pw (l ++ enc n.toNat) ∧ Mod G w w'
theorem Wrote.drew {G : Nat → Prop} {pw : Nat} {l : List UInt8} {n : Int} {w : World} {e : Ending} {w' : World} (h : Wrote G pw l n w.drew e w') : Wrote G pw l n w e w' := ⟨h.1, h.2.1, ⟨h.2.2.os, h.2.2.tape, h.2.2.output, h.2.2.size, h.2.2.block⟩⟩

theorem write_boot (G : Nat → Prop) (pw pm b1 b3 : Nat) (l : List UInt8) (m : Ms) (w : World) (hw : WrAt G w pw l) (hm : MsgAt w pm m) (h1 : FB w b1 48 155) (h3 : FB w b3 56 132) (hn : m.boot ≤ 9223372036854775807) (hl : l.length + 9 ≤ 140737488355328) (hg1 : ¬ G b1) (hg3 : ¬ G b3) (hgm : ¬ G pm) :
    Calls Tryz.prog 87 #[.pointer (some ⟨pw, 0, none⟩), .pointer (some ⟨pm, 0, none⟩), .pointer (some ⟨b1, 0, none⟩), .pointer (some ⟨b3, 0, none⟩)] w (Wrote G pw l m.boot w) := by
  have c1 : w.drew.cell? ⟨b1, 0, none⟩ = some (.func (.func 48) #[] #[]) := h1.cell
  have c3 : w.drew.cell? ⟨b3, 0, none⟩ = some (.func (.func 56) #[] #[]) := h3.cell
  have cm : w.drew.cell? ⟨pm, 3, none⟩ = some (.int .i64 m.boot) := blk_cell hm 3
  have HW := Lib.hid (wr_drew hw)
  have H1 := Lib.hid h1
  have H3 := Lib.hid h3
  have HM := Lib.hid hm
  clear hw hm h1 h3
  go_enter Tryz.func87, Tryz.ntmps87
  go_wp2_with fail
  go_region_held_law (fun u => u.cell? ⟨b1, 0, none⟩ = some (.func (.func 48) #[] #[]) ∧ u.cell? ⟨b3, 0, none⟩ = some (.func (.func 56) #[] #[]) ∧ u.cell? ⟨pm, 3, none⟩ = some (.int .i64 m.boot)) (first | exact ⟨by assumption, by assumption, by assumption⟩ | go_keep) (first
    | (go_at_call 56; (refine (boot_any pm _).mono ?_); rintro e w1 ⟨rfl, rfl⟩)
    | (go_at_call 48; (refine (wnum_any G pw l m.boot _ HW.out hn hl).mono ?_); rintro e w2 ⟨rfl, h2, hm2⟩; have d1 := (hm2.block b1 (lt_of_heap H1.out) hg1).trans H1.out; have d3 := (hm2.block b3 (lt_of_heap H3.out) hg3).trans H3.out; have dm := (hm2.block pm (lt_of_heap HM.out) hgm).trans HM.out; have e1 := blk_cell d1 0; have e3 := blk_cell d3 0; have em := blk_cell dm 3; clear d1 d3 dm))
  all_goals
    go_wp2_with fail
    go_end0
    exact Wrote.drew ⟨rfl, h2, hm2⟩

theorem write_seq (G : Nat → Prop) (pw pm b1 b3 : Nat) (l : List UInt8) (m : Ms) (w : World) (hw : WrAt G w pw l) (hm : MsgAt w pm m) (h1 : FB w b1 48 155) (h3 : FB w b3 57 132) (hn : m.seq ≤ 9223372036854775807) (hl : l.length + 9 ≤ 140737488355328) (hg1 : ¬ G b1) (hg3 : ¬ G b3) (hgm : ¬ G pm) :
    Calls Tryz.prog 87 #[.pointer (some ⟨pw, 0, none⟩), .pointer (some ⟨pm, 0, none⟩), .pointer (some ⟨b1, 0, none⟩), .pointer (some ⟨b3, 0, none⟩)] w (Wrote G pw l m.seq w) := by
  have c1 : w.drew.cell? ⟨b1, 0, none⟩ = some (.func (.func 48) #[] #[]) := h1.cell
  have c3 : w.drew.cell? ⟨b3, 0, none⟩ = some (.func (.func 57) #[] #[]) := h3.cell
  have cm : w.drew.cell? ⟨pm, 4, none⟩ = some (.int .i64 m.seq) := blk_cell hm 4
  have HW := Lib.hid (wr_drew hw)
  have H1 := Lib.hid h1
  have H3 := Lib.hid h3
  have HM := Lib.hid hm
  clear hw hm h1 h3
  go_enter Tryz.func87, Tryz.ntmps87
  go_wp2_with fail
  go_region_held_law (fun u => u.cell? ⟨b1, 0, none⟩ = some (.func (.func 48) #[] #[]) ∧ u.cell? ⟨b3, 0, none⟩ = some (.func (.func 57) #[] #[]) ∧ u.cell? ⟨pm, 4, none⟩ = some (.int .i64 m.seq)) (first | exact ⟨by assumption, by assumption, by assumption⟩ | go_keep) (first
    | (go_at_call 57; (refine (seq_any pm _).mono ?_); rintro e w1 ⟨rfl, rfl⟩)
    | (go_at_call 48; (refine (wnum_any G pw l m.seq _ HW.out hn hl).mono ?_); rintro e w2 ⟨rfl, h2, hm2⟩; have d1 := (hm2.block b1 (lt_of_heap H1.out) hg1).trans H1.out; have d3 := (hm2.block b3 (lt_of_heap H3.out) hg3).trans H3.out; have dm := (hm2.block pm (lt_of_heap HM.out) hgm).trans HM.out; have e1 := blk_cell d1 0; have e3 := blk_cell d3 0; have em := blk_cell dm 4; clear d1 d3 dm))
  all_goals
    go_wp2_with fail
    go_end0
    exact Wrote.drew ⟨rfl, h2, hm2⟩

theorem write_low (G : Nat → Prop) (pw pm b1 b3 : Nat) (l : List UInt8) (m : Ms) (w : World) (hw : WrAt G w pw l) (hm : MsgAt w pm m) (h1 : FB w b1 48 155) (h3 : FB w b3 59 132) (hn : m.low ≤ 9223372036854775807) (hl : l.length + 9 ≤ 140737488355328) (hg1 : ¬ G b1) (hg3 : ¬ G b3) (hgm : ¬ G pm) :
    Calls Tryz.prog 87 #[.pointer (some ⟨pw, 0, none⟩), .pointer (some ⟨pm, 0, none⟩), .pointer (some ⟨b1, 0, none⟩), .pointer (some ⟨b3, 0, none⟩)] w (Wrote G pw l m.low w) := by
  have c1 : w.drew.cell? ⟨b1, 0, none⟩ = some (.func (.func 48) #[] #[]) := h1.cell
  have c3 : w.drew.cell? ⟨b3, 0, none⟩ = some (.func (.func 59) #[] #[]) := h3.cell
  have cm : w.drew.cell? ⟨pm, 5, none⟩ = some (.int .i64 m.low) := blk_cell hm 5
  have HW := Lib.hid (wr_drew hw)
  have H1 := Lib.hid h1
  have H3 := Lib.hid h3
  have HM := Lib.hid hm
  clear hw hm h1 h3
  go_enter Tryz.func87, Tryz.ntmps87
  go_wp2_with fail
  go_region_held_law (fun u => u.cell? ⟨b1, 0, none⟩ = some (.func (.func 48) #[] #[]) ∧ u.cell? ⟨b3, 0, none⟩ = some (.func (.func 59) #[] #[]) ∧ u.cell? ⟨pm, 5, none⟩ = some (.int .i64 m.low)) (first | exact ⟨by assumption, by assumption, by assumption⟩ | go_keep) (first
    | (go_at_call 59; (refine (low_any pm _).mono ?_); rintro e w1 ⟨rfl, rfl⟩)
    | (go_at_call 48; (refine (wnum_any G pw l m.low _ HW.out hn hl).mono ?_); rintro e w2 ⟨rfl, h2, hm2⟩; have d1 := (hm2.block b1 (lt_of_heap H1.out) hg1).trans H1.out; have d3 := (hm2.block b3 (lt_of_heap H3.out) hg3).trans H3.out; have dm := (hm2.block pm (lt_of_heap HM.out) hgm).trans HM.out; have e1 := blk_cell d1 0; have e3 := blk_cell d3 0; have em := blk_cell dm 5; clear d1 d3 dm))
  all_goals
    go_wp2_with fail
    go_end0
    exact Wrote.drew ⟨rfl, h2, hm2⟩

theorem write_id (G : Nat → Prop) (pw pm b1 b3 : Nat) (l : List UInt8) (m : Ms) (w : World) (hw : WrAt G w pw l) (hm : MsgAt w pm m) (h1 : FB w b1 48 155) (h3 : FB w b3 67 132) (hn : m.id ≤ 9223372036854775807) (hl : l.length + 9 ≤ 140737488355328) (hg1 : ¬ G b1) (hg3 : ¬ G b3) (hgm : ¬ G pm) :
    Calls Tryz.prog 87 #[.pointer (some ⟨pw, 0, none⟩), .pointer (some ⟨pm, 0, none⟩), .pointer (some ⟨b1, 0, none⟩), .pointer (some ⟨b3, 0, none⟩)] w (Wrote G pw l m.id w) := by
  have c1 : w.drew.cell? ⟨b1, 0, none⟩ = some (.func (.func 48) #[] #[]) := h1.cell
  have c3 : w.drew.cell? ⟨b3, 0, none⟩ = some (.func (.func 67) #[] #[]) := h3.cell
  have cm : w.drew.cell? ⟨pm, 10, none⟩ = some (.int .i64 m.id) := blk_cell hm 10
  have HW := Lib.hid (wr_drew hw)
  have H1 := Lib.hid h1
  have H3 := Lib.hid h3
  have HM := Lib.hid hm
  clear hw hm h1 h3
  go_enter Tryz.func87, Tryz.ntmps87
  go_wp2_with fail
  go_region_held_law (fun u => u.cell? ⟨b1, 0, none⟩ = some (.func (.func 48) #[] #[]) ∧ u.cell? ⟨b3, 0, none⟩ = some (.func (.func 67) #[] #[]) ∧ u.cell? ⟨pm, 10, none⟩ = some (.int .i64 m.id)) (first | exact ⟨by assumption, by assumption, by assumption⟩ | go_keep) (first
    | (go_at_call 67; (refine (id_any pm _).mono ?_); rintro e w1 ⟨rfl, rfl⟩)
    | (go_at_call 48; (refine (wnum_any G pw l m.id _ HW.out hn hl).mono ?_); rintro e w2 ⟨rfl, h2, hm2⟩; have d1 := (hm2.block b1 (lt_of_heap H1.out) hg1).trans H1.out; have d3 := (hm2.block b3 (lt_of_heap H3.out) hg3).trans H3.out; have dm := (hm2.block pm (lt_of_heap HM.out) hgm).trans HM.out; have e1 := blk_cell d1 0; have e3 := blk_cell d3 0; have em := blk_cell dm 10; clear d1 d3 dm))
  all_goals
    go_wp2_with fail
    go_end0
    exact Wrote.drew ⟨rfl, h2, hm2⟩

theorem write_term (G : Nat → Prop) (pw pm b1 b3 : Nat) (l : List UInt8) (m : Ms) (w : World) (hw : WrAt G w pw l) (hm : MsgAt w pm m) (h1 : FB w b1 48 155) (h3 : FB w b3 68 132) (hn : m.term ≤ 9223372036854775807) (hl : l.length + 9 ≤ 140737488355328) (hg1 : ¬ G b1) (hg3 : ¬ G b3) (hgm : ¬ G pm) :
    Calls Tryz.prog 87 #[.pointer (some ⟨pw, 0, none⟩), .pointer (some ⟨pm, 0, none⟩), .pointer (some ⟨b1, 0, none⟩), .pointer (some ⟨b3, 0, none⟩)] w (Wrote G pw l m.term w) := by
  have c1 : w.drew.cell? ⟨b1, 0, none⟩ = some (.func (.func 48) #[] #[]) := h1.cell
  have c3 : w.drew.cell? ⟨b3, 0, none⟩ = some (.func (.func 68) #[] #[]) := h3.cell
  have cm : w.drew.cell? ⟨pm, 9, none⟩ = some (.int .i64 m.term) := blk_cell hm 9
  have HW := Lib.hid (wr_drew hw)
  have H1 := Lib.hid h1
  have H3 := Lib.hid h3
  have HM := Lib.hid hm
  clear hw hm h1 h3
  go_enter Tryz.func87, Tryz.ntmps87
  go_wp2_with fail
  go_region_held_law (fun u => u.cell? ⟨b1, 0, none⟩ = some (.func (.func 48) #[] #[]) ∧ u.cell? ⟨b3, 0, none⟩ = some (.func (.func 68) #[] #[]) ∧ u.cell? ⟨pm, 9, none⟩ = some (.int .i64 m.term)) (first | exact ⟨by assumption, by assumption, by assumption⟩ | go_keep) (first
    | (go_at_call 68; (refine (term_any pm _).mono ?_); rintro e w1 ⟨rfl, rfl⟩)
    | (go_at_call 48; (refine (wnum_any G pw l m.term _ HW.out hn hl).mono ?_); rintro e w2 ⟨rfl, h2, hm2⟩; have d1 := (hm2.block b1 (lt_of_heap H1.out) hg1).trans H1.out; have d3 := (hm2.block b3 (lt_of_heap H3.out) hg3).trans H3.out; have dm := (hm2.block pm (lt_of_heap HM.out) hgm).trans HM.out; have e1 := blk_cell d1 0; have e3 := blk_cell d3 0; have em := blk_cell dm 9; clear d1 d3 dm))
  all_goals
    go_wp2_with fail
    go_end0
    exact Wrote.drew ⟨rfl, h2, hm2⟩

theorem write_verb (G : Nat → Prop) (pw pm b1 : Nat) (l : List UInt8) (m : Ms) (w : World) (hw : WrAt G w pw l) (hm : MsgAt w pm m) (h1 : FB w b1 61 135) (hn : m.verb ≤ 9223372036854775807) (hl : l.length + 9 ≤ 140737488355328) :
    Calls Tryz.prog 89 #[.pointer (some ⟨pw, 0, none⟩), .pointer (some ⟨pm, 0, none⟩), .pointer (some ⟨b1, 0, none⟩)] w (Wrote G pw l m.verb w) := by
  have c1 : w.cell? ⟨b1, 0, none⟩ = some (.func (.func 61) #[] #[]) := h1.cell
  have cm : w.cell? ⟨pm, 6, none⟩ = some (.int .i64 m.verb) := blk_cell hm 6
  have HW := Lib.hid hw
  clear hw hm h1
  go_enter Tryz.func89, Tryz.ntmps89
  go_wp2_with fail
  refine (verb_any pm _).mono ?_
  rintro e w1 ⟨rfl, rfl⟩
  go_wp2_with fail
  refine (wnum_any G pw l m.verb _ HW.out hn hl).mono ?_
  rintro e w2 ⟨rfl, h2, hm2⟩
  go_wp2_with fail
  go_end0
  exact ⟨rfl, h2, hm2⟩

theorem write_code (G : Nat → Prop) (pw pm b1 : Nat) (l : List UInt8) (m : Ms) (w : World) (hw : WrAt G w pw l) (hm : MsgAt w pm m) (h1 : FB w b1 65 139) (hn : m.code ≤ 9223372036854775807) (hl : l.length + 9 ≤ 140737488355328) :
    Calls Tryz.prog 97 #[.pointer (some ⟨pw, 0, none⟩), .pointer (some ⟨pm, 0, none⟩), .pointer (some ⟨b1, 0, none⟩)] w (Wrote G pw l m.code w) := by
  have c1 : w.cell? ⟨b1, 0, none⟩ = some (.func (.func 65) #[] #[]) := h1.cell
  have cm : w.cell? ⟨pm, 12, none⟩ = some (.int .i64 m.code) := blk_cell hm 12
  have HW := Lib.hid hw
  clear hw hm h1
  go_enter Tryz.func97, Tryz.ntmps97
  go_wp2_with fail
  refine (code_any pm _).mono ?_
  rintro e w1 ⟨rfl, rfl⟩
  go_wp2_with fail
  refine (wnum_any G pw l m.code _ HW.out hn hl).mono ?_
  rintro e w2 ⟨rfl, h2, hm2⟩
  go_wp2_with fail
  go_end0
  exact ⟨rfl, h2, hm2⟩

theorem write_stamp (G : Nat → Prop) (pw pm : Nat) (l : List UInt8) (m : Ms) (w : World) (hw : WrAt G w pw l) (hm : MsgAt w pm m) (hl : l.length + 9 ≤ 140737488355328) (hgm : ¬ G pm) :
    Calls Tryz.prog 101 #[.pointer (some ⟨pw, 0, none⟩), .pointer (some ⟨pm, 0, none⟩)] w (Wrote G pw l 0 w) := by
  have cm : w.cell? ⟨pm, 13, none⟩ = some (.slice none 0 0) := blk_cell hm 13
  have HW := Lib.hid hw
  have HM := Lib.hid hm
  clear hw hm
  go_enter Tryz.func101, Tryz.ntmps101
  go_wp2_with fail
  refine (wnum_any G pw l 0 _ HW.out (by omega) hl).mono ?_
  rintro e w2 ⟨rfl, h2, hm2⟩
  have em := blk_cell ((hm2.block pm (lt_of_heap HM.out) hgm).trans HM.out) 13
  replace em : w2.cell? ⟨pm, 13, none⟩ = some (.slice none 0 0) := em
  go_wp2_with fail
  go_loopw [18] (fun i wt => i = .int .i64 0 ∧ wt = w2) (fun _ _ => 0)
  case atStart => exact ⟨rfl, rfl⟩
  case round =>
    obtain ⟨rfl, hwt⟩ := hrel
    subst hwt
    go_wp2_with fail
    go_end0
    exact ⟨rfl, h2, hm2⟩
end Go.Proofs.YtaelbgjcoakdlaaGreat
