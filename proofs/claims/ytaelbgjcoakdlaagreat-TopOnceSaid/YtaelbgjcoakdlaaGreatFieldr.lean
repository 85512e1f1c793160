/- The fields' closures: what they read. (Laid by mkfieldr.py.) -/
import Derived.Test.YtaelbgjcoakdlaaGreatFieldw
namespace Go.Proofs.YtaelbgjcoakdlaaGreat
open Go.RowKit

/-- What reading a field does. -/
def ReadF (G : Nat → Prop) (k : FK) (pr pm : Nat) (r : Rd) (m : Ms) (w : World) (e : Ending) (w' : World) : Prop := e = .returned (.tuple #[]) ∧ RdAt G w' pr r.numR ∧ MsgAt w' pm (k.put m r.num) ∧ Mod (fun b => G b ∨ b = pm) w w'
theorem ReadF.drew {G : Nat → Prop} {k : FK} {pr pm : Nat} {r : Rd} {m : Ms} {w : World} {e : Ending} {w' : World} (h : ReadF G k pr pm r m w.drew e w') : ReadF G k pr pm r m w e w' := ⟨h.1, h.2.1, h.2.2.1, ⟨h.2.2.2.os, h.2.2.2.tape, h.2.2.2.output, h.2.2.2.size, h.2.2.2.block⟩⟩
theorem read_done {G : Nat → Prop} {k : FK} (hk : k.num) {pr pm : Nat} {r : Rd} {m : Ms} {w w2 : World} (hr : RdAt G w2 pr r.numR) (hm2 : Mod G w w2) (hm : MsgAt w pm m) (hgm : ¬ G pm) : ReadF G k pr pm r m w (.returned (.tuple #[])) (w2.setCell ⟨pm, k.at, none⟩ (.int .i64 r.num)) := by
  have hm3 : MsgAt w2 pm m := hm.keep (hm2.block pm hm.lt hgm)
  refine ⟨rfl, hr.keep (fun b _ hb => Below.heap_setCell _ _ _ b (fun e => hgm (by have e : b = pm := e; rw [← e]; exact hb))) (by simp [World.setCell]), k.store hk hm3 r.num, Mod.setCell (F := fun b => G b ∨ b = pm) (p := ⟨pm, k.at, none⟩) (hm2.mono (fun _ _ h => Or.inl h)) (fun _ => Or.inr rfl) _⟩

theorem read_boot (G : Nat → Prop) (pr pm b2 b3 : Nat) (r : Rd) (m : Ms) (w : World) (hr : RdAt G w pr r) (hm : MsgAt w pm m) (h2 : FB w b2 41 156) (h3 : FB w b3 56 132) (hg2 : ¬ G b2) (hg3 : ¬ G b3) (hgm : ¬ G pm) :
    Calls Tryz.prog 88 #[.pointer (some ⟨pr, 0, none⟩), .pointer (some ⟨pm, 0, none⟩), .pointer (some ⟨b2, 0, none⟩), .pointer (some ⟨b3, 0, none⟩)] w (ReadF G .boot pr pm r m w) := by
  have c2 : w.drew.cell? ⟨b2, 0, none⟩ = some (.func (.func 41) #[] #[]) := h2.cell
  have c3 : w.drew.cell? ⟨b3, 0, none⟩ = some (.func (.func 56) #[] #[]) := h3.cell
  have cm : w.drew.cell? ⟨pm, 3, none⟩ = some (.int .i64 m.boot) := blk_cell hm 3
  have fm : w.drew.frozen? ⟨pm, 3, none⟩ = false := blk_free hm 3
  have n2 : b2 ≠ pm := fun e => by subst e; have := h2.symm.trans hm; simp at this
  have n3 : b3 ≠ pm := fun e => by subst e; have := h3.symm.trans hm; simp at this
  have HR := Lib.hid (rd_drew hr)
  have H2 := Lib.hid h2
  have H3 := Lib.hid h3
  have HM := Lib.hid hm
  clear hr hm h2 h3
  go_enter Tryz.func88, Tryz.ntmps88
  go_wp2_with fail
  go_region_held_law (fun u => u.cell? ⟨b2, 0, none⟩ = some (.func (.func 41) #[] #[]) ∧ u.cell? ⟨b3, 0, none⟩ = some (.func (.func 56) #[] #[])) (first | exact ⟨by assumption, by assumption⟩ | exact ⟨(World.cell?_of_block (Below.heap_setCell _ _ _ b2 n2)).trans (by assumption), (World.cell?_of_block (Below.heap_setCell _ _ _ b3 n3)).trans (by assumption)⟩ | go_keep) (first
    | (go_at_call 56; (refine (boot_any pm _).mono ?_); rintro e w1 ⟨rfl, rfl⟩)
    | (go_at_call 41; (refine (rnum_any G pr r _ HR.out).mono ?_); rintro e w2 ⟨rfl, hr2, hm2⟩; have d2 := (hm2.block b2 (lt_of_heap H2.out) hg2).trans H2.out; have d3 := (hm2.block b3 (lt_of_heap H3.out) hg3).trans H3.out; have dm := (hm2.block pm (lt_of_heap HM.out) hgm).trans HM.out; have e2 := blk_cell d2 0; have e3 := blk_cell d3 0; have em := blk_cell dm 3; have fm2 := blk_free dm 3; clear d2 d3 dm))
  all_goals
    go_wp2_with fail
    go_end0
    exact ReadF.drew (read_done (k := .boot) trivial hr2 hm2 HM.out hgm)

theorem read_seq (G : Nat → Prop) (pr pm b2 b3 : Nat) (r : Rd) (m : Ms) (w : World) (hr : RdAt G w pr r) (hm : MsgAt w pm m) (h2 : FB w b2 41 156) (h3 : FB w b3 57 132) (hg2 : ¬ G b2) (hg3 : ¬ G b3) (hgm : ¬ G pm) :
    Calls Tryz.prog 88 #[.pointer (some ⟨pr, 0, none⟩), .pointer (some ⟨pm, 0, none⟩), .pointer (some ⟨b2, 0, none⟩), .pointer (some ⟨b3, 0, none⟩)] w (ReadF G .seq pr pm r m w) := by
  have c2 : w.drew.cell? ⟨b2, 0, none⟩ = some (.func (.func 41) #[] #[]) := h2.cell
  have c3 : w.drew.cell? ⟨b3, 0, none⟩ = some (.func (.func 57) #[] #[]) := h3.cell
  have cm : w.drew.cell? ⟨pm, 4, none⟩ = some (.int .i64 m.seq) := blk_cell hm 4
  have fm : w.drew.frozen? ⟨pm, 4, none⟩ = false := blk_free hm 4
  have n2 : b2 ≠ pm := fun e => by subst e; have := h2.symm.trans hm; simp at this
  have n3 : b3 ≠ pm := fun e => by subst e; have := h3.symm.trans hm; simp at this
  have HR := Lib.hid (rd_drew hr)
  have H2 := Lib.hid h2
  have H3 := Lib.hid h3
  have HM := Lib.hid hm
  clear hr hm h2 h3
  go_enter Tryz.func88, Tryz.ntmps88
  go_wp2_with fail
  go_region_held_law (fun u => u.cell? ⟨b2, 0, none⟩ = some (.func (.func 41) #[] #[]) ∧ u.cell? ⟨b3, 0, none⟩ = some (.func (.func 57) #[] #[])) (first | exact ⟨by assumption, by assumption⟩ | exact ⟨(World.cell?_of_block (Below.heap_setCell _ _ _ b2 n2)).trans (by assumption), (World.cell?_of_block (Below.heap_setCell _ _ _ b3 n3)).trans (by assumption)⟩ | go_keep) (first
    | (go_at_call 57; (refine (seq_any pm _).mono ?_); rintro e w1 ⟨rfl, rfl⟩)
    | (go_at_call 41; (refine (rnum_any G pr r _ HR.out).mono ?_); rintro e w2 ⟨rfl, hr2, hm2⟩; have d2 := (hm2.block b2 (lt_of_heap H2.out) hg2).trans H2.out; have d3 := (hm2.block b3 (lt_of_heap H3.out) hg3).trans H3.out; have dm := (hm2.block pm (lt_of_heap HM.out) hgm).trans HM.out; have e2 := blk_cell d2 0; have e3 := blk_cell d3 0; have em := blk_cell dm 4; have fm2 := blk_free dm 4; clear d2 d3 dm))
  all_goals
    go_wp2_with fail
    go_end0
    exact ReadF.drew (read_done (k := .seq) trivial hr2 hm2 HM.out hgm)

theorem read_low (G : Nat → Prop) (pr pm b2 b3 : Nat) (r : Rd) (m : Ms) (w : World) (hr : RdAt G w pr r) (hm : MsgAt w pm m) (h2 : FB w b2 41 156) (h3 : FB w b3 59 132) (hg2 : ¬ G b2) (hg3 : ¬ G b3) (hgm : ¬ G pm) :
    Calls Tryz.prog 88 #[.pointer (some ⟨pr, 0, none⟩), .pointer (some ⟨pm, 0, none⟩), .pointer (some ⟨b2, 0, none⟩), .pointer (some ⟨b3, 0, none⟩)] w (ReadF G .low pr pm r m w) := by
  have c2 : w.drew.cell? ⟨b2, 0, none⟩ = some (.func (.func 41) #[] #[]) := h2.cell
  have c3 : w.drew.cell? ⟨b3, 0, none⟩ = some (.func (.func 59) #[] #[]) := h3.cell
  have cm : w.drew.cell? ⟨pm, 5, none⟩ = some (.int .i64 m.low) := blk_cell hm 5
  have fm : w.drew.frozen? ⟨pm, 5, none⟩ = false := blk_free hm 5
  have n2 : b2 ≠ pm := fun e => by subst e; have := h2.symm.trans hm; simp at this
  have n3 : b3 ≠ pm := fun e => by subst e; have := h3.symm.trans hm; simp at this
  have HR := Lib.hid (rd_drew hr)
  have H2 := Lib.hid h2
  have H3 := Lib.hid h3
  have HM := Lib.hid hm
  clear hr hm h2 h3
  go_enter Tryz.func88, Tryz.ntmps88
  go_wp2_with fail
  go_region_held_law (fun u => u.cell? ⟨b2, 0, none⟩ = some (.func (.func 41) #[] #[]) ∧ u.cell? ⟨b3, 0, none⟩ = some (.func (.func 59) #[] #[])) (first | exact ⟨by assumption, by assumption⟩ | exact ⟨(World.cell?_of_block (Below.heap_setCell _ _ _ b2 n2)).trans (by assumption), (World.cell?_of_block (Below.heap_setCell _ _ _ b3 n3)).trans (by assumption)⟩ | go_keep) (first
    | (go_at_call 59; (refine (low_any pm _).mono ?_); rintro e w1 ⟨rfl, rfl⟩)
    | (go_at_call 41; (refine (rnum_any G pr r _ HR.out).mono ?_); rintro e w2 ⟨rfl, hr2, hm2⟩; have d2 := (hm2.block b2 (lt_of_heap H2.out) hg2).trans H2.out; have d3 := (hm2.block b3 (lt_of_heap H3.out) hg3).trans H3.out; have dm := (hm2.block pm (lt_of_heap HM.out) hgm).trans HM.out; have e2 := blk_cell d2 0; have e3 := blk_cell d3 0; have em := blk_cell dm 5; have fm2 := blk_free dm 5; clear d2 d3 dm))
  all_goals
    go_wp2_with fail
    go_end0
    exact ReadF.drew (read_done (k := .low) trivial hr2 hm2 HM.out hgm)

theorem read_id (G : Nat → Prop) (pr pm b2 b3 : Nat) (r : Rd) (m : Ms) (w : World) (hr : RdAt G w pr r) (hm : MsgAt w pm m) (h2 : FB w b2 41 156) (h3 : FB w b3 67 132) (hg2 : ¬ G b2) (hg3 : ¬ G b3) (hgm : ¬ G pm) :
    Calls Tryz.prog 88 #[.pointer (some ⟨pr, 0, none⟩), .pointer (some ⟨pm, 0, none⟩), .pointer (some ⟨b2, 0, none⟩), .pointer (some ⟨b3, 0, none⟩)] w (ReadF G .id pr pm r m w) := by
  have c2 : w.drew.cell? ⟨b2, 0, none⟩ = some (.func (.func 41) #[] #[]) := h2.cell
  have c3 : w.drew.cell? ⟨b3, 0, none⟩ = some (.func (.func 67) #[] #[]) := h3.cell
  have cm : w.drew.cell? ⟨pm, 10, none⟩ = some (.int .i64 m.id) := blk_cell hm 10
  have fm : w.drew.frozen? ⟨pm, 10, none⟩ = false := blk_free hm 10
  have n2 : b2 ≠ pm := fun e => by subst e; have := h2.symm.trans hm; simp at this
  have n3 : b3 ≠ pm := fun e => by subst e; have := h3.symm.trans hm; simp at this
  have HR := Lib.hid (rd_drew hr)
  have H2 := Lib.hid h2
  have H3 := Lib.hid h3
  have HM := Lib.hid hm
  clear hr hm h2 h3
  go_enter Tryz.func88, Tryz.ntmps88
  go_wp2_with fail
  go_region_held_law (fun u => u.cell? ⟨b2, 0, none⟩ = some (.func (.func 41) #[] #[]) ∧ u.cell? ⟨b3, 0, none⟩ = some (.func (.func 67) #[] #[])) (first | exact ⟨by assumption, by assumption⟩ | exact ⟨(World.cell?_of_block (Below.heap_setCell _ _ _ b2 n2)).trans (by assumption), (World.cell?_of_block (Below.heap_setCell _ _ _ b3 n3)).trans (by assumption)⟩ | go_keep) (first
    | (go_at_call 67; (refine (id_any pm _).mono ?_); rintro e w1 ⟨rfl, rfl⟩)
    | (go_at_call 41; (refine (rnum_any G pr r _ HR.out).mono ?_); rintro e w2 ⟨rfl, hr2, hm2⟩; have d2 := (hm2.block b2 (lt_of_heap H2.out) hg2).trans H2.out; have d3 := (hm2.block b3 (lt_of_heap H3.out) hg3).trans H3.out; have dm := (hm2.block pm (lt_of_heap HM.out) hgm).trans HM.out; have e2 := blk_cell d2 0; have e3 := blk_cell d3 0; have em := blk_cell dm 10; have fm2 := blk_free dm 10; clear d2 d3 dm))
  all_goals
    go_wp2_with fail
    go_end0
    exact ReadF.drew (read_done (k := .id) trivial hr2 hm2 HM.out hgm)

theorem read_term (G : Nat → Prop) (pr pm b2 b3 : Nat) (r : Rd) (m : Ms) (w : World) (hr : RdAt G w pr r) (hm : MsgAt w pm m) (h2 : FB w b2 41 156) (h3 : FB w b3 68 132) (hg2 : ¬ G b2) (hg3 : ¬ G b3) (hgm : ¬ G pm) :
    Calls Tryz.prog 88 #[.pointer (some ⟨pr, 0, none⟩), .pointer (some ⟨pm, 0, none⟩), .pointer (some ⟨b2, 0, none⟩), .pointer (some ⟨b3, 0, none⟩)] w (ReadF G .term pr pm r m w) := by
  have c2 : w.drew.cell? ⟨b2, 0, none⟩ = some (.func (.func 41) #[] #[]) := h2.cell
  have c3 : w.drew.cell? ⟨b3, 0, none⟩ = some (.func (.func 68) #[] #[]) := h3.cell
  have cm : w.drew.cell? ⟨pm, 9, none⟩ = some (.int .i64 m.term) := blk_cell hm 9
  have fm : w.drew.frozen? ⟨pm, 9, none⟩ = false := blk_free hm 9
  have n2 : b2 ≠ pm := fun e => by subst e; have := h2.symm.trans hm; simp at this
  have n3 : b3 ≠ pm := fun e => by subst e; have := h3.symm.trans hm; simp at this
  have HR := Lib.hid (rd_drew hr)
  have H2 := Lib.hid h2
  have H3 := Lib.hid h3
  have HM := Lib.hid hm
  clear hr hm h2 h3
  go_enter Tryz.func88, Tryz.ntmps88
  go_wp2_with fail
  go_region_held_law (fun u => u.cell? ⟨b2, 0, none⟩ = some (.func (.func 41) #[] #[]) ∧ u.cell? ⟨b3, 0, none⟩ = some (.func (.func 68) #[] #[])) (first | exact ⟨by assumption, by assumption⟩ | exact ⟨(World.cell?_of_block (Below.heap_setCell _ _ _ b2 n2)).trans (by assumption), (World.cell?_of_block (Below.heap_setCell _ _ _ b3 n3)).trans (by assumption)⟩ | go_keep) (first
    | (go_at_call 68; (refine (term_any pm _).mono ?_); rintro e w1 ⟨rfl, rfl⟩)
    | (go_at_call 41; (refine (rnum_any G pr r _ HR.out).mono ?_); rintro e w2 ⟨rfl, hr2, hm2⟩; have d2 := (hm2.block b2 (lt_of_heap H2.out) hg2).trans H2.out; have d3 := (hm2.block b3 (lt_of_heap H3.out) hg3).trans H3.out; have dm := (hm2.block pm (lt_of_heap HM.out) hgm).trans HM.out; have e2 := blk_cell d2 0; have e3 := blk_cell d3 0; have em := blk_cell dm 9; have fm2 := blk_free dm 9; clear d2 d3 dm))
  all_goals
    go_wp2_with fail
    go_end0
    exact ReadF.drew (read_done (k := .term) trivial hr2 hm2 HM.out hgm)

theorem read_verb (G : Nat → Prop) (pr pm b1 : Nat) (r : Rd) (m : Ms) (w : World) (hr : RdAt G w pr r) (hm : MsgAt w pm m) (h1 : FB w b1 61 135) (hgm : ¬ G pm) :
    Calls Tryz.prog 90 #[.pointer (some ⟨pr, 0, none⟩), .pointer (some ⟨pm, 0, none⟩), .pointer (some ⟨b1, 0, none⟩)] w (ReadF G .verb pr pm r m w) := by
  have c1 : w.cell? ⟨b1, 0, none⟩ = some (.func (.func 61) #[] #[]) := h1.cell
  have HR := Lib.hid hr
  have HM := Lib.hid hm
  clear hr hm h1
  go_enter Tryz.func90, Tryz.ntmps90
  go_wp2_with fail
  refine (verb_any pm _).mono ?_
  rintro e w1 ⟨rfl, rfl⟩
  go_wp2_with fail
  refine (rnum_any G pr r _ HR.out).mono ?_
  rintro e w2 ⟨rfl, hr2, hm2⟩
  have dm := (hm2.block pm (lt_of_heap HM.out) hgm).trans HM.out
  have em := blk_cell dm 6
  have fm2 := blk_free dm 6
  replace em : w2.cell? ⟨pm, 6, none⟩ = some (.int .i64 m.verb) := em
  clear dm
  go_wp2_with fail
  go_end0
  exact read_done (k := .verb) trivial hr2 hm2 HM.out hgm

theorem read_code (G : Nat → Prop) (pr pm b1 : Nat) (r : Rd) (m : Ms) (w : World) (hr : RdAt G w pr r) (hm : MsgAt w pm m) (h1 : FB w b1 65 139) (hgm : ¬ G pm) :
    Calls Tryz.prog 98 #[.pointer (some ⟨pr, 0, none⟩), .pointer (some ⟨pm, 0, none⟩), .pointer (some ⟨b1, 0, none⟩)] w (ReadF G .code pr pm r m w) := by
  have c1 : w.cell? ⟨b1, 0, none⟩ = some (.func (.func 65) #[] #[]) := h1.cell
  have HR := Lib.hid hr
  have HM := Lib.hid hm
  clear hr hm h1
  go_enter Tryz.func98, Tryz.ntmps98
  go_wp2_with fail
  refine (code_any pm _).mono ?_
  rintro e w1 ⟨rfl, rfl⟩
  go_wp2_with fail
  refine (rnum_any G pr r _ HR.out).mono ?_
  rintro e w2 ⟨rfl, hr2, hm2⟩
  have dm := (hm2.block pm (lt_of_heap HM.out) hgm).trans HM.out
  have em := blk_cell dm 12
  have fm2 := blk_free dm 12
  replace em : w2.cell? ⟨pm, 12, none⟩ = some (.int .i64 m.code) := em
  clear dm
  go_wp2_with fail
  go_end0
  exact read_done (k := .code) trivial hr2 hm2 HM.out hgm

theorem read_stamp (G : Nat → Prop) (pr pm : Nat) (r : Rd) (m : Ms) (w : World) (hr : RdAt G w pr r) (hm : MsgAt w pm m) (hgm : ¬ G pm) (h0 : r.num = 0) :
    Calls Tryz.prog 102 #[.pointer (some ⟨pr, 0, none⟩), .pointer (some ⟨pm, 0, none⟩)] w (ReadF G .stamp pr pm r m w) := by
  have HR := Lib.hid hr
  have HM := Lib.hid hm
  clear hr hm
  go_enter Tryz.func102, Tryz.ntmps102
  go_wp2_with fail
  refine (rnum_any G pr r _ HR.out).mono ?_
  rintro e w2 ⟨he, hr2, hm2⟩
  rw [h0] at he
  subst he
  go_wp2_with fail
  go_loopw [7] (fun i wt => i = .int .i64 0 ∧ wt = w2) (fun _ _ => 0)
  case atStart => exact ⟨rfl, rfl⟩
  case round =>
    obtain ⟨rfl, hwt⟩ := hrel
    subst hwt
    go_wp2_with fail
    go_end0
    exact ⟨rfl, hr2, HM.out.keep (hm2.block pm HM.out.lt hgm), hm2.mono (fun _ _ h => Or.inl h)⟩
end Go.Proofs.YtaelbgjcoakdlaaGreat
