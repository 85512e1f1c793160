/-
  TopResumes: for every cut, term and path the law returns true, and its arguments read behind the call as before it; the listed package variables are tied to the program's text (the card). Conditions: none beyond the row and the card.
-/
import Derived.Test.YtphfekkllibphaaGreatDoorRows
import Derived.Test.YtphfekkllibphaaGreatDoorTie
import Derived.Test.YtphfekkllibphaaGreatDoorCards
import Derived.WalkKit
import Derived.ProofKit
import Derived.OpenShut
import Derived.SizedLaws
import Derived.Lay
import Derived.LaidOnce
import Derived.SevenTiedAt
import Derived.Test.YtphfekkllibphaaGreatDoorPostb
import Derived.Test.YtphfekkllibphaaGreatDoorOpen
import Derived.Test.YtphfekkllibphaaGreatDoorClo3
import Derived.Test.YtphfekkllibphaaGreatDoorFin3M
import Derived.Test.YtphfekkllibphaaGreatDoorPl0
import Derived.Test.YtphfekkllibphaaGreatDoorPl1
import Derived.Test.YtphfekkllibphaaGreatDoorPl2
namespace Go.Proofs.YtphfekkllibphaaGreatDoor.Ev
/-- All plays. -/
theorem plays : ∀ r q p, r < 3 → q < 2 → p < 2 → top r q p = true := by
  intro r q p hr hq hp
  have h1 : r = 0 ∨ r = 1 ∨ r = 2 := by omega
  have h2 : q = 0 ∨ q = 1 := by omega
  have h3 : p = 0 ∨ p = 1 := by omega
  rcases h1 with rfl | rfl | rfl <;> rcases h2 with rfl | rfl <;> rcases h3 with rfl | rfl
  · exact play000
  · exact play001
  · exact play010
  · exact play011
  · exact play100
  · exact play101
  · exact play110
  · exact play111
  · exact play200
  · exact play201
  · exact play210
  · exact play211
end Go.Proofs.YtphfekkllibphaaGreatDoor.Ev
namespace Go.Proofs.YtphfekkllibphaaGreatDoor.topResumes
open Go.ChangeShapes Go.WideShapes Go.ChangeAt Go.RowKit

theorem own : ownKnob Tryz.prog.godebug = none := by kernel_rfl
theorem laidOut : laidOutB Tryz.prog = true := by kernel_rfl
set_option maxRecDepth 100000 in
theorem lifted (os : Os) (started : os.Started) (H : Type) (enc : TypeId × Value → H) :
    ReturnsInHanded {} Tryz.checked os 3 .any (fun w args => (Rows.topResumesSpec.pre enc Tryz.prog Tryz.f3 Rows.topResumesRow.domain false w args ∧ laidMetH Tryz.prog Rows.topResumesRow.laid w) ∧ sizedMet enc Tryz.prog Tryz.f3 (OpenSpec.ofChange Rows.topResumesSpec) false w args)
      (Rows.topResumesSpec.post enc Tryz.prog Tryz.f3 false true false false) := by
  refine returnsInHanded_of_change_and (C := Tryz.checked) (X := fun w _ => laidMetH Tryz.prog Rows.topResumesRow.laid w) (fun _ _ _ hh h => h.of_heap hh) own started (by kernel_rfl) Tryz.func3
    (ChangeSpec.witness_shaped (enc := enc) (C := Tryz.checked) (os := os) (X := fun w _ => laidMetH Tryz.prog Rows.topResumesRow.laid w) false (World.laidAll Tryz.prog os Rows.topResumesRow.laid) #[.int .i64 0, .int .i64 0, .string ⟨#[]⟩] 8 (World.laidAll_os _ _ _)
      (World.shaped_of_ZipB (by kernel_rfl) (by kernel_rfl)) (by kernel_rfl) (by kernel_rfl) (by kernel_rfl)
      (by rw [MakeChecks.laidMetH_plain _ _ _ (by kernel_rfl)]; exact laidMet_laidAll _ (by kernel_rfl) (by kernel_rfl))) ?_
  intro W base args ds gs before hval0 hW _ hsz0 _ _
  have hval : ∀ (j : Nat) t v, Tryz.f3.params[j]? = some t → args[j]? = some v → Value.okWide Tryz.prog W .any base t v := hval0
  have hsz : (DataW.weightsEach Tryz.prog (Tryz.f3.params.toList ++ Rows.topResumesSpec.plain.varTypes Tryz.prog) (ds ++ gs)).all (· ≤ reachBytes) = true := hsz0
  have hW' := hW
  obtain ⟨p, q, hA0, hV, rfl, hfz, hnd⟩ := hW
  have hA : DataW.TrodAll enc Tryz.prog W 0 (fun _ => true) true Tryz.f3.params.toList args.toList ds p := hA0
  have hA1 := hA
  rw [Tryz.params3] at hA hval hsz
  obtain ⟨v0, vs0, d0, ds0, p0, q0, hargs, rfl, rfl, h0, r0⟩ := trodAll_cons hA
  obtain ⟨v1, vs1, d1, ds1, p1, q1, rfl, rfl, rfl, h1, r1⟩ := trodAll_cons r0
  obtain ⟨v2, vs2, d2, ds2, p2, q2, rfl, rfl, rfl, h2, r2⟩ := trodAll_cons r1
  obtain ⟨rfl, rfl, rfl⟩ := trodAll_nil r2
  obtain rfl : args = #[v0, v1, v2] := by cases args; simp_all
  obtain ⟨rfl, rfl⟩ := trodVars_none hV
  simp only [List.append_nil] at hW' hA1
  obtain ⟨cut, rfl, rfl, rfl, _⟩ := open_int Tryz.underlying3 (hval 0 3 v0 rfl rfl) h0
  obtain ⟨t, rfl, rfl, rfl, _⟩ := open_int Tryz.underlying3 (hval 1 3 v1 rfl rfl) h1
  obtain ⟨path, rfl, rfl, rfl, _⟩ := Go.ChangeMaps.open_string Tryz.underlying9 (hval 2 9 v2 rfl rfl) h2
  have hw2 : ((DataW.lit (Lit.string path.data.toList) : DataW H).weights Tryz.prog 9).all (· ≤ reachBytes) = true := weights_of hsz (j := 2) rfl rfl
  have hp : path.size ≤ 140737488355328 := by
    have h3 := reach_le
    have hl : path.data.toList.length = path.size := Array.length_toList
    simp [DataW.weights] at hw2
    omega
  refine (Ev.resumes_any Ev.plays cut t path hp W).mono fun e W' ⟨he, hg⟩ => ?_
  subst he
  exact ⟨_, rfl, post_law (tb := 4) hW' hA1 laidOut (by kernel_rfl) rfl rfl Tryz.underlying4 rfl rfl rfl hg⟩
theorem over : Rows.topResumesRow.holds Tryz.pinned (OpenSpec.ofChange Rows.topResumesSpec) :=
  OpenClaim.holds_of_wide 3 Tryz.f3 rfl rfl rfl rfl rfl rfl rfl ⟨rfl, rfl, rfl, rfl, rfl⟩ rfl rfl rfl rfl rfl (by kernel_rfl) Tryz.func3 facts
    (of_decide_eq_true (by kernel_rfl)) (by unfold Func.isWrapper; first | (rw [if_pos (by decide +kernel)]; kernel_rfl) | (rw [if_neg (by decide +kernel)]; exact ⟨rfl, rfl⟩))
    (fun os started H enc _ => lifted os started H enc)
theorem noGo : (Tryz.prog.funcs.any Func.goes) = false := by kernel_rfl
theorem goes_none (P : Program) (h : P.funcs.any Func.goes = false) (f : FuncId) : P.goes f = false := by
  unfold Program.goes
  rw [h, Bool.and_false, Bool.or_false, List.any_eq_false]
  intro g _
  cases hg : P.funcs[g]? with
  | none => simp
  | some fn =>
    have := Array.any_eq_false'.1 h fn (Array.mem_of_getElem? hg)
    simpa using this
theorem goesBy_none (P : Program) (h : P.funcs.any Func.goes = false) (c : OpenClaim) (hs : c.start = .entering) : c.goesBy P = false := by
  unfold OpenClaim.goesBy Program.goesAt Program.goesFrom
  rw [hs]
  cases P.funcNamed c.func with
  | none => rfl
  | some f => simp [goes_none P h f]
theorem goesBy_false : false = Rows.topResumesRow.goesBy Tryz.pinned.checked.prog := (goesBy_none Tryz.prog noGo Rows.topResumesRow rfl).symm
/-- The card. -/
theorem proved : Rows.TopResumesCardSaid :=
  Claim7.holds_tied_plain_at .later [] [.data, .pinned] true (true, "3ad22861c299604537b5f22a6f476c8fe818b945fe64f8070fdeda139528dc0f") true over (fun _ h => by cases h) (by kernel_rfl) (fun _ h => by cases h) topResumes_row_tie rfl ⟨rfl, rfl⟩ (by kernel_rfl) rfl
    (fun f fn hf hfn => by
      obtain rfl : f = 3 := Option.some.inj ((show Tryz.prog.funcNamed "sublet/sublettop.TopResumes" = some 3 by kernel_rfl).symm.trans hf) |>.symm
      obtain rfl : fn = Tryz.f3 := (Option.some.inj (Tryz.func3.symm.trans hfn)).symm
      exact ⟨by kernel_rfl, fun j t ht => by
        rw [Tryz.params3] at ht
        have hm : t = 3 ∨ t = 3 ∨ t = 9 := by simpa using Array.mem_of_getElem? ht
        rcases hm with rfl | rfl | rfl
        · exact (show Tryz.prog.wantsStandIn 3 = false by kernel_rfl)
        · exact (show Tryz.prog.wantsStandIn 3 = false by kernel_rfl)
        · exact (show Tryz.prog.wantsStandIn 9 = false by kernel_rfl)⟩)
    goesBy_false
#print axioms proved
end Go.Proofs.YtphfekkllibphaaGreatDoor.topResumes
