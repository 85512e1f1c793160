/-
  DERIVED. GIVEN WITH THE SEED: THE CARDS: each row of YtphfekkllibphaaGreatDoorRows.lean that lists a variable, with what it lists TIED to the program's text (the seventh form; the later family's looks); each row that meets fmt, with fmt's text TOLD by the authors' own Lean function (tested against real Go, not proved from fmt's source: count such statements apart). THE CARD IS WHAT COUNTS. Prove the row's statement (the work); the ties are given (YtphfekkllibphaaGreatDoorTie.lean); close each card by the builder's one call (the guide's Derived/Test/ToyasCard.lean, 'card_holds'). Laid BY PROGRAM, IN A SANDBOX (cutbox-door.mjs). By AI agents, Wed Nov 11 2026. No macro, syntax, notation, axiom, sorry.
-/
import Derived.Test.YtphfekkllibphaaGreatDoorRows
import GoSem.ClaimSeven
namespace Go.Proofs.YtphfekkllibphaaGreatDoor
namespace Rows

/-- THE TIED CARD OF 'sublettop.TopResumes'. -/
def topResumesCard : Claim7 := { stood := { row := topResumesRow, standIns := [], harness := (true, "3ad22861c299604537b5f22a6f476c8fe818b945fe64f8070fdeda139528dc0f"), looks := true }, kinds := [], alts := [], laidByText := true, laidKinds := [.data, .pinned], laidTests := true, laidLooks := .later }
def TopResumesCardSaid : Prop := Claim7.holds Tryz.pinned (.plain (OpenSpec.ofChange topResumesSpec)) topResumesCard

/-- THE SECOND FORM's CARD OF 'sublettop.TopResumes'. -/
def topResumesUptoCard : Claim7 := { stood := { row := topResumesUptoRow, standIns := [], harness := (true, "3ad22861c299604537b5f22a6f476c8fe818b945fe64f8070fdeda139528dc0f"), looks := true }, kinds := [], alts := [], laidByText := true, laidKinds := [.data, .pinned], laidTests := true, laidLooks := .later }
def TopResumesUptoCardSaid : Prop := Claim7.holds Tryz.pinned (.plain (OpenSpec.upto topResumesSpec)) topResumesUptoCard
end Rows
end Go.Proofs.YtphfekkllibphaaGreatDoor
