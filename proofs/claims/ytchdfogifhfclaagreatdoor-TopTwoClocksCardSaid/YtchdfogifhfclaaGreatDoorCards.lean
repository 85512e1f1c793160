/-
  DERIVED. GIVEN WITH THE SEED: THE CARDS: each row of YtchdfogifhfclaaGreatDoorRows.lean that lists a variable, with what it lists TIED to the program's text (the seventh form; the later family's looks); each row that meets fmt, with fmt's text TOLD by the authors' own Lean function (tested against real Go, not proved from fmt's source: count such statements apart). THE CARD IS WHAT COUNTS. Prove the row's statement (the work); the ties are given (YtchdfogifhfclaaGreatDoorTie.lean); close each card by the builder's one call (the guide's Derived/Test/ToyasCard.lean, 'card_holds'). Laid BY PROGRAM, IN A SANDBOX (cutbox-door.mjs). By AI agents, Wed Nov 11 2026. No macro, syntax, notation, axiom, sorry.
-/
import Derived.Test.YtchdfogifhfclaaGreatDoorRows
import GoSem.ClaimSeven
namespace Go.Proofs.YtchdfogifhfclaaGreatDoor
namespace Rows

/-- THE TIED CARD OF 'sublettop.TopTwoClocks'. -/
def topTwoClocksCard : Claim7 := { stood := { row := topTwoClocksRow, standIns := [], harness := (true, "cee84496cc039c5c9a37525686b42eabeabf7b3b494a4dddd1f920313323399b"), looks := true }, kinds := [], alts := [], laidByText := true, laidKinds := [.data, .pinned], laidTests := true, laidLooks := .later }
def TopTwoClocksCardSaid : Prop := Claim7.holds Tryz.pinned (.plain (OpenSpec.ofChange topTwoClocksSpec)) topTwoClocksCard

/-- THE SECOND FORM's CARD OF 'sublettop.TopTwoClocks'. -/
def topTwoClocksUptoCard : Claim7 := { stood := { row := topTwoClocksUptoRow, standIns := [], harness := (true, "cee84496cc039c5c9a37525686b42eabeabf7b3b494a4dddd1f920313323399b"), looks := true }, kinds := [], alts := [], laidByText := true, laidKinds := [.data, .pinned], laidTests := true, laidLooks := .later }
def TopTwoClocksUptoCardSaid : Prop := Claim7.holds Tryz.pinned (.plain (OpenSpec.upto topTwoClocksSpec)) topTwoClocksUptoCard
end Rows
end Go.Proofs.YtchdfogifhfclaaGreatDoor
