/-
  No cell of these rows narrows 'for every input' (looked for: loops, veiled, ifaces, maps, wideKeys, modest, calm, conditions, laid).
  DERIVED. THE GIVEN ROWS OF THIS SEAT. 8 by the template 'for every input the law returns true; each argument reads behind the call as it read before'; 0 by the template 'total and deterministic' (their statements: YtflacchpgcggnaaTotals.lean).
  GIVEN WITH THE SEED: the statements are not yours to turn. If you find one false, say at which input.
  Laid BY PROGRAM, IN A SANDBOX (cutbox-rows.mjs): the forced cells as the released guide's own fill.sh prints them over the translation bb16f278de1db666… (all of the seat's roots in one cut). By AI agents, Wed Nov 11 2026. No macro, syntax, notation, axiom, sorry.
-/
import Derived.Test.YtflacchpgcggnaaChecked
import GoSem.Claim
import GoSem.ClaimJoined
import GoSem.ClaimMapViews
import Derived.JoinedTies
import Derived.KernelRfl
namespace Go.Proofs.Ytflacchpgcggnaa
/- THE CELL 'sum', in the pinned program and in every row, IS THE sha256 OF THE DUMP (.gsa) THAT YtflacchpgcggnaaProg.lean LOADS. Nothing in Lean hashes anything: it is a label: what it is worth is what the hold of that sum in a sandbox is worth. -/
noncomputable def Try.pinned : Pinned := { name := "ytflacchpgcggnaa", sum := "bb16f278de1db66646a395848b6ba6947700033bfbdb9aef1d9bccc48259b16c", checked := Try.checked }
namespace Rows
def none {H : Type} : Left H := { results := [], args := [] }

/-- 'subletlaw02.OctetsNames': WHATEVER THE INPUT: true; the input reads as it did. -/
def octetsNamesSpec : ChangeSpec := { name := "octetsNames", fn := fun _ => fun
  | [] => { results := [.lit (.bool true)], args := [] }
  | _ => none }
def octetsNamesRow : OpenClaim := { program := "ytflacchpgcggnaa", sum := "bb16f278de1db66646a395848b6ba6947700033bfbdb9aef1d9bccc48259b16c", func := "sublet/subletlaw02.OctetsNames", spec := "octetsNames", unfollowed := true, recurses := true, apart := false }
def OctetsNamesSaid : Prop := octetsNamesRow.holds Try.pinned (OpenSpec.ofChange octetsNamesSpec)

/-- ITS FALSE NEIGHBOUR: 'it returns false'. Refute it at one input. -/
def octetsNamesWrong : ChangeSpec := { name := "octetsNames", fn := fun _ => fun
  | [] => { results := [.lit (.bool false)], args := [] }
  | _ => none }
def OctetsNamesWrongFalsely : Prop := octetsNamesRow.holds Try.pinned (OpenSpec.ofChange octetsNamesWrong)

/-- 'subletlaw02.OctetsWrites': WHATEVER THE INPUT: true; the input reads as it did. -/
def octetsWritesSpec : ChangeSpec := { name := "octetsWrites", fn := fun _ => fun
  | [d] => { results := [.lit (.bool true)], args := [d] }
  | _ => none }
def octetsWritesRow : OpenClaim := { program := "ytflacchpgcggnaa", sum := "bb16f278de1db66646a395848b6ba6947700033bfbdb9aef1d9bccc48259b16c", func := "sublet/subletlaw02.OctetsWrites", spec := "octetsWrites", unfollowed := true, recurses := true, apart := false }
def OctetsWritesSaid : Prop := octetsWritesRow.holds Try.pinned (OpenSpec.ofChange octetsWritesSpec)

/-- ITS FALSE NEIGHBOUR: 'it returns false'. Refute it at one input. -/
def octetsWritesWrong : ChangeSpec := { name := "octetsWrites", fn := fun _ => fun
  | [d] => { results := [.lit (.bool false)], args := [d] }
  | _ => none }
def OctetsWritesWrongFalsely : Prop := octetsWritesRow.holds Try.pinned (OpenSpec.ofChange octetsWritesWrong)

/-- 'subletlaw02.OctetsReads': WHATEVER THE INPUT: true; the input reads as it did. -/
def octetsReadsSpec : ChangeSpec := { name := "octetsReads", fn := fun _ => fun
  | [d1, d2] => { results := [.lit (.bool true)], args := [d1, d2] }
  | _ => none }
def octetsReadsRow : OpenClaim := { program := "ytflacchpgcggnaa", sum := "bb16f278de1db66646a395848b6ba6947700033bfbdb9aef1d9bccc48259b16c", func := "sublet/subletlaw02.OctetsReads", spec := "octetsReads", unfollowed := true, recurses := true, apart := false }
def OctetsReadsSaid : Prop := octetsReadsRow.holds Try.pinned (OpenSpec.ofChange octetsReadsSpec)

/-- ITS FALSE NEIGHBOUR: 'it returns false'. Refute it at one input. -/
def octetsReadsWrong : ChangeSpec := { name := "octetsReads", fn := fun _ => fun
  | [d1, d2] => { results := [.lit (.bool false)], args := [d1, d2] }
  | _ => none }
def OctetsReadsWrongFalsely : Prop := octetsReadsRow.holds Try.pinned (OpenSpec.ofChange octetsReadsWrong)

/-- 'subletlaw02.OctetsBack': WHATEVER THE INPUT: true; the input reads as it did. -/
def octetsBackSpec : ChangeSpec := { name := "octetsBack", fn := fun _ => fun
  | [d] => { results := [.lit (.bool true)], args := [d] }
  | _ => none }
def octetsBackRow : OpenClaim := { program := "ytflacchpgcggnaa", sum := "bb16f278de1db66646a395848b6ba6947700033bfbdb9aef1d9bccc48259b16c", func := "sublet/subletlaw02.OctetsBack", spec := "octetsBack", unfollowed := true, recurses := true, apart := false }
def OctetsBackSaid : Prop := octetsBackRow.holds Try.pinned (OpenSpec.ofChange octetsBackSpec)

/-- ITS FALSE NEIGHBOUR: 'it returns false'. Refute it at one input. -/
def octetsBackWrong : ChangeSpec := { name := "octetsBack", fn := fun _ => fun
  | [d] => { results := [.lit (.bool false)], args := [d] }
  | _ => none }
def OctetsBackWrongFalsely : Prop := octetsBackRow.holds Try.pinned (OpenSpec.ofChange octetsBackWrong)

/-- 'subletlaw02.OctetsOne': WHATEVER THE INPUT: true; the input reads as it did. -/
def octetsOneSpec : ChangeSpec := { name := "octetsOne", fn := fun _ => fun
  | [d1, d2] => { results := [.lit (.bool true)], args := [d1, d2] }
  | _ => none }
def octetsOneRow : OpenClaim := { program := "ytflacchpgcggnaa", sum := "bb16f278de1db66646a395848b6ba6947700033bfbdb9aef1d9bccc48259b16c", func := "sublet/subletlaw02.OctetsOne", spec := "octetsOne", unfollowed := true, recurses := true, apart := false }
def OctetsOneSaid : Prop := octetsOneRow.holds Try.pinned (OpenSpec.ofChange octetsOneSpec)

/-- ITS FALSE NEIGHBOUR: 'it returns false'. Refute it at one input. -/
def octetsOneWrong : ChangeSpec := { name := "octetsOne", fn := fun _ => fun
  | [d1, d2] => { results := [.lit (.bool false)], args := [d1, d2] }
  | _ => none }
def OctetsOneWrongFalsely : Prop := octetsOneRow.holds Try.pinned (OpenSpec.ofChange octetsOneWrong)

/-- 'subletlaw02.OctetsSums': WHATEVER THE INPUT: true; the input reads as it did. -/
def octetsSumsSpec : ChangeSpec := { name := "octetsSums", fn := fun _ => fun
  | [d1, d2] => { results := [.lit (.bool true)], args := [d1, d2] }
  | _ => none }
def octetsSumsRow : OpenClaim := { program := "ytflacchpgcggnaa", sum := "bb16f278de1db66646a395848b6ba6947700033bfbdb9aef1d9bccc48259b16c", func := "sublet/subletlaw02.OctetsSums", spec := "octetsSums", unfollowed := true, recurses := true, apart := false }
def OctetsSumsSaid : Prop := octetsSumsRow.holds Try.pinned (OpenSpec.ofChange octetsSumsSpec)

/-- ITS FALSE NEIGHBOUR: 'it returns false'. Refute it at one input. -/
def octetsSumsWrong : ChangeSpec := { name := "octetsSums", fn := fun _ => fun
  | [d1, d2] => { results := [.lit (.bool false)], args := [d1, d2] }
  | _ => none }
def OctetsSumsWrongFalsely : Prop := octetsSumsRow.holds Try.pinned (OpenSpec.ofChange octetsSumsWrong)

/-- 'subletlaw02.OctetsTurned': WHATEVER THE INPUT: true; the input reads as it did. -/
def octetsTurnedSpec : ChangeSpec := { name := "octetsTurned", fn := fun _ => fun
  | [d1, d2, d3] => { results := [.lit (.bool true)], args := [d1, d2, d3] }
  | _ => none }
def octetsTurnedRow : OpenClaim := { program := "ytflacchpgcggnaa", sum := "bb16f278de1db66646a395848b6ba6947700033bfbdb9aef1d9bccc48259b16c", func := "sublet/subletlaw02.OctetsTurned", spec := "octetsTurned", unfollowed := true, recurses := true, apart := false }
def OctetsTurnedSaid : Prop := octetsTurnedRow.holds Try.pinned (OpenSpec.ofChange octetsTurnedSpec)

/-- ITS FALSE NEIGHBOUR: 'it returns false'. Refute it at one input. -/
def octetsTurnedWrong : ChangeSpec := { name := "octetsTurned", fn := fun _ => fun
  | [d1, d2, d3] => { results := [.lit (.bool false)], args := [d1, d2, d3] }
  | _ => none }
def OctetsTurnedWrongFalsely : Prop := octetsTurnedRow.holds Try.pinned (OpenSpec.ofChange octetsTurnedWrong)

/-- 'subletlaw02.OctetsOwn': WHATEVER THE INPUT: true; the input reads as it did. -/
def octetsOwnSpec : ChangeSpec := { name := "octetsOwn", fn := fun _ => fun
  | [d1, d2] => { results := [.lit (.bool true)], args := [d1, d2] }
  | _ => none }
def octetsOwnRow : OpenClaim := { program := "ytflacchpgcggnaa", sum := "bb16f278de1db66646a395848b6ba6947700033bfbdb9aef1d9bccc48259b16c", func := "sublet/subletlaw02.OctetsOwn", spec := "octetsOwn", unfollowed := true, recurses := true, apart := false }
def OctetsOwnSaid : Prop := octetsOwnRow.holds Try.pinned (OpenSpec.ofChange octetsOwnSpec)

/-- ITS FALSE NEIGHBOUR: 'it returns false'. Refute it at one input. -/
def octetsOwnWrong : ChangeSpec := { name := "octetsOwn", fn := fun _ => fun
  | [d1, d2] => { results := [.lit (.bool false)], args := [d1, d2] }
  | _ => none }
def OctetsOwnWrongFalsely : Prop := octetsOwnRow.holds Try.pinned (OpenSpec.ofChange octetsOwnWrong)

/- THE SECOND FORM. 'bulk': how many values and letters a reading holds, each counted each time it is reached (what is shared counts as often as it is met; a slice's spare places count too). A statement '..UptoSaid' is the law's where the arguments, and the package variables that the reading takes, are together of bulk at most 1048576: NARROWER than '..Said'. Prove '..Said' where nothing that the law and all that it calls make is longer than what came in: it says more and counts as full. Else prove '..UptoSaid'. A law counts once. -/
mutual
def uptoBulk {H : Type} : DataW H → Nat
  | .lit (.string bytes) => bytes.length + 1
  | .lit _ => 1
  | .nil => 1
  | .ptr d => uptoBulk d + 1
  | .slice elems spare => uptoBulkAll elems + uptoBulkAll spare + 1
  | .agg parts => uptoBulkAll parts + 1
  | .iface _ d => uptoBulk d + 1
  | .map entries => uptoBulkEntries entries + 1
  | .held _ => 1
def uptoBulkAll {H : Type} : List (DataW H) → Nat
  | [] => 0
  | d :: r => uptoBulk d + uptoBulkAll r
def uptoBulkEntries {H : Type} : List (Lit × DataW H) → Nat
  | [] => 0
  | x :: r => uptoBulkEntry x + uptoBulkEntries r
def uptoBulkEntry {H : Type} : Lit × DataW H → Nat
  | (.string bytes, d) => bytes.length + uptoBulk d + 1
  | (_, d) => uptoBulk d + 1
 end
def uptoSmall : (H : Type) → List (DataW H) → Bool := fun _ ds => decide (uptoBulkAll ds ≤ 1048576)
def OpenSpec.upto (s : _root_.Go.ChangeSpec) : _root_.Go.OpenSpec := { _root_.Go.OpenSpec.ofChange s with cond := some uptoSmall }

/-- 'subletlaw02.OctetsNames', WHERE WHAT IT READS IS OF BULK AT MOST 1048576: true; the input reads as it did. -/
def octetsNamesUptoRow : OpenClaim := { program := "ytflacchpgcggnaa", sum := "bb16f278de1db66646a395848b6ba6947700033bfbdb9aef1d9bccc48259b16c", func := "sublet/subletlaw02.OctetsNames", spec := "octetsNames", unfollowed := true, recurses := true, apart := false, narrowed := true }
def OctetsNamesUptoSaid : Prop := octetsNamesUptoRow.holds Try.pinned (OpenSpec.upto octetsNamesSpec)

/-- 'subletlaw02.OctetsWrites', WHERE WHAT IT READS IS OF BULK AT MOST 1048576: true; the input reads as it did. -/
def octetsWritesUptoRow : OpenClaim := { program := "ytflacchpgcggnaa", sum := "bb16f278de1db66646a395848b6ba6947700033bfbdb9aef1d9bccc48259b16c", func := "sublet/subletlaw02.OctetsWrites", spec := "octetsWrites", unfollowed := true, recurses := true, apart := false, narrowed := true }
def OctetsWritesUptoSaid : Prop := octetsWritesUptoRow.holds Try.pinned (OpenSpec.upto octetsWritesSpec)

/-- 'subletlaw02.OctetsReads', WHERE WHAT IT READS IS OF BULK AT MOST 1048576: true; the input reads as it did. -/
def octetsReadsUptoRow : OpenClaim := { program := "ytflacchpgcggnaa", sum := "bb16f278de1db66646a395848b6ba6947700033bfbdb9aef1d9bccc48259b16c", func := "sublet/subletlaw02.OctetsReads", spec := "octetsReads", unfollowed := true, recurses := true, apart := false, narrowed := true }
def OctetsReadsUptoSaid : Prop := octetsReadsUptoRow.holds Try.pinned (OpenSpec.upto octetsReadsSpec)

/-- 'subletlaw02.OctetsBack', WHERE WHAT IT READS IS OF BULK AT MOST 1048576: true; the input reads as it did. -/
def octetsBackUptoRow : OpenClaim := { program := "ytflacchpgcggnaa", sum := "bb16f278de1db66646a395848b6ba6947700033bfbdb9aef1d9bccc48259b16c", func := "sublet/subletlaw02.OctetsBack", spec := "octetsBack", unfollowed := true, recurses := true, apart := false, narrowed := true }
def OctetsBackUptoSaid : Prop := octetsBackUptoRow.holds Try.pinned (OpenSpec.upto octetsBackSpec)

/-- 'subletlaw02.OctetsOne', WHERE WHAT IT READS IS OF BULK AT MOST 1048576: true; the input reads as it did. -/
def octetsOneUptoRow : OpenClaim := { program := "ytflacchpgcggnaa", sum := "bb16f278de1db66646a395848b6ba6947700033bfbdb9aef1d9bccc48259b16c", func := "sublet/subletlaw02.OctetsOne", spec := "octetsOne", unfollowed := true, recurses := true, apart := false, narrowed := true }
def OctetsOneUptoSaid : Prop := octetsOneUptoRow.holds Try.pinned (OpenSpec.upto octetsOneSpec)

/-- 'subletlaw02.OctetsSums', WHERE WHAT IT READS IS OF BULK AT MOST 1048576: true; the input reads as it did. -/
def octetsSumsUptoRow : OpenClaim := { program := "ytflacchpgcggnaa", sum := "bb16f278de1db66646a395848b6ba6947700033bfbdb9aef1d9bccc48259b16c", func := "sublet/subletlaw02.OctetsSums", spec := "octetsSums", unfollowed := true, recurses := true, apart := false, narrowed := true }
def OctetsSumsUptoSaid : Prop := octetsSumsUptoRow.holds Try.pinned (OpenSpec.upto octetsSumsSpec)

/-- 'subletlaw02.OctetsTurned', WHERE WHAT IT READS IS OF BULK AT MOST 1048576: true; the input reads as it did. -/
def octetsTurnedUptoRow : OpenClaim := { program := "ytflacchpgcggnaa", sum := "bb16f278de1db66646a395848b6ba6947700033bfbdb9aef1d9bccc48259b16c", func := "sublet/subletlaw02.OctetsTurned", spec := "octetsTurned", unfollowed := true, recurses := true, apart := false, narrowed := true }
def OctetsTurnedUptoSaid : Prop := octetsTurnedUptoRow.holds Try.pinned (OpenSpec.upto octetsTurnedSpec)

/-- 'subletlaw02.OctetsOwn', WHERE WHAT IT READS IS OF BULK AT MOST 1048576: true; the input reads as it did. -/
def octetsOwnUptoRow : OpenClaim := { program := "ytflacchpgcggnaa", sum := "bb16f278de1db66646a395848b6ba6947700033bfbdb9aef1d9bccc48259b16c", func := "sublet/subletlaw02.OctetsOwn", spec := "octetsOwn", unfollowed := true, recurses := true, apart := false, narrowed := true }
def OctetsOwnUptoSaid : Prop := octetsOwnUptoRow.holds Try.pinned (OpenSpec.upto octetsOwnSpec)

end Rows
end Go.Proofs.Ytflacchpgcggnaa
