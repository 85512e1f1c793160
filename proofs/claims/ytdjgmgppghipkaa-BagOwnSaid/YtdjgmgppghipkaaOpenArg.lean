/- Packets as an argument. -/
import Derived.Test.YtdjgmgppghipkaaOpenPkt
namespace Go.Proofs.Ytdjgmgppghipkaa
open Go.RowKit Go.ChangeShapes Go.WideShapes
section
variable {H : Type} {enc : TypeId × Value → H} {w : World} {base : Nat} {spare : Nat → Bool} {held : Bool}
theorem open_packets {r : Reach} {b0 : Nat} {t : TypeId} {v : Value} {d : DataW H} {p : List MemPlace} (ht : Try.prog.underlying t = some (.slice 30)) (hv : Value.okWide Try.prog w r b0 t v) (h : DataW.Trod enc Try.prog w base spare held t v d p) (hw : (d.weights Try.prog t).all (· ≤ reachBytes) = true) :
    ∃ l : List Pkt, PktsIn w v l ∧ l.length ≤ reachBytes := by
  obtain ⟨fuel, hf⟩ := h
  have hc : v.cells.toList = [v] := by
    simp only [Value.okWide, ht] at hv
    cases v <;> first | rfl | (simp only [Cell.okWide, Cell.ok, ht] at hv)
  rw [hc] at hf
  exact open_pkts ht hf hw
end
end Go.Proofs.Ytdjgmgppghipkaa
