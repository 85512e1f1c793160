/- Bytes as an argument. -/
import Derived.Test.YtflacchpgcggnaaOpen
namespace Go.Proofs.Ytflacchpgcggnaa
open Go.RowKit Go.ChangeShapes Go.WideShapes

theorem Try.cells8 : Try.prog.cellsOf 5 = 1 := by kernel_rfl
theorem Try.bytes8 : Try.prog.bytesOf 5 = 1 := by kernel_rfl
section
variable {H : Type} {enc : TypeId × Value → H} {w : World} {base : Nat} {spare : Nat → Bool} {held : Bool}
theorem open_bytes0 {r : Reach} {b0 : Nat} {v : Value} {d : DataW H} {p : List MemPlace} (hv : Value.okWide Try.prog w r b0 22 v) (h : DataW.Trod enc Try.prog w base spare held 22 v d p) (hw : (d.weights Try.prog 22).all (· ≤ reachBytes) = true) :
    ∃ l : List UInt8, BytesV (fun _ => True) w v l ∧ l.length ≤ reachBytes := by
  obtain ⟨fuel, hf⟩ := h
  have hc : v.cells.toList = [v] := by
    simp only [Value.okWide, Try.underlying22] at hv
    cases v <;> first | rfl | (simp only [Cell.okWide, Cell.ok, Try.underlying22] at hv)
  rw [hc] at hf
  obtain ⟨l, h1, h2⟩ := open_bytes Try.underlying22 Try.underlying5 Try.cells8 Try.bytes8 hf
  exact ⟨l, h1, h2 hw⟩
end
end Go.Proofs.Ytflacchpgcggnaa
