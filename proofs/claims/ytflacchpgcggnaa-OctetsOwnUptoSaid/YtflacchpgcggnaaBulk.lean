/- The second form's bound: how many values an argument holds. -/
import Derived.Test.YtflacchpgcggnaaRows
import Derived.ProofKit
import Derived.OpenShut
import Derived.Deep.Slices
namespace Go.Proofs.Ytflacchpgcggnaa
open Go.RowKit Go.ChangeShapes Go.WideShapes

theorem bulk_one {H : Type} (d : DataW H) : 1 ≤ Rows.uptoBulk d := by
  cases d with
  | lit l => cases l <;> simp [Rows.uptoBulk]
  | nil => simp [Rows.uptoBulk]
  | ptr d => simp [Rows.uptoBulk]
  | slice elems spare => simp [Rows.uptoBulk]
  | agg parts => simp [Rows.uptoBulk]
  | iface t d => simp [Rows.uptoBulk]
  | map entries => simp [Rows.uptoBulk]
  | held h => simp [Rows.uptoBulk]
theorem bulk_length {H : Type} (l : List (DataW H)) : l.length ≤ Rows.uptoBulkAll l := by
  induction l with
  | nil => simp [Rows.uptoBulkAll]
  | cons x r ih => have := bulk_one x; simp only [Rows.uptoBulkAll, List.length_cons]; omega
theorem bulk_bound {H : Type} {d : DataW H} (hk : Rows.uptoSmall H [d] = true) : Rows.uptoBulk d ≤ 1048576 := by
  have h : Rows.uptoBulkAll [d] ≤ 1048576 := of_decide_eq_true hk
  simp only [Rows.uptoBulkAll] at h
  omega
section
variable {H : Type} {P : Program} {enc : TypeId × Value → H} {w : World} {base : Nat} {spare : Nat → Bool} {held : Bool}
/-- A slice that came in is no longer than its bulk. -/
theorem bulk_slice {t e : TypeId} {a : Option Addr} {n c : Nat} {d : DataW H} {p : List MemPlace} (ht : P.underlying t = some (.slice e)) (h : DataW.Trod enc P w base spare held t (.slice a n c) d p) : n ≤ Rows.uptoBulk d := by
  obtain ⟨fuel, hf⟩ := h
  have hc : (Value.slice a n c).cells.toList = [.slice a n c] := rfl
  rw [hc] at hf
  rcases Deep.open_slice ht hf with ⟨e0, e1⟩ | ⟨ad, len, cap, m, k, D, Pl, e0, hb, hl, hm, hmm, e1, hx⟩
  · injection e0 with e0
    injection e0 with _ e0
    omega
  · injection e0 with e0
    injection e0 with _ e0
    injection e1 with e1 _
    subst e0 e1
    simp only [Rows.uptoBulk]
    have := bulk_length ((List.range n).map D)
    simp at this
    omega
end
end Go.Proofs.Ytflacchpgcggnaa
