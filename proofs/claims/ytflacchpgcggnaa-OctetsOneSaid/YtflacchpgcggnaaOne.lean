/- OctetsOne's plain law; bools as an argument. -/
import Derived.Test.YtflacchpgcggnaaOk
import Derived.Test.YtflacchpgcggnaaOpenArg
import Derived.Test.YtflacchpgcggnaaWake
import Derived.Test.YtflacchpgcggnaaLawTurned
namespace Go.Proofs.Ytflacchpgcggnaa
open Go.RowKit Go.ChangeShapes Go.WideShapes

theorem tk_form {l : List UInt8} (h : (tk l 0 0).e = 0) : l = enc (tk l 0 0).n ++ l.drop (tk l 0 0).k := by
  obtain ⟨m, h1, _, h2⟩ := enc_tk l 0 0 (by omega) h
  simp at h1 h2
  rw [h1, ← h2, List.take_append_drop]
/-- What was read is what was written; the error is one of three. -/
structure OneI (l l0 : List UInt8) (r : Rd) : Prop where
  eq : l = l0 ++ r.left
  err : r.err = 0 ∨ r.err = 20 ∨ r.err = 21
theorem OneI.num {l l0 : List UInt8} {r : Rd} (h : OneI l l0 r) : OneI l (if r.numR.err = 0 then l0 ++ enc r.num else l0) r.numR := by
  unfold Rd.numR Rd.num
  by_cases he : r.err = 0
  · simp only [he, if_true]
    rcases tk_err r.left 0 0 with h0 | ⟨h0, _, hk⟩
    · rw [if_pos h0]
      refine ⟨?_, Or.inl h0⟩
      have := tk_form h0
      rw [List.append_assoc, ← this]
      exact h.eq
    · rw [if_neg (by omega), hk]
      exact ⟨by simpa using h.eq, Or.inr h0⟩
  · simp only [he, if_false]
    exact h
theorem tkText_cases (l : List UInt8) (most : Int) : ((tkText l most).2.2 = 0 ∧ l = encText (tkText l most).1 ++ l.drop (tkText l most).2.1) ∨ (((tkText l most).2.2 = 20 ∨ (tkText l most).2.2 = 21) ∧ (tkText l most).2.1 = 0) := by
  unfold tkText tkT
  split
  · rename_i h
    rcases tk_err l 0 0 with h0 | ⟨h0, _⟩
    · omega
    · exact Or.inr ⟨h0, rfl⟩
  · rename_i h
    split
    · exact Or.inr ⟨Or.inr rfl, rfl⟩
    · split
      · exact Or.inr ⟨Or.inl rfl, rfl⟩
      · rename_i h2 h3
        left
        refine ⟨rfl, ?_⟩
        have h0 : (tk l 0 0).e = 0 := by omega
        have hw := tk_width l 0 0 h0
        have hf := tk_form h0
        have hlen : ((l.drop (tk l 0 0).k).take (tk l 0 0).n).length = (tk l 0 0).n := by simp; omega
        show l = encText ((l.drop (tk l 0 0).k).take (tk l 0 0).n) ++ l.drop ((tk l 0 0).k + (tk l 0 0).n)
        unfold encText
        rw [hlen, List.append_assoc, ← List.drop_drop, List.take_append_drop]
        exact hf
theorem OneI.text {l l0 : List UInt8} {r : Rd} (h : OneI l l0 r) (most : Int) : OneI l (if (r.textR most).err = 0 then l0 ++ encText (r.text most) else l0) (r.textR most) := by
  unfold Rd.textR Rd.text
  by_cases he : r.err = 0
  · simp only [he, if_true]
    rcases tkText_cases r.left most with ⟨h0, hf⟩ | ⟨h0, hk⟩
    · rw [if_pos h0]
      refine ⟨?_, Or.inl h0⟩
      rw [List.append_assoc, ← hf]
      exact h.eq
    · rw [if_neg (by omega), hk]
      exact ⟨by simpa using h.eq, Or.inr h0⟩
  · simp only [he, if_false]
    exact h
theorem Rd.num_lt (r : Rd) : r.num < 9223372036854775808 := by
  unfold Rd.num
  split
  · exact tk_bound _ 0 0 (by omega) (by omega)
  · omega

/-- Bools that came in. -/
def BoolsIn (w : World) (v : Value) (l : List Bool) : Prop :=
  ∃ (a : Option Addr) (c : Nat), v = .slice a l.length c ∧ l.length ≤ c ∧ c ≤ maxLen ∧
    (0 < l.length → ∃ b o, a = some ⟨b, o, none⟩ ∧ b < w.heap.size ∧ ∀ (j : Nat) (q : Bool), l[j]? = some q → w.cell? ⟨b, o + j, none⟩ = some (.bool q))
theorem BoolsIn.at_ {w : World} {v : Value} {l : List Bool} (h : BoolsIn w v l) {j : Nat} {q : Bool} (hq : l[j]? = some q) : ∃ b o c, v = .slice (some ⟨b, o, none⟩) l.length c ∧ l.length ≤ c ∧ c ≤ maxLen ∧ b < w.heap.size ∧ w.cell? ⟨b, o + j, none⟩ = some (.bool q) := by
  obtain ⟨a, c, rfl, h2, h3, h5⟩ := h
  obtain ⟨b, o, rfl, hb, hc⟩ := h5 (by have := (List.getElem?_eq_some_iff.1 hq).1; omega)
  exact ⟨b, o, c, rfl, h2, h3, hb, hc j q hq⟩
theorem Try.cellsB1' : Try.prog.cellsOf 4 = 1 := by kernel_rfl
section
variable {H : Type} {enc' : TypeId × Value → H} {w : World} {base : Nat} {spare : Nat → Bool} {held : Bool}
theorem open_bools {r : Reach} {b0 : Nat} {t : TypeId} {v : Value} {d : DataW H} {p : List MemPlace} (ht : Try.prog.underlying t = some (.slice 4)) (hv : Value.okWide Try.prog w r b0 t v) (h : DataW.Trod enc' Try.prog w base spare held t v d p) (hw : (d.weights Try.prog t).all (· ≤ reachBytes) = true) :
    ∃ l : List Bool, BoolsIn w v l ∧ l.length ≤ reachBytes := by
  obtain ⟨fuel, hf⟩ := h
  have hc : v.cells.toList = [v] := by
    simp only [Value.okWide, ht] at hv
    cases v <;> first | rfl | (simp only [Cell.okWide, Cell.ok, ht] at hv)
  rw [hc] at hf
  rcases Deep.open_slice1 ht Try.cellsB1' hf with ⟨e0, _⟩ | ⟨a, len, cap, m, k, V, D, Pl, e0, hb, hl, hm, hmm, e1, hx⟩
  · obtain rfl : v = .slice none 0 0 := by simpa using e0
    exact ⟨[], ⟨none, 0, rfl, by simp, by simp, fun h => by simp at h⟩, by simp⟩
  · obtain rfl : v = .slice (some a) len cap := by simpa using e0
    injection e1 with e1 _
    subst e1
    have hlm : len ≤ m := by rw [hmm]; split <;> omega
    have hV : ∀ i, i < len → ∃ c : Bool, V i = .bool c := by
      intro i hi
      obtain ⟨z, e1, _⟩ := DataW.trod_bool Try.underlying4 (hx i (by omega)).2
      simp at e1
      exact ⟨z, e1⟩
    obtain ⟨C, hC⟩ := Deep.choose_lt hV
    refine ⟨(List.range len).map C, ⟨some a, cap, by simp, by simpa using hl, hm, fun hp => ?_⟩, ?_⟩
    · have hlen0 : 0 < len := by simpa using hp
      have h0 := (hx 0 (by omega)).1
      have hs := spot_none h0
      obtain ⟨b, o, s⟩ := a
      obtain rfl : s = none := by simpa [Addr.add] using hs
      refine ⟨b, o, rfl, World.block_lt_of_cell? w _ h0, fun j y hy => ?_⟩
      have hj := (List.getElem?_eq_some_iff.1 hy).1
      simp at hj
      have := (hx j (by omega)).1
      rw [Addr.add_mid] at this
      rw [this, hC j hj]
      simp [hj] at hy
      rw [hy]
    · simp [DataW.weights, ht] at hw ⊢
      have h1 := hw.1
      have hb3 : 1 ≤ Try.prog.bytesOf 4 := by decide +kernel
      have := Nat.le_mul_of_pos_right len hb3
      have h2 : len * Try.prog.bytesOf 4 ≤ (len + (m - len)) * Try.prog.bytesOf 4 := Nat.mul_le_mul_right _ (by omega)
      omega
end
end Go.Proofs.Ytflacchpgcggnaa
