/- How a []byte that came in is opened. No law of the program in sight. -/
import Derived.Test.YtphfekkllibphaaGreatDoorMem
import Derived.Deep.Slices
import Derived.SizedLaws
import Derived.OpenShut
import Derived.ProofKit
namespace Go.Proofs.YtphfekkllibphaaGreatDoor
open Go.RowKit Go.ChangeShapes Go.WideShapes

theorem spot_none {w : World} {a : Addr} {v : Value} (h : w.cell? a = some v) : a.spot = none := by
  unfold World.cell? at h
  split at h
  · split at h
    · cases h
    · cases hs : a.spot with
      | none => rfl
      | some _ => simp_all
  · cases h

theorem b8_of {c : UInt8} {a : Int} (h0 : 0 ≤ a) (h1 : a < 256) (hc : c = UInt8.ofNat a.toNat) : Value.int .u8 a = B8 c := by
  subst hc
  unfold B8
  have : (UInt8.ofNat a.toNat).toNat = a.toNat := by simp [UInt8.toNat_ofNat']; omega
  rw [this, Int.toNat_of_nonneg h0]

section
variable {H : Type} {enc : TypeId × Value → H} {P : Program} {w : World} {base : Nat} {spare : Nat → Bool} {held : Bool}
/-- The reach, for one argument. -/
theorem weights_of {ts : List TypeId} {ds : List (DataW H)} (h : (DataW.weightsEach P ts ds).all (· ≤ reachBytes) = true) {j : Nat} {t : TypeId} {d : DataW H} (ht : ts[j]? = some t) (hd : ds[j]? = some d) : (d.weights P t).all (· ≤ reachBytes) = true :=
  List.all_eq_true.2 fun n hn => List.all_eq_true.1 h n (DataW.weights_mem_each ht hd n hn)
theorem reach_le : reachBytes ≤ 140737488355328 := by decide

theorem open_bytes {t e : TypeId} {n : Nat} {v : Value} {x : DataW H × List MemPlace} (ht : P.underlying t = some (.slice e)) (he : P.underlying e = some (.int .u8)) (hc : P.cellsOf e = 1) (hby : P.bytesOf e = 1)
    (h : DataW.trod enc P w base spare held n t [v] = some x) : ∃ l : List UInt8, BytesV (fun _ => True) w v l ∧ ((x.1.weights P t).all (· ≤ reachBytes) = true → l.length ≤ reachBytes) := by
  rcases Deep.open_slice1 ht hc h with ⟨e0, rfl⟩ | ⟨a, len, cap, m, k, V, D, Pl, e0, hb, hl, hm, hmm, rfl, hx⟩
  · obtain rfl : v = .slice none 0 0 := by simpa using e0
    exact ⟨[], BytesV.nil _ _, fun _ => by simp⟩
  · obtain rfl : v = .slice (some a) len cap := by simpa using e0
    have hlm : len ≤ m := by rw [hmm]; split <;> omega
    have hV : ∀ i, i < len → ∃ c : UInt8, V i = B8 c := by
      intro i hi
      obtain ⟨z, e1, _, wf⟩ := DataW.trod_int he (hx i (by omega)).2
      simp at e1
      have hz : 0 ≤ z ∧ z < 256 := by
        simp [Lit.wf, IntKind.min, IntKind.max, IntKind.signed, IntKind.bits] at wf
        omega
      exact ⟨_, e1.trans (b8_of hz.1 hz.2 rfl)⟩
    obtain ⟨C, hC⟩ := Deep.choose_lt hV
    refine ⟨(List.range len).map C, ⟨some a, cap, by simp, by simpa using hl, hm, fun h => (by cases h), fun hp => ?_⟩, fun hw => ?_⟩
    · have hlen0 : 0 < len := by simpa using hp
      have h0 := (hx 0 (by omega)).1
      have hs := spot_none h0
      obtain ⟨b, o, s⟩ := a
      obtain rfl : s = none := by simpa [Addr.add] using hs
      refine ⟨b, o, rfl, ?_, trivial, fun j y hy => ?_⟩
      · exact World.block_lt_of_cell? w _ h0
      · have hj := (List.getElem?_eq_some_iff.1 hy).1
        simp at hj
        have := (hx j (by omega)).1
        rw [Addr.add_mid] at this
        rw [this, hC j hj]
        simp [hj] at hy
        rw [hy]
    · simp [DataW.weights, ht, hby] at hw ⊢
      have := hw.1
      omega
end
end Go.Proofs.YtphfekkllibphaaGreatDoor

