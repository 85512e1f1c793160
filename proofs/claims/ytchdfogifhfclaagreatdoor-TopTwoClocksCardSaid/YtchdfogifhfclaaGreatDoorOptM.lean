/- How a []byte that came in is opened. No law of the program in sight.  A plan and ticks as arguments. -/
import Derived.Test.YtchdfogifhfclaaGreatDoorMem
import Derived.Deep.Slices
import Derived.SizedLaws
import Derived.OpenShut
import Derived.ProofKit
import Derived.Test.YtchdfogifhfclaaGreatDoorLwb
namespace Go.Proofs.YtchdfogifhfclaaGreatDoor
open Go.RowKit Go.ChangeShapes Go.WideShapes

theorem spot_none {w : World} {a : Addr} {v : Value} (h : w.cell? a = some v) : a.spot = none := by
  unfold World.cell? at h
  split at h
  · split at h
    · cases h
    · cases hs : a.spot with
      | none => rfl
      | some _ => simp_all
  · cases h

theorem b8_of {c : UInt8} {a : Int} (h0 : 0 ≤ a) (h1 : a < 256) (hc : c = UInt8.ofNat a.toNat) : Value.int .u8 a = B8 c := by
  subst hc
  unfold B8
  have : (UInt8.ofNat a.toNat).toNat = a.toNat := by simp [UInt8.toNat_ofNat']; omega
  rw [this, Int.toNat_of_nonneg h0]

section
variable {H : Type} {enc : TypeId × Value → H} {P : Program} {w : World} {base : Nat} {spare : Nat → Bool} {held : Bool}
/-- The reach, for one argument. -/
theorem weights_of {ts : List TypeId} {ds : List (DataW H)} (h : (DataW.weightsEach P ts ds).all (· ≤ reachBytes) = true) {j : Nat} {t : TypeId} {d : DataW H} (ht : ts[j]? = some t) (hd : ds[j]? = some d) : (d.weights P t).all (· ≤ reachBytes) = true :=
  List.all_eq_true.2 fun n hn => List.all_eq_true.1 h n (DataW.weights_mem_each ht hd n hn)
theorem reach_le : reachBytes ≤ 140737488355328 := by decide

theorem open_bytes {t e : TypeId} {n : Nat} {v : Value} {x : DataW H × List MemPlace} (ht : P.underlying t = some (.slice e)) (he : P.underlying e = some (.int .u8)) (hc : P.cellsOf e = 1) (hby : P.bytesOf e = 1)
    (h : DataW.trod enc P w base spare held n t [v] = some x) : ∃ l : List UInt8, BytesV (fun _ => True) w v l ∧ ((x.1.weights P t).all (· ≤ reachBytes) = true → l.length ≤ reachBytes) := by
  rcases Deep.open_slice1 ht hc h with ⟨e0, rfl⟩ | ⟨a, len, cap, m, k, V, D, Pl, e0, hb, hl, hm, hmm, rfl, hx⟩
  · obtain rfl : v = .slice none 0 0 := by simpa using e0
    exact ⟨[], BytesV.nil _ _, fun _ => by simp⟩
  · obtain rfl : v = .slice (some a) len cap := by simpa using e0
    have hlm : len ≤ m := by rw [hmm]; split <;> omega
    have hV : ∀ i, i < len → ∃ c : UInt8, V i = B8 c := by
      intro i hi
      obtain ⟨z, e1, _, wf⟩ := DataW.trod_int he (hx i (by omega)).2
      simp at e1
      have hz : 0 ≤ z ∧ z < 256 := by
        simp [Lit.wf, IntKind.min, IntKind.max, IntKind.signed, IntKind.bits] at wf
        omega
      exact ⟨_, e1.trans (b8_of hz.1 hz.2 rfl)⟩
    obtain ⟨C, hC⟩ := Deep.choose_lt hV
    refine ⟨(List.range len).map C, ⟨some a, cap, by simp, by simpa using hl, hm, fun h => (by cases h), fun hp => ?_⟩, fun hw => ?_⟩
    · have hlen0 : 0 < len := by simpa using hp
      have h0 := (hx 0 (by omega)).1
      have hs := spot_none h0
      obtain ⟨b, o, s⟩ := a
      obtain rfl : s = none := by simpa [Addr.add] using hs
      refine ⟨b, o, rfl, ?_, trivial, fun j y hy => ?_⟩
      · exact World.block_lt_of_cell? w _ h0
      · have hj := (List.getElem?_eq_some_iff.1 hy).1
        simp at hj
        have := (hx j (by omega)).1
        rw [Addr.add_mid] at this
        rw [this, hC j hj]
        simp [hj] at hy
        rw [hy]
    · simp [DataW.weights, ht, hby] at hw ⊢
      have := hw.1
      omega
end
end Go.Proofs.YtchdfogifhfclaaGreatDoor

namespace Go.Proofs.YtchdfogifhfclaaGreatDoor
open Go.RowKit Go.ChangeShapes Go.WideShapes

theorem Tryz.cellsTk : Tryz.prog.cellsOf 59 = 3 := by kernel_rfl
theorem Tryz.cellsPl : Tryz.prog.cellsOf 24 = 8 := by kernel_rfl
theorem Tryz.cellsInt : Tryz.prog.cellsOf 3 = 1 := by kernel_rfl
theorem Tryz.cellsStr : Tryz.prog.cellsOf 9 = 1 := by kernel_rfl
theorem Tryz.cellsMd : Tryz.prog.cellsOf 22 = 1 := by kernel_rfl
theorem i64_wf {x : Int} (h : (Lit.int .i64 x).wf = true) : Ck8.I64 x := by
  simpa [Ck8.I64, Lit.wf, IntKind.min, IntKind.max, IntKind.signed, IntKind.bits] using h
section
variable {H : Type} {enc : TypeId × Value → H} {w : World} {base : Nat} {spare : Nat → Bool} {held : Bool}
theorem open_tick {n : Nat} {c0 c1 c2 : Value} {x : DataW H × List MemPlace} (h : DataW.trod enc Tryz.prog w base spare held n 59 [c0, c1, c2] = some x) :
    ∃ q : Int × Int × Int, c0 = .int .i64 q.1 ∧ c1 = .int .i64 q.2.1 ∧ c2 = .int .i64 q.2.2 ∧ Ck8.I64 q.1 ∧ Ck8.I64 q.2.1 ∧ Ck8.I64 q.2.2 := by
  obtain ⟨xs, m, _, rfl, _, hlen, hf⟩ := DataW.trod_struct Tryz.underlying59 h
  have h0 := hf 0 _ rfl
  have h1 := hf 1 _ rfl
  have h2 := hf 2 _ rfl
  have hlen' : xs.length = 3 := hlen
  match xs, hlen' with
  | [y0, y1, y2], _ =>
    simp [Tryz.cellsInt] at h0 h1 h2
    obtain ⟨a, e0, _, wa⟩ := DataW.trod_int Tryz.underlying3 h0
    obtain ⟨b, e1, _, wb⟩ := DataW.trod_int Tryz.underlying3 h1
    obtain ⟨c, e2, _, wc⟩ := DataW.trod_int Tryz.underlying3 h2
    simp at e0 e1 e2
    exact ⟨(a, b, c), e0, e1, e2, i64_wf wa, i64_wf wb, i64_wf wc⟩
theorem open_ticks {t : TypeId} {n : Nat} {v : Value} {x : DataW H × List MemPlace} (ht : Tryz.prog.underlying t = some (.slice 59)) (h : DataW.trod enc Tryz.prog w base spare held n t [v] = some x) :
    ∃ l : List (Int × Int × Int), TkIn w v l := by
  rcases Deep.open_slice ht h with ⟨e0, rfl⟩ | ⟨a, len, cap, m, k, D, Pl, e0, hb, hl, hm, hmm, rfl, hx⟩
  · obtain rfl : v = .slice none 0 0 := by simpa using e0
    exact ⟨[], none, 0, rfl, by simp, by simp, fun h => by simp at h⟩
  · obtain rfl : v = .slice (some a) len cap := by simpa using e0
    have hlm : len ≤ m := by rw [hmm]; split <;> omega
    have hQ : ∀ i, i < len → ∃ z : Int × Int × Int, (Ck8.I64 z.1 ∧ Ck8.I64 z.2.1 ∧ Ck8.I64 z.2.2) ∧ w.cells? base (a.add (i * 3)) 3 = some [.int .i64 z.1, .int .i64 z.2.1, .int .i64 z.2.2] := by
      intro i hi
      obtain ⟨cs, h1, h2⟩ := hx i (by omega)
      rw [Tryz.cellsTk] at h1
      obtain ⟨_, hlen, _⟩ := World.cells?_some h1
      match cs, hlen with
      | [c0, c1, c2], _ =>
        obtain ⟨q, rfl, rfl, rfl, hq⟩ := open_tick h2
        exact ⟨q, hq, h1⟩
    obtain ⟨Z, hZ⟩ := Deep.choose_lt (α := Int × Int × Int) hQ
    refine ⟨(List.range len).map Z, some a, cap, by simp, by simpa using hl, hm, fun hp => ?_⟩
    have hlen0 : 0 < len := by simpa using hp
    obtain ⟨_, h1⟩ := hZ 0 hlen0
    have h0 := (World.cells?_some h1).2.2 0 (by omega)
    simp [Addr.add] at h0
    have hs := spot_none h0
    obtain ⟨b, o, s⟩ := a
    obtain rfl : s = none := hs
    refine ⟨b, o, rfl, World.block_lt_of_cell? w _ h0, fun j q hq => ?_⟩
    have hj := (List.getElem?_eq_some_iff.1 hq).1
    simp at hj
    simp [hj] at hq
    subst hq
    obtain ⟨g1, g2⟩ := hZ j hj
    have hc := (World.cells?_some g2).2.2
    have c0 := hc 0 (by omega)
    have c1 := hc 1 (by omega)
    have c2 := hc 2 (by omega)
    rw [Deep.add_add, Addr.add_mid] at c0 c1 c2
    exact ⟨c0, c1, c2, g1⟩
set_option maxRecDepth 100000 in
theorem open_ticksV {r : Reach} {b0 : Nat} {t : TypeId} {v : Value} {d : DataW H} {p : List MemPlace} (ht : Tryz.prog.underlying t = some (.slice 59)) (hv : Value.okWide Tryz.prog w r b0 t v) (h : DataW.Trod enc Tryz.prog w base spare held t v d p) :
    ∃ l : List (Int × Int × Int), TkIn w v l := by
  obtain ⟨fuel, hf⟩ := h
  have hc : v.cells.toList = [v] := by
    simp only [Value.okWide, ht] at hv
    cases v <;> first | rfl | (simp only [Cell.okWide, Cell.ok, ht] at hv)
  rw [hc] at hf
  exact open_ticks ht hf
set_option maxRecDepth 100000 in
set_option maxHeartbeats 1000000 in
theorem open_plan {n : Nat} {c0 c1 c2 c3 c4 c5 c6 c7 : Value} {x : DataW H × List MemPlace} (h : DataW.trod enc Tryz.prog w base spare held n 24 [c0, c1, c2, c3, c4, c5, c6, c7] = some x) (hw : (x.1.weights Tryz.prog 24).all (· ≤ reachBytes) = true) :
    ∃ P : Pn, Value.agg #[c0, c1, c2, c3, c4, c5, c6, c7] = .agg (planC P) ∧ P.pa.size ≤ 140737488355328 := by
  obtain ⟨xs, m, _, rfl, _, hlen, hf⟩ := DataW.trod_struct Tryz.underlying24 h
  have h0 := hf 0 _ rfl
  have h1 := hf 1 _ rfl
  have h2 := hf 2 _ rfl
  have h3 := hf 3 _ rfl
  have h4 := hf 4 _ rfl
  have h5 := hf 5 _ rfl
  have h6 := hf 6 _ rfl
  have h7 := hf 7 _ rfl
  have hlen' : xs.length = 8 := hlen
  match xs, hlen' with
  | [y0, y1, y2, y3, y4, y5, y6, y7], _ =>
    simp [Tryz.cellsInt, Tryz.cellsStr, Tryz.cellsMd] at h0 h1 h2 h3 h4 h5 h6 h7
    obtain ⟨a0, e0, _, _⟩ := DataW.trod_int Tryz.underlying3 h0
    obtain ⟨a1, e1, _, _⟩ := DataW.trod_int Tryz.underlying3 h1
    obtain ⟨a2, e2, _, _⟩ := DataW.trod_int Tryz.underlying3 h2
    obtain ⟨a3, e3, _, _⟩ := DataW.trod_int Tryz.underlying3 h3
    obtain ⟨a4, e4, _, _⟩ := DataW.trod_int Tryz.underlying3 h4
    obtain ⟨a5, e5, _, _⟩ := DataW.trod_int Tryz.underlying3 h5
    obtain ⟨a7, e7, _, _⟩ := DataW.trod_int Tryz.underlying22 h7
    obtain ⟨s, e6, hy6, _⟩ := DataW.trod_string Tryz.underlying9 h6
    simp at e0 e1 e2 e3 e4 e5 e6 e7
    subst e0 e1 e2 e3 e4 e5 e6 e7
    refine ⟨⟨a0, a1, a2, a3, a4, a5, s, a7⟩, rfl, ?_⟩
    have hl : s.data.toList.length = s.size := Array.length_toList
    subst hy6
    have hw6 : ((DataW.lit (Lit.string s.data.toList) : DataW H).weights Tryz.prog 9).all (· ≤ reachBytes) = true := by
      simp [DataW.weights, Tryz.underlying24, DataW.weightsEach] at hw ⊢
      first | exact hw.2.2.2.2.2.2.1 | omega
    have := reach_le
    show s.size ≤ _
    simp [DataW.weights] at hw6
    omega
set_option maxRecDepth 100000 in
theorem open_planV {r : Reach} {b0 : Nat} {v : Value} {d : DataW H} {p : List MemPlace} (hv : Value.okWide Tryz.prog w r b0 24 v) (h : DataW.Trod enc Tryz.prog w base spare held 24 v d p) (hw : (d.weights Tryz.prog 24).all (· ≤ reachBytes) = true) :
    ∃ P : Pn, v = .agg (planC P) ∧ P.pa.size ≤ 140737488355328 := by
  simp only [Value.okWide, Tryz.underlying24] at hv
  obtain ⟨cs, rfl, hsz, _⟩ := hv
  obtain ⟨fuel, hf⟩ := h
  have hsz' : cs.size = 8 := hsz.trans Tryz.cellsPl
  obtain ⟨c0, c1, c2, c3, c4, c5, c6, c7, rfl⟩ : ∃ c0 c1 c2 c3 c4 c5 c6 c7, cs = #[c0, c1, c2, c3, c4, c5, c6, c7] := by
    obtain ⟨l⟩ := cs
    match l, hsz' with
    | [c0, c1, c2, c3, c4, c5, c6, c7], _ => exact ⟨c0, c1, c2, c3, c4, c5, c6, c7, rfl⟩
  exact open_plan (x := (d, p)) (by simpa [Value.cells] using hf) hw
end
/-- The law, whatever the plan and the ticks. -/
theorem two_any (P : Pn) (v : Value) (l : List (Int × Int × Int)) (W : World) (hv : TkIn W v l) (hs : P.pa.size ≤ 140737488355328) :
    Calls Tryz.prog 3 #[.agg (planC P), v] W (fun e w' => e = .returned (.bool true) ∧ Below W.heap.size W w') := by
  by_cases hr : 0 ≤ P.rho ∧ P.rho ≤ 999
  · exact two_yes P v l W hr hv hs
  · exact two_no P v W (by omega)
end Go.Proofs.YtchdfogifhfclaaGreatDoor
