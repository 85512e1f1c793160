/- The rows together, and the reckoner with them.  TopResumes for every input, given its plays. -/
import Derived.Test.YtphfekkllibphaaGreatDoorFin1M
import Derived.Test.YtphfekkllibphaaGreatDoorTb
import Derived.Test.YtphfekkllibphaaGreatDoorGa
import Derived.Test.YtphfekkllibphaaGreatDoorGb
import Derived.Test.YtphfekkllibphaaGreatDoorGc
import Derived.Test.YtphfekkllibphaaGreatDoorGd
import Derived.Test.YtphfekkllibphaaGreatDoorGe
import Derived.Test.YtphfekkllibphaaGreatDoorGf
import Derived.Test.YtphfekkllibphaaGreatDoorGg
namespace Go.Proofs.YtphfekkllibphaaGreatDoor.Ev
open Go Go.RowKit

noncomputable def rowsNew : List Row := [row0]
noncomputable def rowsUse : List Row := [row7, row8, row9, row15, row16, row17, row22, row23, row24, row25, row26, row27, row34, row38, row39, row40, row41, row45, row46, row47]
noncomputable def rowsAll : List Row := [row1, row2, row3, row4, row5, row6, row10, row19, row20, row21, row35, row36, row37, row42, row43, row44]
/-- Those of a cut. -/
noncomputable def rowsCut (r : Nat) : List Row := match r with | 0 => [row11, row12, row13, row14] | 1 => [row48, row49, row50] | _ => [row51, row52, row53]
noncomputable def lF (r : Nat) : List (FuncId × SF) := (12, ovRows rowsNew) :: (7, ovRows (rowsCut r ++ rowsAll)) :: (6, ovRows rowsUse) :: l1
noncomputable def CF (r : Nat) : CT := callK Tryz.prog (pickS (lF r)) 100000 100
noncomputable def isTrue : KT := fun v _ => match v with | .b true => true | _ => false
/-- TopResumes, played with these letters: r for cut, q for t, p for the path. -/
noncomputable def top (r q p : Nat) : Bool := CF r 3 [.x .i64 r (.ofNat 0), .x .i64 (6 + q) (.ofNat 0), .sv p] hE isTrue
theorem new_ok : ∀ r ∈ rowsNew, r.f = 12 ∧ r.goes C1 = true := by
  intro r hr
  simp only [rowsNew, List.mem_cons, List.not_mem_nil, or_false] at hr
  subst hr
  exact ⟨rfl, row0_goes⟩
theorem use_ok : ∀ r ∈ rowsUse, r.f = 6 ∧ r.goes C1 = true := by
  intro r hr
  simp only [rowsUse, List.mem_cons, List.not_mem_nil, or_false] at hr
  rcases hr with rfl | rfl | rfl | rfl | rfl | rfl | rfl | rfl | rfl | rfl | rfl | rfl | rfl | rfl | rfl | rfl | rfl | rfl | rfl | rfl
  · exact ⟨rfl, row7_goes⟩
  · exact ⟨rfl, row8_goes⟩
  · exact ⟨rfl, row9_goes⟩
  · exact ⟨rfl, row15_goes⟩
  · exact ⟨rfl, row16_goes⟩
  · exact ⟨rfl, row17_goes⟩
  · exact ⟨rfl, row22_goes⟩
  · exact ⟨rfl, row23_goes⟩
  · exact ⟨rfl, row24_goes⟩
  · exact ⟨rfl, row25_goes⟩
  · exact ⟨rfl, row26_goes⟩
  · exact ⟨rfl, row27_goes⟩
  · exact ⟨rfl, row34_goes⟩
  · exact ⟨rfl, row38_goes⟩
  · exact ⟨rfl, row39_goes⟩
  · exact ⟨rfl, row40_goes⟩
  · exact ⟨rfl, row41_goes⟩
  · exact ⟨rfl, row45_goes⟩
  · exact ⟨rfl, row46_goes⟩
  · exact ⟨rfl, row47_goes⟩
theorem all_ok : ∀ r ∈ rowsAll, r.f = 7 ∧ r.goes C1 = true := by
  intro r hr
  simp only [rowsAll, List.mem_cons, List.not_mem_nil, or_false] at hr
  rcases hr with rfl | rfl | rfl | rfl | rfl | rfl | rfl | rfl | rfl | rfl | rfl | rfl | rfl | rfl | rfl | rfl
  · exact ⟨rfl, row1_goes⟩
  · exact ⟨rfl, row2_goes⟩
  · exact ⟨rfl, row3_goes⟩
  · exact ⟨rfl, row4_goes⟩
  · exact ⟨rfl, row5_goes⟩
  · exact ⟨rfl, row6_goes⟩
  · exact ⟨rfl, row10_goes⟩
  · exact ⟨rfl, row19_goes⟩
  · exact ⟨rfl, row20_goes⟩
  · exact ⟨rfl, row21_goes⟩
  · exact ⟨rfl, row35_goes⟩
  · exact ⟨rfl, row36_goes⟩
  · exact ⟨rfl, row37_goes⟩
  · exact ⟨rfl, row42_goes⟩
  · exact ⟨rfl, row43_goes⟩
  · exact ⟨rfl, row44_goes⟩
theorem cut0_ok : ∀ r ∈ rowsCut 0, r.f = 7 ∧ r.goes C1 = true := by
  intro r hr
  simp only [rowsCut, List.mem_cons, List.not_mem_nil, or_false] at hr
  rcases hr with rfl | rfl | rfl | rfl
  · exact ⟨rfl, row11_goes⟩
  · exact ⟨rfl, row12_goes⟩
  · exact ⟨rfl, row13_goes⟩
  · exact ⟨rfl, row14_goes⟩
theorem cut1_ok : ∀ r ∈ rowsCut 1, r.f = 7 ∧ r.goes C1 = true := by
  intro r hr
  simp only [rowsCut, List.mem_cons, List.not_mem_nil, or_false] at hr
  rcases hr with rfl | rfl | rfl
  · exact ⟨rfl, row48_goes⟩
  · exact ⟨rfl, row49_goes⟩
  · exact ⟨rfl, row50_goes⟩
theorem cut2_ok : ∀ r ∈ rowsCut 2, r.f = 7 ∧ r.goes C1 = true := by
  intro r hr
  simp only [rowsCut, List.mem_cons, List.not_mem_nil, or_false] at hr
  rcases hr with rfl | rfl | rfl
  · exact ⟨rfl, row51_goes⟩
  · exact ⟨rfl, row52_goes⟩
  · exact ⟨rfl, row53_goes⟩
theorem cut_ok {c : Nat} (hc : c < 3) : ∀ r ∈ rowsCut c, r.f = 7 ∧ r.goes C1 = true := by
  have h : c = 0 ∨ c = 1 ∨ c = 2 := by omega
  rcases h with rfl | rfl | rfl
  · exact cut0_ok
  · exact cut1_ok
  · exact cut2_ok
theorem lF_ok {c : Nat} (hc : c < 3) : ∀ q ∈ lF c, Fine1 Tryz.prog q := by
  intro q hq
  unfold lF at hq
  rcases List.mem_cons.1 hq with rfl | hq
  · exact fun args h K hk => ovRows_ok C1_ok new_ok hk
  rcases List.mem_cons.1 hq with rfl | hq
  · refine fun args h K hk => ovRows_ok C1_ok (fun r hr => ?_) hk
    rcases List.mem_append.1 hr with hr | hr
    · exact cut_ok hc r hr
    · exact all_ok r hr
  rcases List.mem_cons.1 hq with rfl | hq
  · exact fun args h K hk => ovRows_ok C1_ok use_ok hk
  · exact l1_ok q hq
theorem CF_ok {c : Nat} (hc : c < 3) : CallOK Tryz.prog (mayDefer Tryz.prog (pickS (lF c))) (CF c) := reckon (pickS_ok (lF_ok hc)) mixed own _ _
end Go.Proofs.YtphfekkllibphaaGreatDoor.Ev
namespace Go.Proofs.YtphfekkllibphaaGreatDoor.Ev
open Go Go.RowKit

theorem rest3 (cut : Int) : ∃ r : Nat, r < 3 ∧ Int.tmod (Int.tmod cut 3 + 3) 3 = (r : Int) := by
  have h := tmod3 cut
  refine ⟨(Int.tmod (Int.tmod cut 3 + 3) 3).toNat, ?_, ?_⟩
  · have := tmod3 (Int.tmod cut 3 + 3)
    omega
  · have : 0 ≤ Int.tmod (Int.tmod cut 3 + 3) 3 := Int.tmod_nonneg 3 (by omega)
    omega
theorem isTrue_inv {v : V} {h : H} (hk : isTrue v h = true) : v = .b true := by
  unfold isTrue at hk
  split at hk
  · rfl
  · cases hk
/-- The letters of cut. -/
def cutL (r : Nat) (cut : Int) : Nat → Int := fun i => if i = r then cut else (i : Int)
theorem cutL_ok {r : Nat} {cut : Int} (h : Int.tmod (Int.tmod cut 3 + 3) 3 = (r : Int)) : ∀ i, i < 3 → Int.tmod (Int.tmod (cutL r cut i) 3 + 3) 3 = (i : Int) := by
  intro i hi
  unfold cutL
  by_cases hc : i = r
  · rw [if_pos hc, h, hc]
  · rw [if_neg hc]
    have h5 : i = 0 ∨ i = 1 ∨ i = 2 := by omega
    rcases h5 with rfl | rfl | rfl <;> rfl
set_option maxRecDepth 100000 in
theorem played {r q p : Nat} {c : Nat → Int} {tA tB : Int} {LA LB : Nat} {τ : Nat → ByteArray} (hr : r < 3) (hq : q < 2) (hp : p < 2) (hk : top r q p = true) (hl : LetOK c tA tB LA LB τ) (W : World) :
    Calls Tryz.prog 3 #[.int .i64 (c r), .int .i64 (if q = 0 then tA else tB), .string (τ p)] W (fun e w' => e = .returned (.bool true) ∧ Below W.heap.size W w') := by
  have hk' : CF r 3 [.x .i64 r (.ofNat 0), .x .i64 (6 + q) (.ofNat 0), .sv p] hE isTrue = true := hk
  obtain ⟨v, h', hv, hd⟩ := CF_ok hr _ _ _ _ hk'
  have ok := tab_ok hl
  have e1 : c r = sg c tA tB LA LB r + Int.ofNat 0 := by
    unfold sg
    rw [if_pos hr]
    simp
  have e2 : (if q = 0 then tA else tB) = sg c tA tB LA LB (6 + q) + Int.ofNat 0 := by
    have h5 : q = 0 ∨ q = 1 := by omega
    rcases h5 with rfl | rfl <;> simp [sg]
  have hn := nLet_le
  have ha : LR ⟨0, fun _ => False, fun _ _ h => h, fun _ => 0, fun _ => 0, nLet, sg c tA tB LA LB, τ, ok⟩ [.x .i64 r (.ofNat 0), .x .i64 (6 + q) (.ofNat 0), .sv p] [.int .i64 (c r), .int .i64 (if q = 0 then tA else tB), .string (τ p)] := by
    rw [e1, e2]
    exact .cons (.x (by show r < nLet; omega)) (.cons (.x (by show 6 + q < nLet; omega)) (.cons (.sv (by show p < nLet; omega)) .nil))
  have hdo := hd _ W _ (sat_hE ok W) ha
  refine (calls_of_does own Tryz.func3 rfl hdo).mono ?_
  rintro e w' ⟨x, rfl, ρ', hx, hs, st⟩
  rw [isTrue_inv hv] at hx
  cases hx
  exact ⟨rfl, below_of_step st⟩
/-- TopResumes, whatever is handed in. -/
theorem resumes_any (hplay : ∀ r q p, r < 3 → q < 2 → p < 2 → top r q p = true) (cut t : Int) (path : ByteArray) (hp : path.size ≤ 140737488355328) (W : World) :
    Calls Tryz.prog 3 #[.int .i64 cut, .int .i64 t, .string path] W (fun e w' => e = .returned (.bool true) ∧ Below W.heap.size W w') := by
  obtain ⟨r, hr, hc⟩ := rest3 cut
  have hcl := cutL_ok hc
  have hcr : cutL r cut r = cut := by unfold cutL; rw [if_pos rfl]
  obtain ⟨p, τ, hp2, hτ, hP, hQ⟩ : ∃ (p : Nat) (τ : Nat → ByteArray), p < 2 ∧ τ p = path ∧ (pathE (τ 0) = true ∧ (τ 0).size ≤ 140737488355328) ∧ (pathE (τ 1) = false ∧ (τ 1).size ≤ 140737488355328) := by
    cases hb : pathE path with
    | true => exact ⟨0, fun i => if i = 0 then path else ⟨#[65]⟩, by omega, rfl, ⟨hb, hp⟩, ⟨show pathE ⟨#[65]⟩ = false from by decide, show (⟨#[65]⟩ : ByteArray).size ≤ 140737488355328 from by decide⟩⟩
    | false => exact ⟨1, fun i => if i = 0 then ⟨#[]⟩ else path, by omega, rfl, ⟨show pathE ⟨#[]⟩ = true from by decide, show (⟨#[]⟩ : ByteArray).size ≤ 140737488355328 from by decide⟩, ⟨hb, hp⟩⟩
  rw [← hcr, ← hτ]
  by_cases ht : min (max t 4) 500 < 128
  · have hl : LetOK (cutL r cut) t 500 (min (max t 4) 500).toNat 500 τ := ⟨hcl, by omega, by omega, hP, hQ⟩
    have := played (q := 0) hr (by omega) hp2 (hplay r 0 p hr (by omega) hp2) hl W
    simpa using this
  · have hl : LetOK (cutL r cut) 4 t 4 (min (max t 4) 500).toNat τ := ⟨hcl, by omega, by omega, hP, hQ⟩
    have := played (q := 1) hr (by omega) hp2 (hplay r 1 p hr (by omega) hp2) hl W
    simpa using this
end Go.Proofs.YtphfekkllibphaaGreatDoor.Ev
