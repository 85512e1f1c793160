/- What stands for written: some number. And Scan's end.  What stands for functions, all of it: the reckoner with them is right. -/
import Derived.Test.YtphfekkllibphaaGreatDoorOvdM
import Derived.Test.YtphfekkllibphaaGreatDoorWrt
import Derived.Defers
import Derived.Recover
import Derived.Handy
import Derived.Laws.NewBlocks
namespace Go.Proofs.YtphfekkllibphaaGreatDoor.Ev
open Go Go.RowKit Go.Maps Go.MapKept

noncomputable def siteK (h : H) (v : V) : Bool := match v with
  | .p b 0 => onC (h.get b) fun nb tb _ _ => (Nat.ble 1 nb).rec false (match tb.get .u 1 with
    | .p d 0 => onC (h.get d) fun nd td _ _ => (Nat.ble 2 nd).rec false (match td.get .u 2 with
      | .i .i64 _ => true
      | _ => false)
    | _ => false)
  | _ => false
noncomputable def nodupN : List Nat → Bool := List.rec true (fun n l ih => (l.contains n).rec ih false)
noncomputable def keyI64 (v : V) : Option Int := match v with | .i .i64 k => (i64ok k).rec none (some k) | _ => none
noncomputable def nodupK : List (V × V × Nat) → Bool := List.rec true (fun e l ih => (l.all fun f => match keyI64 e.1, keyI64 f.1 with | some a, some b => !decide (a = b) | _, _ => false).rec false ih)
noncomputable def ovWritten : List V → H → KT → Bool := fun args h K => match args with
  | [.p r 0] => onC (h.get r) fun nr tr _ _ => (Nat.ble 4 nr).rec false (match tr.get .u 4 with
    | .m m => onM (h.get m) fun es cl => ((es.all fun e => (keyI64 e.1).isSome && ltN e.2.2 cl && siteK h e.2.1) && nodupN (es.map (·.2.2)) && nodupK es && Nat.ble es.length 1000).rec false (K (.ui .i64) h)
    | _ => false)
  | _ => false
section
variable {h : H} {K : KT}
theorem nodupN_ok : ∀ {l : List Nat}, nodupN l = true → l.Nodup := by
  intro l
  induction l with
  | nil => exact fun _ => List.nodup_nil
  | cons n l ih =>
    intro hk
    obtain ⟨h1, h2⟩ := recB_true (show (Bool.rec (nodupN l) false (l.contains n) : Bool) = true from hk)
    refine List.nodup_cons.2 ⟨fun hm => ?_, ih h2⟩
    rw [List.contains_iff_mem.2 hm] at h1
    cases h1
theorem siteK_ok {v : V} (hk : siteK h v = true) {ρ : Ren} {w : World} {x : Value} (s : Sat ρ h w) (hv : VR ρ v x) : SiteV w x := by
  unfold siteK at hk
  split at hk <;> first | (cases hk; done) | skip
  rename_i b
  obtain ⟨nb, tb, eb, gb, hb, hk⟩ := O.c_inv hk
  obtain ⟨g1, hk⟩ := recB_false hk
  split at hk <;> first | (cases hk; done) | skip
  rename_i d e1
  obtain ⟨nd, td, ed, gd, hd, hk⟩ := O.c_inv hk
  obtain ⟨g2, hk⟩ := recB_false hk
  split at hk <;> first | (cases hk; done) | skip
  rename_i n e2
  have hp := hv.p_inv
  obtain ⟨_, cs1, fz1, c2, c3, c4, c5, c6, c7⟩ := s.cells hb
  obtain ⟨_, cs2, fz2, d2, d3, d4, d5, d6, d7⟩ := s.cells hd
  obtain ⟨y1, qy1, hv1⟩ := c6 0 (ble_le g1)
  obtain ⟨y2, qy2, hv2⟩ := d6 1 (ble_le g2)
  rw [show 0 + 1 = 1 from rfl, e1] at hv1
  rw [show 1 + 1 = 2 from rfl, e2] at hv2
  refine ⟨ρ.π b, ρ.π d, n, hp.2, ?_, ?_, (Array.getElem?_eq_some_iff.1 c2).1, (Array.getElem?_eq_some_iff.1 d2).1⟩
  · rw [cell_of c2, qy1, hv1.p_inv.2]
  · rw [cell_of d2, qy2, hv2.i_inv]
theorem keyI64_inv {v : V} {k : Int} (h : keyI64 v = some k) : v = .i .i64 k ∧ i64ok k = true := by
  unfold keyI64 at h
  split at h <;> first | (cases h; done) | skip
  rename_i j
  cases hj : i64ok j with
  | true => rw [hj] at h; injection h with h; subst h; exact ⟨rfl, hj⟩
  | false => rw [hj] at h; cases h
theorem nodupK_ok {ρ : Ren} : ∀ {es : List (V × V × Nat)} {es' : List MapEntry}, nodupK es = true → es.length = es'.length → (∀ (i : Nat) (e : V × V × Nat) (e' : MapEntry), es[i]? = some e → es'[i]? = some e' → VR ρ e.1 e'.key) → (es'.map (·.key)).Nodup := by
  intro es
  induction es with
  | nil =>
    intro es' _ hl _
    have : es' = [] := List.eq_nil_of_length_eq_zero hl.symm
    rw [this]
    exact List.nodup_nil
  | cons e es ih =>
    intro es' hk hl hr
    cases es' with
    | nil => simp at hl
    | cons e' es' =>
      obtain ⟨h1, h2⟩ := recB_false (show (Bool.rec false (nodupK es) (es.all fun f => match keyI64 e.1, keyI64 f.1 with | some a, some b => !decide (a = b) | _, _ => false) : Bool) = true from hk)
      have hl' : es.length = es'.length := by simpa using hl
      refine List.nodup_cons.2 ⟨fun hm => ?_, ih h2 hl' (fun i a b ha hb => hr (i + 1) a b (by simpa using ha) (by simpa using hb))⟩
      obtain ⟨f', hf', hke⟩ := List.mem_map.1 hm
      obtain ⟨i, hi⟩ := List.getElem?_of_mem hf'
      have hi' := (List.getElem?_eq_some_iff.1 hi).1
      obtain ⟨f, hf⟩ : ∃ f, es[i]? = some f := ⟨_, List.getElem?_eq_getElem (by omega)⟩
      have h3 := List.all_eq_true.1 h1 f (List.mem_of_getElem? hf)
      split at h3 <;> first | (cases h3; done) | skip
      rename_i a b ea eb
      have k1 := hr 0 e e' rfl rfl
      have k2 := hr (i + 1) f f' (by simpa using hf) (by simpa using hi)
      rw [(keyI64_inv ea).1] at k1
      rw [(keyI64_inv eb).1] at k2
      have q1 := k1.i_inv
      have q2 := k2.i_inv
      have hke' : f'.key = e'.key := hke
      rw [hke', q1] at q2
      injection q2 with _ q2
      simp [q2] at h3
set_option maxRecDepth 100000 in
theorem ovWritten_ok (hO : Own Tryz.prog) {args : List V} (hk : ovWritten args h K = true) : ∃ v h', K v h' = true ∧ Stands Tryz.prog 20 args h v h' := by
  unfold ovWritten at hk
  split at hk <;> first | (cases hk; done) | skip
  rename_i r
  obtain ⟨nr, tr, er, gr, hbr, hk⟩ := O.c_inv hk
  obtain ⟨g1, hk⟩ := recB_false hk
  split at hk <;> first | (cases hk; done) | skip
  rename_i m e1
  obtain ⟨es, cl, hm, hk⟩ := O.m_inv hk
  obtain ⟨g2, hk⟩ := recB_false hk
  obtain ⟨g2, g3⟩ := and2 g2
  obtain ⟨g2, g4⟩ := and2 g2
  obtain ⟨g2, g5⟩ := and2 g2
  refine ⟨_, _, hk, Stands.of_pure hO Tryz.func20 rfl (fun ρ w xs s hl => ?_)⟩
  obtain ⟨x, rfl, hx⟩ := hl.one_inv
  rw [hx.p_inv.2]
  obtain ⟨_, cs1, fz1, c2, c3, c4, c5, c6, c7⟩ := s.cells hbr
  obtain ⟨y1, qy1, hv1⟩ := c6 3 (ble_le g1)
  rw [show 3 + 1 = 4 from rfl, e1] at hv1
  have hm1 := hv1.m_inv
  obtain ⟨_, es', m1, m2, m3⟩ := s.map_of hm
  have hlen := ble_le g3
  have hent : ∀ x ∈ es'.toList, ∃ e ∈ es, (∃ k, x.key = .int .i64 k ∧ i64ok k = true) ∧ x.born < cl ∧ x.born = e.2.2 ∧ SiteV w x.val := by
    intro x hx
    obtain ⟨i, hi⟩ := List.getElem?_of_mem hx
    have hi' := (List.getElem?_eq_some_iff.1 hi).1
    rw [Array.length_toList] at hi'
    obtain ⟨e, he⟩ : ∃ e, es[i]? = some e := ⟨_, List.getElem?_eq_getElem (by omega)⟩
    have hem := List.mem_of_getElem? he
    obtain ⟨k1, k2, k3⟩ := m3 i e x he (by rw [← Array.getElem?_toList]; exact hi)
    have h5 := List.all_eq_true.1 g2 e hem
    obtain ⟨h5, h6⟩ := and2 h5
    obtain ⟨h5, h7⟩ := and2 h5
    obtain ⟨k, hk⟩ := Option.isSome_iff_exists.1 h5
    obtain ⟨e9, e10⟩ := keyI64_inv hk
    rw [e9] at k1
    exact ⟨e, hem, ⟨k, k1.i_inv, e10⟩, by rw [k3]; exact ble_le h7, k3, siteK_ok h6 s k2⟩
  have hborn : (es'.toList.map (·.born)) = es.map (·.2.2) := by
    refine List.ext_getElem? fun i => ?_
    rw [List.getElem?_map, List.getElem?_map]
    by_cases hi : i < es.length
    · have hi2 : i < es'.toList.length := by rw [Array.length_toList]; omega
      rw [List.getElem?_eq_getElem hi, List.getElem?_eq_getElem hi2]
      have := (m3 i es[i] es'.toList[i] (List.getElem?_eq_getElem hi) (by rw [← Array.getElem?_toList, List.getElem?_eq_getElem hi2])).2.2
      rw [Option.map_some, Option.map_some, this]
    · rw [List.getElem?_eq_none (l := es'.toList) (by rw [Array.length_toList]; omega), List.getElem?_eq_none (l := es) (by omega)]
      rfl
  have hfit : Go.WideElems.Fit Tryz.prog 3 (siteR w) es' cl := by
    refine ⟨by unfold maxLen; omega, ⟨fun x hx => ?_, ?_, ?_⟩, fun x hx => ?_⟩
    · obtain ⟨e, _, _, h1, _⟩ := hent x hx
      exact h1
    · rw [hborn]
      exact nodupN_ok g5
    · exact nodupK_ok (ρ := ρ) g4 (by rw [Array.length_toList]; exact m2) (fun i e e' he he' => (m3 i e e' he (by rw [← Array.getElem?_toList]; exact he')).1)
    · obtain ⟨e, _, ⟨k, hk, hk2⟩, _, _, hs⟩ := hent x hx
      obtain ⟨q1, q2⟩ := and2 hk2
      refine ⟨(.int .i64 k, .lit (.bool true)), ?_⟩
      have hkey := keyI (x := k) ⟨of_decide_eq_true q1, of_decide_eq_true q2⟩
      simp [Go.WideElems.rd, hk, hkey, siteR, hs]
  refine (written_any (ρ.π r) (ρ.π m) es'.size _ w (by rw [cell_of c2, qy1, hm1.2]) ⟨es', cl, m1, hfit, Nat.le_refl _, rfl⟩).mono ?_
  rintro e w' ⟨⟨x, rfl⟩, hb⟩
  exact ⟨_, rfl, .ui _ _, hb⟩
end
end Go.Proofs.YtphfekkllibphaaGreatDoor.Ev
namespace Go.Proofs.YtphfekkllibphaaGreatDoor.Ev
open Go Go.RowKit

theorem assert_broken (w : World) : (Instr.typeAssert (.iface 419 (.agg #[])) 20 419 true).run Tryz.prog w = .ok (.tuple #[.agg #[], .bool true]) w := by
  simp [Instr.typeAssert, run_underlying Tryz.underlying419, go_sem, Result.andThen]
set_option maxRecDepth 100000 in
set_option maxHeartbeats 1000000 in
theorem catch_ok : CatchOK Tryz.prog 300 419 := by
  intro p q sp n w w2 c1 c2 hp hsp hst
  refine callsD_of_wpS Tryz.func300 rfl fun c₀ cs hu => ?_
  apply wpS_seq
  apply wpS_region
  simp [wpOpsS, go_sem, recoverD, hu, Tryz.ntmps300, Exit.thenS, assert_broken, Array.replicate]
  apply wpS_seq
  apply wpS_region
  simp [wpOpsS, go_sem, Exit.thenS, Array.replicate]
  refine wpS_cond (t := true) (by simp [Act.eval, Array.replicate]) ?_
  simp only [if_true]
  have e1 : (w.alloc (.cells #[] 419)).cell? ⟨p, 0, none⟩ = some (.pointer (some ⟨sp, 0, none⟩)) := (World.cell?_alloc_past _ _ _ hp).trans c1
  have e2 : (w.alloc (.cells #[] 419)).cell? ⟨sp, 2, none⟩ = some (.int .i64 n) := (World.cell?_alloc_past _ _ _ hsp).trans c2
  simp [storeCells, go_sem] at hst
  apply wpS_region
  simp [wpOpsS, go_sem, Exit.thenS, Array.replicate, e1, e2, hst, bodyPostS, results, Tryz.results300]
theorem own : Own Tryz.prog := by
  have h : Tryz.prog.funcs.all (fun fn => !(fn.name == "runtime.NumGoroutine")) = true := by kernel_rfl
  intro f fn hf
  have := Array.all_eq_true'.1 h fn (Array.mem_of_getElem? hf)
  simpa using this
theorem mixed : Tryz.prog.follows .mixedOrders = true := by kernel_rfl
abbrev SF := List V → H → KT → Bool
noncomputable def pickS (l : List (FuncId × SF)) (f : FuncId) : Option SF := List.rec none (fun q _ ih => (Nat.beq f q.1).rec ih (some q.2)) l
def Fine1 (P : Program) (q : FuncId × SF) : Prop := ∀ (args : List V) (h : H) (K : KT), q.2 args h K = true → ∃ v h', K v h' = true ∧ Stands P q.1 args h v h'
theorem pickS_ok {P : Program} : ∀ {l : List (FuncId × SF)}, (∀ q ∈ l, Fine1 P q) → StandOK P (pickS l) := by
  intro l
  induction l with
  | nil => intro _ f s hs; cases hs
  | cons q l ih =>
    intro hq f s hs args h K hk
    have hs' : ((Nat.beq f q.1).rec (pickS l f) (some q.2) : Option SF) = some s := hs
    cases hb : Nat.beq f q.1 with
    | true =>
      rw [hb] at hs'
      injection hs' with e
      subst e
      obtain ⟨v, h', hk, hst⟩ := hq q List.mem_cons_self args h K hk
      rw [beq_eq hb]
      exact ⟨v, h', hk, hst⟩
    | false =>
      rw [hb] at hs'
      exact ih (fun q' hm => hq q' (List.mem_cons_of_mem _ hm)) f s hs' args h K hk
noncomputable def l0 : List (FuncId × SF) := [(196, ovSum), (288, ovChunk), (164, ovVals), (20, ovWritten), (326, ovIndexByte), (93, ovCount), (55, ovFine)]
theorem l0_ok : ∀ q ∈ l0, Fine1 Tryz.prog q := by
  intro q hq
  unfold l0 at hq
  simp only [List.mem_cons, List.not_mem_nil, or_false] at hq
  rcases hq with rfl | rfl | rfl | rfl | rfl | rfl | rfl
  · exact fun args h K hk => ovSum_ok own hk
  · exact fun args h K hk => ovChunk_ok own hk
  · exact fun args h K hk => ovVals_ok own hk
  · exact fun args h K hk => ovWritten_ok own hk
  · exact fun args h K hk => ovIndexByte_ok hk
  · exact fun args h K hk => ovCount_ok hk
  · exact fun args h K hk => ovFine_ok own hk
noncomputable def C0 : CT := callK Tryz.prog (pickS l0) 100000 100
theorem C0_ok : CallOK Tryz.prog (mayDefer Tryz.prog (pickS l0)) C0 := reckon (pickS_ok l0_ok) mixed own _ _
noncomputable def l1 : List (FuncId × SF) := (210, ovScan Tryz.prog C0 (panK Tryz.prog C0 100000 100000 100) 210 300 419) :: (29, ovValid C0 29) :: l0
set_option maxRecDepth 100000 in
theorem l1_ok : ∀ q ∈ l1, Fine1 Tryz.prog q := by
  intro q hq
  unfold l1 at hq
  rcases List.mem_cons.1 hq with rfl | hq
  · exact fun args h K hk => scan_ok C0_ok (draw_ok mixed C0_ok) (panK_ok C0_ok (draw_ok mixed C0_ok) own _ _ _) own Tryz.func300 rfl catch_ok hk
  · rcases List.mem_cons.1 hq with rfl | hq
    · exact fun args h K hk => ovValid_ok own C0_ok hk
    · exact l0_ok q hq
/-- Calls, with all that stands for something. -/
noncomputable def C1 : CT := callK Tryz.prog (pickS l1) 100000 100
theorem C1_ok : CallOK Tryz.prog (mayDefer Tryz.prog (pickS l1)) C1 := reckon (pickS_ok l1_ok) mixed own _ _
end Go.Proofs.YtphfekkllibphaaGreatDoor.Ev
