/- What stands for a few functions (2): fine, Valid of a letter, the places and counts of a byte; Scan's end. -/
import Derived.Test.YtphfekkllibphaaGreatDoorOvaM
import Derived.Lib.Bytealg
import Derived.Laws.Externs
namespace Go.Proofs.YtphfekkllibphaaGreatDoor.Ev
open Go Go.RowKit

section
variable {ρ : Ren} {h : H} {K : KT} {w : World}
/-- A text's bytes, as they are known. -/
abbrev BR (ρ : Ren) (l : List V) (us : List UInt8) : Prop := LR ρ l (us.map fun c => .int .u8 c.toNat)
theorem BR.cons_inv {v : V} {l : List V} {us : List UInt8} (hl : BR ρ (v :: l) us) : ∃ u us', us = u :: us' ∧ VR ρ v (.int .u8 u.toNat) ∧ BR ρ l us' := by
  cases us with
  | nil => have := hl.1; simp at this
  | cons u us => exact ⟨u, us, rfl, hl.2 0 v _ rfl rfl, ⟨by have := hl.1; simpa using this, fun i q y hq hy => hl.2 (i + 1) q y (by simpa using hq) (by simpa using hy)⟩⟩
theorem BR.nil_inv {us : List UInt8} (hl : BR ρ [] us) : us = [] := by
  cases us with
  | nil => rfl
  | cons u us => have := hl.1; simp at this
theorem byte_inv {c : Nat} {u : UInt8} (hv : VR ρ (.i .u8 (.ofNat c)) (.int .u8 u.toNat)) : c = u.toNat := by
  have := hv.i_inv
  injection this with _ this
  have h2 : ((u.toNat : Nat) : Int) = ((c : Nat) : Int) := this
  exact_mod_cast h2.symm
theorem size_of_br {l : List V} {s : ByteArray} (hl : BR ρ l s.data.toList) : s.size = l.length := by
  have := hl.1
  rw [List.length_map] at this
  rw [this]
  cases s
  exact (Array.length_toList).symm
theorem fineV_ok : ∀ (l : List V) (k : Nat) (K : Bool → Bool), fineV l k K = true → ∃ b, K b = true ∧ ∀ (ρ : Ren) (us : List UInt8), BR ρ l us → b = fineL us k := by
  intro l
  induction l with
  | nil =>
    intro k K hk
    refine ⟨_, hk, fun ρ us hl => ?_⟩
    rw [hl.nil_inv]
    show (Nat.ble (Nat.succ 0) k && Nat.ble k 6) = decide (0 < k ∧ k ≤ 6)
    rw [Bool.eq_iff_iff]
    simp only [Bool.and_eq_true, Nat.ble_eq, decide_eq_true_eq]
    exact Iff.rfl
  | cons v l ih =>
    intro k K hk
    have hk9 : (match (generalizing := false) v with
      | .i .u8 (.ofNat c) => (Nat.beq c 47).rec (((Nat.ble 97 c && Nat.ble c 122) || (Nat.ble 48 c && Nat.ble c 57)).rec (K false) ((ltN 6 (Nat.succ k)).rec (fineV l (Nat.succ k) K) (K false))) ((Nat.beq k 0).rec (fineV l 0 K) (K false))
      | _ => false) = true := hk
    clear hk
    split at hk9 <;> first | (cases hk9; done) | skip
    have hk := hk9
    clear hk9
    rename_i c
    have go : ∀ b, K b = true → (∀ (ρ : Ren) (u : UInt8) (us : List UInt8), c = u.toNat → BR ρ l us → b = fineL (u :: us) k) → ∃ b, K b = true ∧ ∀ (ρ : Ren) (us : List UInt8), BR ρ (.i .u8 (.ofNat c) :: l) us → b = fineL us k := by
      intro b hb hr
      refine ⟨b, hb, fun ρ us hl => ?_⟩
      obtain ⟨u, us', rfl, hv, hl'⟩ := hl.cons_inv
      exact hr ρ u us' (byte_inv hv) hl'
    cases h47 : Nat.beq c 47 with
    | true =>
      rw [h47] at hk
      have e47 := beq_eq h47
      cases hk0 : Nat.beq k 0 with
      | true =>
        rw [hk0] at hk
        have e0 := beq_eq hk0
        refine go false hk (fun ρ u us hc _ => ?_)
        have hu : u = 47 := UInt8.toNat_inj.1 (by rw [← hc, e47]; rfl)
        subst hu e0
        rfl
      | false =>
        rw [hk0] at hk
        have e0 : k ≠ 0 := fun e => by rw [e] at hk0; cases hk0
        obtain ⟨b, hb, hr⟩ := ih 0 K hk
        refine go b hb (fun ρ u us hc hl => ?_)
        have hu : u = 47 := UInt8.toNat_inj.1 (by rw [← hc, e47]; rfl)
        rw [hr ρ us hl, hu]
        simp [fineL, e0]
    | false =>
      rw [h47] at hk
      have e47 : c ≠ 47 := fun e => by rw [e] at h47; cases h47
      have hne : ∀ u : UInt8, c = u.toNat → u ≠ 47 := fun u hc e => e47 (by rw [hc, e]; rfl)
      have han : ∀ u : UInt8, c = u.toNat → alnum u = ((Nat.ble 97 c && Nat.ble c 122) || (Nat.ble 48 c && Nat.ble c 57)) := by
        intro u hc
        unfold alnum
        rw [← hc, Bool.eq_iff_iff]
        simp only [Bool.or_eq_true, Bool.and_eq_true, decide_eq_true_eq, Nat.ble_eq]
      cases hal : ((Nat.ble 97 c && Nat.ble c 122) || (Nat.ble 48 c && Nat.ble c 57)) with
      | false =>
        rw [hal] at hk
        refine go false hk (fun ρ u us hc _ => ?_)
        have h1 := han u hc
        rw [hal] at h1
        simp [fineL, hne u hc, h1]
      | true =>
        rw [hal] at hk
        cases h6 : ltN 6 (Nat.succ k) with
        | true =>
          rw [h6] at hk
          have e6 : 6 < k + 1 := ble_le h6
          refine go false hk (fun ρ u us hc _ => ?_)
          have h1 := han u hc
          rw [hal] at h1
          simp only [fineL, hne u hc, h1, if_false, if_true]
          rw [if_pos e6]
        | false =>
          rw [h6] at hk
          have e6 : ¬ 6 < k + 1 := fun h => by rw [show ltN 6 (Nat.succ k) = true from Nat.ble_eq_true_of_le h] at h6; cases h6
          obtain ⟨b, hb, hr⟩ := ih (k + 1) K hk
          refine go b hb (fun ρ u us hc hl => ?_)
          have h1 := han u hc
          rw [hal] at h1
          rw [hr ρ us hl]
          simp only [fineL, hne u hc, h1, if_false, if_true]
          rw [if_neg e6]
set_option maxRecDepth 100000 in
theorem ovFine_ok (hO : Own Tryz.prog) {args : List V} (hk : ovFine args h K = true) : ∃ v h', K v h' = true ∧ Stands Tryz.prog 55 args h v h' := by
  unfold ovFine at hk
  split at hk <;> first | (cases hk; done) | skip
  rename_i l
  obtain ⟨g, hk⟩ := recB_false hk
  obtain ⟨b, hk, hr⟩ := fineV_ok _ _ _ hk
  refine ⟨_, _, hk, Stands.of_pure hO Tryz.func55 rfl (fun ρ w xs s hl => ?_)⟩
  obtain ⟨x, rfl, hx⟩ := hl.one_inv
  obtain ⟨p, rfl, hp⟩ := hx.s_inv
  have hsz := size_of_br hp
  have hg := ble_le g
  refine (fine_any p w (by omega)).mono ?_
  rintro e w' ⟨rfl, rfl⟩
  refine ⟨_, rfl, ?_, Below.refl _ _⟩
  rw [hr ρ _ hp]
  exact .b _
theorem alnum_eq (u : UInt8) : alnumE u = alnum u := rfl
theorem fineE_eq : ∀ (us : List UInt8) (k : Nat), fineE us k = fineL us k := by
  intro us
  induction us with
  | nil => exact fun k => rfl
  | cons u us ih =>
    intro k
    unfold fineE fineL
    rw [alnum_eq, ih, ih]
theorem pathE_eq (p : ByteArray) : pathE p = pathOK p := by
  unfold pathE pathOK
  rw [fineE_eq]
set_option maxRecDepth 100000 in
theorem ovValid_ok (hO : Own Tryz.prog) {D : FuncId → Bool} {C : CT} (hC : CallOK Tryz.prog D C) {args : List V} (hk : ovValid C 29 args h K = true) : ∃ v h', K v h' = true ∧ Stands Tryz.prog 29 args h v h' := by
  unfold ovValid at hk
  split at hk
  · rename_i a
    split at hk <;> first | (cases hk; done) | skip
    rename_i q hq
    have h1 := List.find?_some hq
    have hm := List.mem_of_find?_eq_some hq
    refine ⟨_, _, hk, Stands.of_pure hO Tryz.func29 rfl (fun ρ w xs s hl => ?_)⟩
    obtain ⟨x, rfl, hx⟩ := hl.one_inv
    cases hx
    obtain ⟨p1, p2, p3⟩ := ρ.ok.paths q hm
    have ea := beq_eq h1
    rw [ea] at p2 p3
    refine (valid_any _ w p3).mono ?_
    rintro e w' ⟨rfl, rfl⟩
    refine ⟨_, rfl, ?_, Below.refl _ _⟩
    rw [← pathE_eq, p2]
    exact .b _
  · obtain ⟨v, h', hk, hr⟩ := hC _ _ _ _ hk
    exact ⟨v, h', hk, fun ρ w xs s hl o a next Q hnx => (hr ρ w xs s hl).1 o a next Q hnx⟩
theorem idx_shift : ∀ (us : List UInt8) (c : UInt8) (i : Nat) (r : Option Nat), (r = none ∧ Lib.indexByte us c = -1) ∨ (∃ j : Nat, r = some (i + j) ∧ Lib.indexByte us c = (j : Int)) → True := fun _ _ _ _ _ => trivial
theorem idxByte_ok (c : Nat) : ∀ (l : List V) (i : Nat) (K : Option Nat → Bool), idxByte c l i K = true → ∃ r, K r = true ∧ ∀ (ρ : Ren) (us : List UInt8) (u : UInt8), BR ρ l us → u.toNat = c → (r = none ∧ Lib.indexByte us u = -1) ∨ (∃ j : Nat, r = some (i + j) ∧ Lib.indexByte us u = (j : Int)) := by
  intro l
  induction l with
  | nil =>
    intro i K hk
    refine ⟨none, hk, fun ρ us u hl _ => ?_⟩
    rw [hl.nil_inv]
    exact .inl ⟨rfl, rfl⟩
  | cons v l ih =>
    intro i K hk
    have hk9 : (match (generalizing := false) v with | .i .u8 (.ofNat n) => (Nat.beq n c).rec (idxByte c l (Nat.succ i) K) (K (some i)) | _ => false) = true := hk
    clear hk
    split at hk9 <;> first | (cases hk9; done) | skip
    have hk := hk9
    clear hk9
    rename_i n
    cases hn : Nat.beq n c with
    | true =>
      rw [hn] at hk
      refine ⟨_, hk, fun ρ us u hl hu => ?_⟩
      obtain ⟨u1, us', rfl, hv, hl'⟩ := hl.cons_inv
      have e := byte_inv hv
      have e2 : u1 = u := UInt8.toNat_inj.1 (by rw [← e, beq_eq hn, hu])
      subst e2
      exact .inr ⟨0, rfl, by simp [Lib.indexByte]⟩
    | false =>
      rw [hn] at hk
      obtain ⟨r, hk, hr⟩ := ih (i + 1) K hk
      refine ⟨r, hk, fun ρ us u hl hu => ?_⟩
      obtain ⟨u1, us', rfl, hv, hl'⟩ := hl.cons_inv
      have e := byte_inv hv
      have hne : (u1 == u) = false := by
        rw [beq_eq_false_iff_ne]
        intro e3
        rw [e, e3, hu] at hn
        simp at hn
      rcases hr ρ us' u hl' hu with ⟨h1, h2⟩ | ⟨j, h1, h2⟩
      · exact .inl ⟨h1, by simp [Lib.indexByte, hne, h2]⟩
      · refine .inr ⟨j + 1, by rw [h1]; congr 1; omega, ?_⟩
        have h3 : ((j : Int) == -1) = false := by rw [beq_eq_false_iff_ne]; omega
        simp [Lib.indexByte, hne, h2, h3]
theorem cntByte_ok (c : Nat) : ∀ (l : List V) (i : Nat) (K : Nat → Bool), cntByte c l i K = true → ∃ r, K r = true ∧ ∀ (ρ : Ren) (us : List UInt8) (u : UInt8), BR ρ l us → u.toNat = c → r = i + us.count u := by
  intro l
  induction l with
  | nil =>
    intro i K hk
    refine ⟨i, hk, fun ρ us u hl _ => ?_⟩
    rw [hl.nil_inv]
    rfl
  | cons v l ih =>
    intro i K hk
    have hk9 : (match (generalizing := false) v with | .i .u8 (.ofNat n) => (Nat.beq n c).rec (cntByte c l i K) (cntByte c l (Nat.succ i) K) | _ => false) = true := hk
    clear hk
    split at hk9 <;> first | (cases hk9; done) | skip
    have hk := hk9
    clear hk9
    rename_i n
    cases hn : Nat.beq n c with
    | true =>
      rw [hn] at hk
      obtain ⟨r, hk, hr⟩ := ih (i + 1) K hk
      refine ⟨_, hk, fun ρ us u hl hu => ?_⟩
      obtain ⟨u1, us', rfl, hv, hl'⟩ := hl.cons_inv
      have e := byte_inv hv
      have e2 : u1 = u := UInt8.toNat_inj.1 (by rw [← e, beq_eq hn, hu])
      subst e2
      rw [hr ρ us' u1 hl' hu]
      simp
      omega
    | false =>
      rw [hn] at hk
      obtain ⟨r, hk, hr⟩ := ih i K hk
      refine ⟨_, hk, fun ρ us u hl hu => ?_⟩
      obtain ⟨u1, us', rfl, hv, hl'⟩ := hl.cons_inv
      have e := byte_inv hv
      have hne : u1 ≠ u := fun e3 => by
        rw [e, e3, hu] at hn
        simp at hn
      rw [hr ρ us' u hl' hu, List.count_cons_of_ne hne]
theorem byte_arg {c : Nat} {x : Value} (hc : c < 256) (hv : VR ρ (.i .u8 (.ofNat c)) x) : ∃ u : UInt8, u.toNat = c ∧ x = .int .u8 (c : Int) ∧ (c : Int).toNat.toUInt8 = u := by
  refine ⟨UInt8.ofNat c, ?_, hv.i_inv, rfl⟩
  rw [UInt8.toNat_ofNat']
  exact Nat.mod_eq_of_lt hc
set_option maxRecDepth 100000 in
theorem ovIndexByte_ok {args : List V} (hk : ovIndexByte args h K = true) : ∃ v h', K v h' = true ∧ Stands Tryz.prog 326 args h v h' := by
  unfold ovIndexByte at hk
  split at hk <;> first | (cases hk; done) | skip
  rename_i l c
  obtain ⟨g, hk⟩ := recB_false hk
  obtain ⟨r, hk, hr⟩ := idxByte_ok _ _ _ _ hk
  have main : ∀ v : V, (∀ (ρ : Ren) (us : List UInt8) (u : UInt8), BR ρ l us → u.toNat = c → VR ρ v (.int .i64 (Lib.indexByte us u))) → Stands Tryz.prog 326 [.s l, .i .u8 (.ofNat c)] h v h := by
    intro v hv
    apply Stands.of_value
    intro ρ w xs s hl
    obtain ⟨x, y, rfl, hx, hy⟩ := hl.two_inv
    obtain ⟨p, rfl, hp⟩ := hx.s_inv
    obtain ⟨u, hu, rfl, hu2⟩ := byte_arg (ble_le g) hy
    refine ⟨_, ?_, hv ρ _ u hp hu⟩
    show (callFunc 326 #[.string p, .int .u8 (c : Int)]).run Tryz.prog w = _
    rw [run_callFunc_extern Tryz.func326 (by kernel_rfl) (by kernel_rfl) (by kernel_rfl) (e := Extern.BytealgIndexByte.indexByte) (by kernel_rfl), Lib.run_indexByteString, hu2]
    rfl
  cases r with
  | none =>
    refine ⟨_, _, hk, main _ (fun ρ us u hl hu => ?_)⟩
    rcases hr ρ us u hl hu with ⟨_, h2⟩ | ⟨j, h1, _⟩
    · rw [h2]; exact .i _ _
    · cases h1
  | some i =>
    refine ⟨_, _, hk, main _ (fun ρ us u hl hu => ?_)⟩
    rcases hr ρ us u hl hu with ⟨h1, _⟩ | ⟨j, h1, h2⟩
    · cases h1
    · injection h1 with h1
      rw [h2, h1, Nat.zero_add]
      exact .i _ _
set_option maxRecDepth 100000 in
theorem ovCount_ok {args : List V} (hk : ovCount args h K = true) : ∃ v h', K v h' = true ∧ Stands Tryz.prog 93 args h v h' := by
  unfold ovCount at hk
  split at hk <;> first | (cases hk; done) | skip
  rename_i l c
  obtain ⟨g, hk⟩ := recB_false hk
  obtain ⟨r, hk, hr⟩ := cntByte_ok _ _ _ _ hk
  refine ⟨_, _, hk, ?_⟩
  apply Stands.of_value
  intro ρ w xs s hl
  obtain ⟨x, y, rfl, hx, hy⟩ := hl.two_inv
  obtain ⟨p, rfl, hp⟩ := hx.s_inv
  obtain ⟨u, hu, rfl, hu2⟩ := byte_arg (ble_le g) hy
  refine ⟨.int .i64 (Lib.countByte p.data.toList u), ?_, ?_⟩
  · show (callFunc 93 #[.string p, .int .u8 (c : Int)]).run Tryz.prog w = _
    rw [run_callFunc_extern Tryz.func93 (by kernel_rfl) (by kernel_rfl) (by kernel_rfl) (e := Extern.BytealgCount.count) (by kernel_rfl), Lib.run_countString, hu2]
    rfl
  · rw [hr ρ _ u hp hu, Nat.zero_add]
    exact .i _ _
end
end Go.Proofs.YtphfekkllibphaaGreatDoor.Ev
