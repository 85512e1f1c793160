/- THE WALK of OctetsTurned. -/
import Derived.Test.YtflacchpgcggnaaWake
import Derived.Laws.OwnMore
namespace Go.Proofs.Ytflacchpgcggnaa
open Go.RowKit

theorem empty_row (w : World) : (w.alloc (.cells #[] 5)).ownsRow w.heap.size 5 1 (.slice (some ⟨w.heap.size, 0, none⟩) 0 0) 0 [] := by
  have := World.ownsRow_made (base := w.heap.size) (e := 5) (size := 1) w #[] 0 (Nat.le_refl _) (by decide) rfl
  simpa using this
theorem bits_xor8 (a b : Nat) (ha : a < 256) (hb : b < 256) : bits .xor .u8 (a : Int) (b : Int) = ((a ^^^ b : Nat) : Int) := by
  have ha' : a % 2 ^ IntKind.u8.bits = a := Nat.mod_eq_of_lt ha
  have hb' : b % 2 ^ IntKind.u8.bits = b := Nat.mod_eq_of_lt hb
  simp only [bits, BitVec.ofInt_natCast, BitVec.toNat_xor, BitVec.toNat_ofNat, ha', hb']
  have := Nat.xor_lt_two_pow (n := 8) ha hb
  exact wraps_u8 _ (by omega) (by omega)
theorem set_split (l : List UInt8) (k : Nat) (x : UInt8) (h : k < l.length) : l.set k x = l.take k ++ x :: l.drop (k + 1) := by
  rw [List.set_eq_take_append_cons_drop, if_pos h]
theorem sumOf_set (l : List UInt8) (k : Nat) (x : UInt8) (h : k < l.length) (hne : x ≠ l[k]) : sumOf l ≠ sumOf (l.set k x) := by
  have e : l = l.take k ++ l[k] :: l.drop (k + 1) := by rw [← List.drop_eq_getElem_cons h, List.take_append_drop]
  have h1 := sumOf_turned (l.take k) (l.drop (k + 1)) l[k] x (Ne.symm hne)
  rw [← e, ← set_split l k x h] at h1
  exact h1

theorem empty_row3 (w : World) (g n : Nat) (u : Value) : ((w.setCell ⟨g, n, none⟩ u).alloc (.cells #[] 5)).ownsRow w.heap.size 5 1 (.slice (some ⟨w.heap.size, 0, none⟩) 0 0) 0 [] := by
  have := empty_row (w.setCell ⟨g, n, none⟩ u)
  rw [show (w.setCell ⟨g, n, none⟩ u).heap.size = w.heap.size from by simp [World.setCell]] at this
  exact this
theorem turned_below {w1 w3 : World} {g n : Nat} {u : Value} {O : Obj} (hg : w1.heap.size ≤ g ∧ g < w3.heap.size) (hB : Below w1.heap.size w1 w3) : Below w1.heap.size w1 ((w3.setCell ⟨g, n, none⟩ u).alloc O) :=
  (hB.setCell hg.1 _).alloc (by simpa [World.setCell] using hB.size) _

set_option maxHeartbeats 4000000 in
theorem octetsTurned_any (D : Nat → Prop) (l : List UInt8) (v : Value) (k : Int) (y : Int) (hy0 : 0 ≤ y) (hy1 : y ≤ 255) (w : World) (hv : BytesV D w v l) (hl : l.length ≤ 140737488355328) :
    Calls Try.prog 9 #[v, .int .i64 k, .int .u8 y] w fun e w' => e = .returned (.bool true) ∧ Below w.heap.size w w' := by
  obtain ⟨i0, hi, hz0, hz1, hz2⟩ := info_parts Try.info8
  have HV := Lib.hid hv
  obtain ⟨a, c, rfl, hc, hcm, _⟩ := hv
  unfold maxLen at hcm
  by_cases hk0 : k < 0
  · go_enter Try.func9, Try.ntmps9
    go_wp2_with fail
    refine (awake_any w).mono ?_
    rintro e w1 ⟨rfl, hb1⟩
    go_wp2_with fail
    go_ret
    exact ⟨rfl, hb1⟩
  · obtain ⟨n, rfl⟩ : ∃ n : Nat, k = n := ⟨k.toNat, by omega⟩
    by_cases hn : l.length ≤ n
    · have hn' : (l.length : Int) ≤ (n : Int) := by omega
      go_enter Try.func9, Try.ntmps9
      go_wp2_with fail
      refine (awake_any w).mono ?_
      rintro e w1 ⟨rfl, hb1⟩
      go_wp2_with fail
      go_ret
      exact ⟨rfl, hb1⟩
    · have hn' : (n : Int) < (l.length : Int) := by omega
      have hn2 : n < l.length := by omega
      by_cases hz : y = 0
      · subst hz
        go_enter Try.func9, Try.ntmps9
        go_wp2_with fail
        refine (awake_any w).mono ?_
        rintro e w1 ⟨rfl, hb1⟩
        go_wp2_with fail
        go_ret
        exact ⟨rfl, hb1⟩
      · obtain ⟨m, rfl⟩ : ∃ m : Nat, y = m := ⟨y.toNat, by omega⟩
        have hnn : ¬ (n : Int) < 0 := by omega
        have hnn2 : (0 : Int) ≤ (n : Int) := by omega
        have he0 : ((m : Int) == 0) = false := by rw [beq_eq_false_iff_ne]; omega
        have hxl := l[n].toNat_lt
        have hxor := bits_xor8 l[n].toNat m hxl (by omega)
        obtain ⟨z, hz2'⟩ : ∃ z, z = l[n].toNat ^^^ m := ⟨_, rfl⟩
        have hzl : z < 256 := by rw [hz2']; exact Nat.xor_lt_two_pow (n := 8) hxl (by omega)
        rw [← hz2'] at hxor
        have hne : UInt8.ofNat z ≠ l[n] := by
          intro e
          have e2 := congrArg UInt8.toNat e
          have e3 : (UInt8.ofNat z).toNat = z := by simp; omega
          rw [e3, hz2'] at e2
          have : m = 0 := xor_cancel_left (c := l[n].toNat) (by rw [e2, Nat.xor_zero])
          omega
        have hB8 : B8 (UInt8.ofNat z) = .int .u8 (z : Int) := by
          unfold B8
          have e3 : (UInt8.ofNat z).toNat = z := by simp; omega
          rw [e3]
        have hsum := sumOf_set l n (UInt8.ofNat z) hn2 hne
        have hsb : ((sumOf l : Int) != (sumOf (l.set n (UInt8.ofNat z)) : Int)) = true := by rw [bne_iff_ne]; omega
        have HB8 := Lib.hid hB8
        obtain ⟨u, hu⟩ : ∃ u, u = l[n].toNat := ⟨_, rfl⟩
        rw [← hu] at hxor
        have HU := Lib.hid hu
        clear hz hz2' hne hsum hB8 hu hxl
        go_enter Try.func9, Try.ntmps9
        go_wp2_with fail
        refine (awake_any w).mono ?_
        rintro e w1 ⟨rfl, hb1⟩
        have HV1 := Lib.hid ((HV.out.below hb1).below ((Below.refl _ _).alloc (Nat.le_refl _) (.cells #[] 5)))
        go_wp2_with (first
          | (at_builtin; (refine wpList_append_bytes rfl (.tmp 22) (.tmp 23) _ rfl w1.heap.size 5 i0 Try.underlying22 hi hz0 hz1 hz2 (.slice (some ⟨w1.heap.size, 0, none⟩) 0 0) 0 [] rfl (empty_row w1) _ _ l rfl HV1.out (by omega) (by simp) ?_); intro v3 w3 hown3 hgrow hat; obtain ⟨g, cap, rfl, hg⟩ := hown3.form (by omega); have hcl : w3.cell? ⟨g, n, none⟩ = some (.int .u8 (u : Int)) := (hown3.cellAt n (by omega)).trans (by simp [hn2, B8, HU.out]); have hfz := hown3.frozenAt n; have HO := Lib.hid hown3; have B3 : Below w1.heap.size w1 w3 := ((Below.refl _ _).alloc (Nat.le_refl _) _).grown hgrow (by simp) (by intro k hk; simp [Value.ownBlock] at hk; omega); have hs3 := B3.size; clear hown3)
          | (at_builtin; (refine wpList_append_bytes rfl (.tmp 32) (.tmp 33) _ rfl w3.heap.size 5 i0 Try.underlying22 hi hz0 hz1 hz2 (.slice (some ⟨w3.heap.size, 0, none⟩) 0 0) 0 [] rfl (empty_row3 w3 g n _) _ _ l rfl ((HV.out.below hb1).below (turned_below hg B3)) (by omega) (by simp [World.setCell]) ?_); intro v5 w5 hown5 hgrow5 hat5; obtain ⟨a5, c5, rfl⟩ := own_slice hown5; have HO5 := Lib.hid hown5; clear hown5))
        have B4 : Below w1.heap.size w1 w5 := (turned_below hg B3).grown hgrow5 (by simp [World.setCell]; omega) (by intro k hk; simp [Value.ownBlock] at hk; omega)
        have HO5' := HO5.out
        rw [Nat.zero_add, List.nil_append] at HO5'
        have hb5 := BytesV.of_own HO5'
        refine (sum_any _ l _ w5 hb5).mono ?_
        rintro e w6 ⟨rfl, rfl⟩
        have hown4 := (HO.out.stored n (.int .u8 (z : Int))).1
        have hown6 := ownsRow_keep (w' := w5) hown4 (fun k hk => by
          obtain rfl : g = k := by simpa [Value.ownBlock] using hk
          have hg3 := (HO.out.lt g rfl).2
          exact (hgrow5.block g (by simp [World.setCell]; omega) (by simp [Value.ownBlock]; omega)).trans (heap_past _ _ g (by simpa [World.setCell] using hg3)))
        have hb6 : BytesV (fun k => w1.heap.size ≤ k) w5 (.slice (some ⟨g, 0, none⟩) l.length cap) (l.set n (UInt8.ofNat z)) := by
          refine BytesV.of_own (e := 5) (n := l.length) ?_
          rw [List.map_set, HB8.out]
          simpa using hown6
        go_wp2_with fail
        refine (sum_any _ _ _ w5 hb6).mono ?_
        rintro e w6 ⟨rfl, rfl⟩
        go_wp2_with fail
        go_ret
        exact ⟨rfl, hb1.trans (B4.mono hb1.size)⟩
end Go.Proofs.Ytflacchpgcggnaa
