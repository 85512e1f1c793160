/- The methods of a nil bag. -/
import Derived.Test.YtdjgmgppghipkaaWake
namespace Go.Proofs.Ytdjgmgppghipkaa
open Go.RowKit

theorem nil_send (f t : Int) (dv : Value) (D : Nat → Prop) (l : List UInt8) (w : World) (hd : BytesV D w dv l) : Calls Try.prog 11 #[.pointer none, .agg #[.int .i64 f, .int .i64 t, dv]] w fun e w' => e = .returned (.int .i64 1) ∧ Below w.heap.size w w' := by
  obtain ⟨a, c, rfl, _⟩ := hd
  go_enter Try.func11, Try.ntmps11
  go_wp2_with fail
  go_ret
  exact ⟨rfl, (Below.refl _ _).alloc (Nat.le_refl _) _⟩
theorem nil_len (w : World) : Calls Try.prog 14 #[.pointer none] w fun e w' => e = .returned (.int .i64 0) ∧ w = w' := by
  go_enter Try.func14, Try.ntmps14
  go_wp2_with fail
  go_ret
  exact ⟨rfl, rfl⟩
theorem nil_sent (w : World) : Calls Try.prog 13 #[.pointer none] w fun e w' => e = .returned (.int .i64 0) ∧ w = w' := by
  go_enter Try.func13, Try.ntmps13
  go_wp2_with fail
  go_ret
  exact ⟨rfl, rfl⟩
theorem nil_lost (w : World) : Calls Try.prog 25 #[.pointer none] w fun e w' => e = .returned (.int .i64 0) ∧ w = w' := by
  go_enter Try.func25, Try.ntmps25
  go_wp2_with fail
  go_ret
  exact ⟨rfl, rfl⟩
theorem nil_list (w : World) : Calls Try.prog 16 #[.pointer none] w fun e w' => e = .returned (.slice none 0 0) ∧ w = w' := by
  go_enter Try.func16, Try.ntmps16
  go_wp2_with fail
  go_ret
  exact ⟨rfl, rfl⟩
theorem nil_double (k : Int) (w : World) : Calls Try.prog 18 #[.pointer none, .int .i64 k] w fun e w' => e = .returned (.int .i64 1) ∧ w = w' := by
  go_enter Try.func18, Try.ntmps18
  go_wp2_with fail
  go_ret
  exact ⟨rfl, rfl⟩

def ZeroNo (w : World) (e : Ending) (w' : World) : Prop := e = .returned (.tuple #[.agg #[.int .i64 0, .int .i64 0, .slice none 0 0], .bool false]) ∧ Below w.heap.size w w'

theorem nil_look (k : Int) (w : World) : Calls Try.prog 17 #[.pointer none, .int .i64 k] w (ZeroNo w) := by
  by_cases hk : k < 0
  · go_enter Try.func17, Try.ntmps17
    go_wp2_with fail
    refine bodyPost_ret (v := .tuple #[.agg #[.int .i64 0, .int .i64 0, .slice none 0 0], .bool false]) (by simp [results, Try.results17, go_sem]) rfl ⟨rfl, ?_⟩
    exact (Below.refl _ _).alloc (Nat.le_refl _) _
  · go_enter Try.func17, Try.ntmps17
    go_wp2_with fail
    refine (nil_len _).mono ?_
    rintro e w1 ⟨rfl, rfl⟩
    have h0 : (0 : Int) ≤ k := by omega
    go_wp2_with fail
    refine bodyPost_ret (v := .tuple #[.agg #[.int .i64 0, .int .i64 0, .slice none 0 0], .bool false]) (by simp [results, Try.results17, go_sem]) rfl ⟨rfl, ?_⟩
    exact (Below.refl _ _).alloc (Nat.le_refl _) _
theorem nil_take (k : Int) (w : World) : Calls Try.prog 12 #[.pointer none, .int .i64 k] w (ZeroNo w) := by
  go_enter Try.func12, Try.ntmps12
  go_wp2_with fail
  refine (nil_look k _).mono ?_
  rintro e w1 ⟨rfl, hb⟩
  obtain ⟨d0, d1, d2, e0, e1, e2⟩ := blk3 ((hb.block w.heap.size (by simp)).trans (heap_at w _ _ rfl))
  have hlt : w.heap.size < w1.heap.size := Nat.lt_of_lt_of_le (by simp) hb.size
  go_wp2_with fail
  refine bodyPost_ret (v := .tuple #[.agg #[.int .i64 0, .int .i64 0, .slice none 0 0], .bool false]) (by simp [results, Try.results12, go_sem, d0, d1, d2, hlt]) rfl ⟨rfl, ?_⟩
  have hB := below_step ((Below.refl w.heap.size w).alloc (Nat.le_refl _) _) hb
  exact (((hB.setCell (Nat.le_refl _) _).setCell (Nat.le_refl _) _).setCell (Nat.le_refl _) _).alloc (by simp [World.setCell]; omega) _
theorem nil_drop (k : Int) (w : World) : Calls Try.prog 26 #[.pointer none, .int .i64 k] w fun e w' => e = .returned (.bool false) ∧ Below w.heap.size w w' := by
  go_enter Try.func26, Try.ntmps26
  go_wp2_with fail
  refine (nil_take k _).mono ?_
  rintro e w1 ⟨rfl, hb⟩
  go_wp2_with fail
  go_ret
  exact ⟨rfl, hb.alloc hb.size _⟩

/-! ### subletref07 -/
def Pkt.same (a b : Pkt) : Bool := a.src == b.src && a.dst == b.dst && a.data == b.data

set_option maxHeartbeats 1000000 in
theorem same_any (D E : Nat → Prop) (a b : Pkt) (da db : Value) (w : World) (ha : BytesV D w da a.data) (hb : BytesV E w db b.data) :
    Calls Try.prog 20 #[.agg #[.int .i64 a.src, .int .i64 a.dst, da], .agg #[.int .i64 b.src, .int .i64 b.dst, db]] w fun e w' => e = .returned (.bool (a.same b)) ∧ Below w.heap.size w w' := by
  obtain ⟨W, hW⟩ : ∃ W, W = (w.alloc (.cells #[.int .i64 a.src, .int .i64 a.dst, da] 30)).alloc (.cells #[.int .i64 b.src, .int .i64 b.dst, db] 30) := ⟨_, rfl⟩
  have hB : Below w.heap.size w W := by subst hW; exact ((Below.refl _ _).alloc (Nat.le_refl _) _).alloc (by simp) _
  have cva := ha.string 28 9 5 Try.underlying28 Try.underlying5 Try.underlying9 (w' := W) (fun k hk _ => hB.block k hk)
  have cvb := hb.string 28 9 5 Try.underlying28 Try.underlying5 Try.underlying9 (w' := W) (fun k hk _ => hB.block k hk)
  obtain ⟨a1, a2, rfl, _⟩ := ha
  obtain ⟨b1, b2, rfl, _⟩ := hb
  subst hW
  obtain ⟨sa', ad, al⟩ := a
  obtain ⟨sb', bd, bl⟩ := b
  go_enter Try.func20, Try.ntmps20
  by_cases h1 : sa' = sb'
  · subst h1
    by_cases h2 : ad = bd
    · subst h2
      go_wp2_with fail
      go_ret
      exact ⟨by simp [Pkt.same, strOf], hB⟩
    · go_wp2_with fail
      go_ret
      exact ⟨by simp [Pkt.same, h2], hB⟩
  · go_wp2_with fail
    go_ret
    exact ⟨by simp [Pkt.same, h1], hB⟩
end Go.Proofs.Ytdjgmgppghipkaa
