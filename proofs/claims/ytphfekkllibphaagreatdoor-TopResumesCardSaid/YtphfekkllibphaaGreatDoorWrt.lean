/- How many sectors were written, of all disks: some number. -/
import Derived.Test.YtphfekkllibphaaGreatDoorOvdM
namespace Go.Proofs.YtphfekkllibphaaGreatDoor
open Go.RowKit Go.Maps Go.MapKept

/-- A site with a disk. -/
def SiteV (w : World) (v : Value) : Prop := ∃ b d x, v = .pointer (some ⟨b, 0, none⟩) ∧ w.cell? ⟨b, 0, none⟩ = some (.pointer (some ⟨d, 0, none⟩)) ∧ w.cell? ⟨d, 1, none⟩ = some (.int .i64 x) ∧ b < w.heap.size ∧ d < w.heap.size
theorem SiteV.below {w w' : World} {v : Value} (h : SiteV w v) (hb : Below w.heap.size w w') : SiteV w' v := by
  obtain ⟨b, d, x, e, h1, h2, h3, h4⟩ := h
  exact ⟨b, d, x, e, (hb.cell (p := ⟨b, 0, none⟩) h3).trans h1, (hb.cell (p := ⟨d, 1, none⟩) h4).trans h2, Nat.lt_of_lt_of_le h3 hb.size, Nat.lt_of_lt_of_le h4 hb.size⟩
open Classical in
noncomputable def siteR (w : World) (v : Value) : Option (DataW Unit × List MemPlace) := if SiteV w v then some (.lit (.bool true), []) else none
theorem siteR_inv {w : World} {v : Value} {z : DataW Unit × List MemPlace} (h : siteR w v = some z) : SiteV w v := by
  unfold siteR at h
  split at h
  · assumption
  · cases h
set_option maxRecDepth 100000 in
set_option maxHeartbeats 1000000 in
theorem writes_any (d : Nat) (x : Int) (w : World) (h : w.cell? ⟨d, 1, none⟩ = some (.int .i64 x)) : Calls Tryz.prog 48 #[.pointer (some ⟨d, 0, none⟩)] w fun e w' => e = .returned (.int .i64 x) ∧ w = w' := by
  go_enter Tryz.func48, Tryz.ntmps48
  go_wp2_with fail
  go_ret
  exact ⟨rfl, rfl⟩
set_option maxRecDepth 100000 in
set_option maxHeartbeats 2000000 in
theorem written_any (r sm n : Nat) (D : DataW Unit) (w : World) (hc : w.cell? ⟨r, 3, none⟩ = some (.map (some sm))) (hown : w.ownsMap Tryz.prog 3 (siteR w) sm n D) :
    Calls Tryz.prog 20 #[.pointer (some ⟨r, 0, none⟩)] w fun e w' => (∃ x, e = .returned (.int .i64 x)) ∧ Below w.heap.size w w' := by
  have HOWN := Lib.hid hown
  clear hown
  go_enter Tryz.func20, Tryz.ntmps20
  go_wp2_with (first | (at_range; refine wpList_range_own _ rfl _ 68 rfl 3 48 (int_keyed Tryz.underlying3) Tryz.underlying68 _ sm n D rfl HOWN.out ?_; intro w0 hrg0 hg0 hs0))
  go_frame
  have HG0 := Lib.hid ((Below.refl w.heap.size w).grown hg0 (Nat.le_refl _) (fun j e => by cases e))
  have HR0 := Lib.hid hrg0
  clear hg0 hrg0 hs0
  go_loopw [3] (fun t wr => ∃ (left : Lit → Bool) (cnt : Nat) (x : Int), t = .int .i64 x ∧ wr.ranges Tryz.prog 3 (siteR w) sm w.heap.size n D left cnt ∧ Below w.heap.size w wr) (fun _ wr => wr.rangeLeft sm w.heap.size)
  case atStart => exact ⟨_, _, 0, rfl, HR0.out, HG0.out⟩
  case round =>
    obtain ⟨left, cnt, x, rfl, hrg, hB⟩ := hrel
    have HRG := Lib.hid hrg
    have HB := Lib.hid hB
    clear hrg hB
    go_wp2_with (first | (at_next; refine wpList_next_ranges _ rfl _ rfl 3 (int_keyed Tryz.underlying3) (siteR w) (Value.int .i64) id (fun key kl hk => by obtain ⟨x, hx, _⟩ := Maps.keyOf_int_inv Tryz.underlying3 hk; exact ⟨x, hx⟩) (fun v _ _ => ⟨v, rfl⟩) sm w.heap.size n _ _ _ rfl HRG.out ?_ ?_))
    · intro hc0 hl0
      clear hc0 hl0
      go_wp2_with fail
      go_ret
      exact ⟨⟨_, rfl⟩, HB.out⟩
    · intro k v kl yd yp w2 cnt2 hkey hlk hv hat hrg2 hlt hg2 hs2 hen
      have HB2 := Lib.hid (HB.out.grown hg2 HB.out.size (fun j e => by cases e; exact Nat.le_refl _))
      obtain ⟨b, d, y, rfl, c1, c2, b1, b2⟩ := (siteR_inv hv).below HB2.out
      have HR2 := Lib.hid hrg2
      have HLT := Lib.hid hlt
      obtain ⟨z, hz⟩ : ∃ z, z = IntKind.i64.wrap (x + y) := ⟨_, rfl⟩
      have hz' := hz.symm
      clear hkey hlk hv hat hrg2 hlt hg2 hs2 hz b1 b2
      go_wp2_with fail
      refine (writes_any d y _ c2).mono ?_
      rintro e w3 ⟨rfl, rfl⟩
      go_wp2_with fail
      exact ⟨⟨_, cnt2, _, rfl, HR2.out, HB2.out⟩, by rw [HR2.out.left_eq, HRG.out.left_eq]; exact HLT.out⟩
end Go.Proofs.YtphfekkllibphaaGreatDoor
