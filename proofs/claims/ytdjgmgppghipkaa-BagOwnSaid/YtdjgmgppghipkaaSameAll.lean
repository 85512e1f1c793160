/- SameAll: two lists of the same packets. -/
import Derived.Test.YtdjgmgppghipkaaNil
import Derived.Test.YtdjgmgppghipkaaOpenPkt
import Derived.Deep.RegionWith
namespace Go.Proofs.Ytdjgmgppghipkaa
open Go.RowKit

/-- v is a slice that reads as these packets; the slice's block and the packets' bytes are of G. -/
def PktsV (G : Nat → Prop) (w : World) (v : Value) (l : List Pkt) : Prop :=
  ∃ (a : Option Addr) (c : Nat), v = .slice a l.length c ∧ l.length ≤ c ∧ c ≤ maxLen ∧ (a = none → c = 0) ∧
    (0 < l.length → ∃ b o, a = some ⟨b, o, none⟩ ∧ b < w.heap.size ∧ G b ∧ ∀ (j : Nat) (q : Pkt), l[j]? = some q →
      ∃ dv, w.cell? ⟨b, o + j * 3, none⟩ = some (.int .i64 q.src) ∧ w.cell? ⟨b, o + j * 3 + 1, none⟩ = some (.int .i64 q.dst) ∧ w.cell? ⟨b, o + j * 3 + 2, none⟩ = some dv ∧ BytesV G w dv q.data)

theorem PktsV.keep {G : Nat → Prop} {w w' : World} {v : Value} {l : List Pkt} (h : PktsV G w v l) (hk : ∀ k, k < w.heap.size → G k → w'.heap[k]? = w.heap[k]?) (hs : w.heap.size ≤ w'.heap.size) : PktsV G w' v l := by
  obtain ⟨a, c, h1, h2, h3, h4, h5⟩ := h
  refine ⟨a, c, h1, h2, h3, h4, fun hl => ?_⟩
  obtain ⟨b, o, e, hb, hG, hc⟩ := h5 hl
  refine ⟨b, o, e, Nat.lt_of_lt_of_le hb hs, hG, fun j q hq => ?_⟩
  obtain ⟨dv, c0, c1, c2, hd⟩ := hc j q hq
  have hcell : ∀ i, w'.cell? ⟨b, i, none⟩ = w.cell? ⟨b, i, none⟩ := fun i => World.cell?_of_block (w := w) (a := ⟨b, i, none⟩) (hk b hb hG)
  exact ⟨dv, (hcell _).trans c0, (hcell _).trans c1, (hcell _).trans c2, hd.keep hk hs⟩
theorem PktsV.mono {G G' : Nat → Prop} {w : World} {v : Value} {l : List Pkt} (h : PktsV G w v l) (hG : ∀ k, k < w.heap.size → G k → G' k) : PktsV G' w v l := by
  obtain ⟨a, c, h1, h2, h3, h4, h5⟩ := h
  refine ⟨a, c, h1, h2, h3, h4, fun hl => ?_⟩
  obtain ⟨b, o, e, hb, hg, hc⟩ := h5 hl
  refine ⟨b, o, e, hb, hG b hb hg, fun j q hq => ?_⟩
  obtain ⟨dv, c0, c1, c2, hd⟩ := hc j q hq
  exact ⟨dv, c0, c1, c2, hd.mono hG⟩
theorem PktsV.below {G : Nat → Prop} {w w' : World} {v : Value} {l : List Pkt} (h : PktsV G w v l) (hm : Below w.heap.size w w') : PktsV G w' v l := h.keep (fun k hk _ => hm.block k hk) hm.size
theorem PktsV.mod {F G : Nat → Prop} {w w' : World} {v : Value} {l : List Pkt} (h : PktsV G w v l) (hm : Mod F w w') (hd : ∀ k, k < w.heap.size → G k → ¬ F k) : PktsV G w' v l := h.keep (fun k hk hG => hm.block k hk (hd k hk hG)) hm.size
theorem PktsV.nil (G : Nat → Prop) (w : World) : PktsV G w (.slice none 0 0) [] := ⟨none, 0, rfl, by simp, by simp, fun _ => rfl, fun h => by simp at h⟩

theorem PktsV.of_in {w : World} {v : Value} {l : List Pkt} (h : PktsIn w v l) : PktsV (fun _ => True) w v l := by
  obtain ⟨a, c, h1, h2, h3, h4, h5⟩ := h
  refine ⟨a, c, h1, h2, h3, h4, fun hl => ?_⟩
  obtain ⟨b, o, e, hb, hc⟩ := h5 hl
  refine ⟨b, o, e, hb, trivial, fun j q hq => ?_⟩
  obtain ⟨dv, c0, c1, c2, hd, _⟩ := hc j q hq
  exact ⟨dv, c0, c1, c2, hd⟩

theorem PktsV.of_new {w w' : World} {v : Value} {l : List Pkt} (h : NewPkts w w' v l) : PktsV (fun k => w.heap.size ≤ k) w' v l := by
  obtain ⟨cs, h1, h2⟩ := h
  by_cases hl : 0 < l.length
  · obtain ⟨g, cap, rfl, hg, hlt⟩ := h1.form hl
    have hc := h1.cells (g := g) rfl
    obtain ⟨_, h3⟩ := h1
    rcases h3 with ⟨_, h3⟩ | ⟨g', cap', cur, e, _, _, hn, hm, _, _⟩
    · omega
    · injection e with e1 _ e2
      subst e2
      refine ⟨_, cap, rfl, hn, hm, fun h => (by cases h), fun _ => ⟨g, 0, rfl, hlt, hg, fun j q hq => ?_⟩⟩
      obtain ⟨dv, d1, d2, d3, d4⟩ := h2.at_ j q hq
      have k0 := hc _ _ d2
      have k1 := hc _ _ d3
      have k2 := hc _ _ d4
      rw [Addr.add_mid] at k0 k1 k2
      refine ⟨dv, k0, ?_, ?_, d1.mono (fun k _ hk => hk.1)⟩
      · rw [← k1]; congr 1
      · rw [← k2]; congr 1
  · obtain rfl : l = [] := List.eq_nil_of_length_eq_zero (by omega)
    obtain ⟨_, h3⟩ := h1
    rcases h3 with ⟨rfl, _⟩ | ⟨g', cap', cur, rfl, _, _, hn, hm, _, _⟩
    · exact PktsV.nil _ _
    · exact ⟨_, cap', rfl, by simp, hm, fun h => (by cases h), fun h => by simp at h⟩

/-- One packet of a list. -/
theorem PktsV.at_ {G : Nat → Prop} {w : World} {v : Value} {l : List Pkt} (h : PktsV G w v l) {j : Nat} {q : Pkt} (hq : l[j]? = some q) : ∃ b o c dv, v = .slice (some ⟨b, o, none⟩) l.length c ∧ l.length ≤ c ∧ c ≤ maxLen ∧ b < w.heap.size ∧ G b ∧
    w.cell? ⟨b, o + j * 3, none⟩ = some (.int .i64 q.src) ∧ w.cell? ⟨b, o + j * 3 + 1, none⟩ = some (.int .i64 q.dst) ∧ w.cell? ⟨b, o + j * 3 + 2, none⟩ = some dv ∧ BytesV G w dv q.data := by
  obtain ⟨a, c, rfl, h2, h3, h4, h5⟩ := h
  obtain ⟨b, o, rfl, hb, hG, hc⟩ := h5 (by have := (List.getElem?_eq_some_iff.1 hq).1; omega)
  obtain ⟨dv, c0, c1, c2, hd⟩ := hc j q hq
  exact ⟨b, o, c, dv, rfl, h2, h3, hb, hG, c0, c1, c2, hd⟩

theorem same_true (D E : Nat → Prop) (q : Pkt) (da db : Value) (w : World) (ha : BytesV D w da q.data) (hb : BytesV E w db q.data) :
    Calls Try.prog 20 #[.agg #[.int .i64 q.src, .int .i64 q.dst, da], .agg #[.int .i64 q.src, .int .i64 q.dst, db]] w fun e w' => e = .returned (.bool true) ∧ Below w.heap.size w w' :=
  (same_any D E q q da db w ha hb).mono fun _ _ ⟨h1, h2⟩ => ⟨by simpa [Pkt.same] using h1, h2⟩

set_option maxHeartbeats 2000000 in
theorem sameAll_any (D E : Nat → Prop) (l : List Pkt) (va vb : Value) (w : World) (ha : PktsV D w va l) (hb : PktsV E w vb l) :
    Calls Try.prog 19 #[va, vb] w fun e w' => e = .returned (.bool true) ∧ Below w.heap.size w w' := by
  have HA := Lib.hid ha
  have HB := Lib.hid hb
  have hl : l.length ≤ maxLen := by obtain ⟨_, _, _, h1, h2, _⟩ := ha; omega
  obtain ⟨a, c, rfl, _⟩ := ha
  obtain ⟨a', c', rfl, _⟩ := hb
  unfold maxLen at hl
  go_enter Try.func19, Try.ntmps19
  go_wp2_with fail
  go_loopw [5] (fun i wr => ∃ k : Nat, k ≤ l.length ∧ i = .int .i64 k ∧ Below w.heap.size w wr) (fun i _ => l.length - (intOf i).toNat)
  case atStart => exact ⟨0, by omega, rfl, Below.refl _ _⟩
  case round =>
    obtain ⟨k, hk, rfl, hB⟩ := hrel
    by_cases hlt : k < l.length
    · obtain ⟨q, hq⟩ : ∃ q, l[k]? = some q := ⟨_, List.getElem?_eq_getElem hlt⟩
      obtain ⟨b, o, c1, dv, e1, hc, hm, hbs, _, a0, a1, a2, ad⟩ := HA.out.at_ hq
      obtain ⟨b', o', c1', dv', e1', hc', hm', hbs', _, b0, b1, b2, bd⟩ := HB.out.at_ hq
      injection e1 with e1 _ e2
      injection e1' with e1' _ e2'
      subst e1 e2 e1' e2'
      have p0 := (hB.cell (p := ⟨b, o + k * 3, none⟩) hbs).trans a0
      have p1 := (hB.cell (p := ⟨b, o + k * 3 + 1, none⟩) hbs).trans a1
      have p2 := (hB.cell (p := ⟨b, o + k * 3 + 2, none⟩) hbs).trans a2
      have r0 := (hB.cell (p := ⟨b', o' + k * 3, none⟩) hbs').trans b0
      have r1 := (hB.cell (p := ⟨b', o' + k * 3 + 1, none⟩) hbs').trans b1
      have r2 := (hB.cell (p := ⟨b', o' + k * 3 + 2, none⟩) hbs').trans b2
      have AD := Lib.hid (show BytesV D wr.drew dv q.data from ad.keep (w' := wr.drew) (fun j hj _ => hB.block j hj) hB.size)
      have BD := Lib.hid (show BytesV E wr.drew dv' q.data from bd.keep (w' := wr.drew) (fun j hj _ => hB.block j hj) hB.size)
      obtain ⟨x1, x2, rfl, _⟩ := ad
      obtain ⟨y1, y2, rfl, _⟩ := bd
      have k0 : (0 : Int) ≤ (k : Int) := by omega
      have k1 : (k : Int) < (l.length : Int) := by omega
      clear a0 a1 a2 b0 b1 b2
      go_upto_region 6 with fail
      go_region_with (go_at_call 20; go_loud (refine (same_true D E q _ _ _ AD.out BD.out).mono ?_); rintro e w3 ⟨rfl, hb3⟩)
      all_goals go_wp2_with fail
      all_goals refine ⟨⟨k + 1, by omega, by push_cast; rfl, below_step (show Below w.heap.size w wr.drew from ⟨hB.os, hB.tape, hB.output, hB.size, hB.block⟩) hb3⟩, by simp only [intOf]; omega⟩
    · go_wp2_with fail
      go_ret
      exact ⟨rfl, hB⟩
end Go.Proofs.Ytdjgmgppghipkaa
