/- THE WALK of slices.Delete at []api.Packet, one element struck: the row keeps what is before and behind it. -/
import Derived.Test.YtdjgmgppghipkaaSend
import Derived.Laws.OwnMore
import Derived.Lib.SliceRun
namespace Go.Proofs.Ytdjgmgppghipkaa
open Go.RowKit

/-- append within the capacity, as one step of a region that draws: the destination is a row of which k elements are owned. -/
theorem step_append_fits {P : Program} {ops : Array Oper} {o : Oper} {a : Act} {w : World} {K : Act → World → Prop} {Q : Exit → Act → World → Prop} {E : Prop} (hgd : o.guard = none) (s x : Operand) (t : TypeId)
    (ho : o.op = .call { callee := .builtin .append, args := #[s, x], argTypes := #[t, t] }) (base : Nat) (e : TypeId) (i : TypeInfo) (size : Nat) (ht : P.underlying t = some (.slice e)) (hi : P.info? e = some i) (hsize : i.size = size)
    (g k cap : Nat) (xs : List Value) (hs : a.eval s = .slice (some ⟨g, 0, none⟩) k cap) (hown : w.ownsRow base e size (.slice (some ⟨g, 0, none⟩) k cap) k xs) (ad : Addr) (m c : Nat) (news : List Value) (hx : a.eval x = .slice (some ad) m c) (hn : news.length = m * size)
    (hc : ∀ j u, news[j]? = some u → w.cell? (ad.add j) = some u) (h1c : ∀ u ∈ news, u.oneCell' = true) (b1 : k + m ≤ cap)
    (hK : ∀ w', w'.ownsRow base e size (.slice (some ⟨g, 0, none⟩) (k + m) cap) (k + m) (xs ++ news) → w.grownBy w' (some g) → K (a.put o.dst (.slice (some ⟨g, 0, none⟩) (k + m) cap)) w') :
    if Region.wanted o (yielded ops a.tmps) = true then Oper.wp P o a w K Q else E := by
  have hw : Region.wanted o (yielded ops a.tmps) = true := by simp [Region.wanted, hgd]
  rw [if_pos hw]
  obtain ⟨w', hrun, r1, r2⟩ := run_append_fits (P := P) w base t o.type e i size ht hi hsize g k cap xs hown ad m c news hn hc h1c b1
  unfold Oper.wp
  simp [execOp, ho, resolve, invoke, builtin, hs, hx, hrun, Result.andThen]
  exact hK w' r1 r2

/-- A shorter part of a row is owned too. -/
theorem own_take {w : World} {base : Nat} {e : TypeId} {size g n cap k : Nat} {cs : List Value} (h : w.ownsRow base e size (.slice (some ⟨g, 0, none⟩) n cap) n cs) (hk : k ≤ n) :
    w.ownsRow base e size (.slice (some ⟨g, 0, none⟩) k cap) k (cs.take (k * size)) := by
  obtain ⟨h1, h2⟩ := h
  have hm : k * size ≤ n * size := Nat.mul_le_mul_right size hk
  refine ⟨by rw [List.length_take]; omega, Or.inr ?_⟩
  rcases h2 with ⟨hv, _⟩ | ⟨g', cap', cur, hv, hb, hh, hc, hmx, hs, ht⟩
  · cases hv
  · obtain ⟨rfl, rfl⟩ : g = g' ∧ cap = cap' := by simpa using hv
    refine ⟨g, cap, cur, rfl, hb, hh, Nat.le_trans hk hc, hmx, hs, ?_⟩
    rw [← ht, List.take_take, Nat.min_eq_left hm]

/-- clear(s) on one element of three cells. -/
theorem run_clear3 {P : Program} (w : World) (t e ty : TypeId) (z0 z1 z2 : Value) (ht : P.underlying t = some (.slice e)) (hv : ∀ w, (zeroValue e).run P w = .ok (.agg #[z0, z1, z2]) w) (h1 : ∀ v ∈ [z0, z1, z2], v.oneCell' = true) (b o c : Nat)
    (hc : ∀ j, j < 3 → (w.cell? ⟨b, o + j, none⟩).isSome = true) (hf : ∀ j, j < 3 → w.frozen? ⟨b, o + j, none⟩ = false) :
    (Builtin.clear_ #[t] ty #[.slice (some ⟨b, o, none⟩) 1 c]).run P w = .ok (.tuple #[]) (w.setCells b o [z0, z1, z2]) := by
  have hst := run_storeCells_cells (P := P) b o [z0, z1, z2] 0 w (by simpa using hc) (by simpa using hf) h1
  simp only [Nat.add_zero] at hst
  have hzc : (Builtin.zeroCells #[z0, z1, z2] 1).toList = [z0, z1, z2] := by
    simp [Builtin.zeroCells]
    rfl
  simp [Builtin.clear_, run_underlying ht, hv, Value.cells, hzc, hst]

/-- What is set behind the owned part leaves it owned. -/
theorem own_setCells {w : World} {base : Nat} {e : TypeId} {size g n cap : Nat} {cs : List Value} (h : w.ownsRow base e size (.slice (some ⟨g, 0, none⟩) n cap) n cs) : ∀ (vs : List Value) (o : Nat), n * size ≤ o →
    (w.setCells g o vs).ownsRow base e size (.slice (some ⟨g, 0, none⟩) n cap) n cs ∧ w.grownBy (w.setCells g o vs) (some g) := by
  intro vs
  induction vs generalizing w with
  | nil => intro o _; exact ⟨h, World.grownBy.refl _ _⟩
  | cons v vs ih =>
    intro o ho
    have h' : (w.setCell ⟨g, o, none⟩ v).ownsRow base e size (.slice (some ⟨g, 0, none⟩) n cap) n cs := by
      obtain ⟨h1, h2⟩ := h
      refine ⟨h1, Or.inr ?_⟩
      rcases h2 with ⟨hv, _⟩ | ⟨g', cap', cur, hv, hb, hh, hc, hmx, hs, ht⟩
      · cases hv
      · obtain ⟨rfl, rfl⟩ : g = g' ∧ cap = cap' := by simpa using hv
        refine ⟨g, cap, cur.setIfInBounds o v, rfl, hb, blk_set hh o v, hc, hmx, by simpa using hs, ?_⟩
        rw [← ht]
        apply List.ext_getElem?
        intro j
        simp only [List.getElem?_take, Array.toList_setIfInBounds]
        split
        · rw [List.getElem?_set_ne (by omega)]
        · rfl
    obtain ⟨a, b⟩ := ih h' (o + 1) (by omega)
    refine ⟨a, ⟨b.os, b.tape, b.output, ?_, fun k hk hne => (b.block k (by simpa [World.setCell] using hk) hne).trans (Below.heap_setCell w ⟨g, o, none⟩ v k (fun e => hne (congrArg some e)))⟩⟩
    have := b.size
    have e : (w.setCell ⟨g, o, none⟩ v).heap.size = w.heap.size := by simp [World.setCell]
    rw [e] at this
    exact this

theorem own_some {w : World} {base : Nat} {e : TypeId} {size g n cap : Nat} {cs : List Value} (h : w.ownsRow base e size (.slice (some ⟨g, 0, none⟩) n cap) n cs) (j : Nat) (hj : j < cap * size) : (w.cell? ⟨g, j, none⟩).isSome = true := by
  rcases h.2 with ⟨hv, _⟩ | ⟨g', cap', cur, hv, hb, hh, hc, hmx, hs, ht⟩
  · cases hv
  · obtain ⟨rfl, rfl⟩ : g = g' ∧ cap = cap' := by simpa using hv
    rw [blk_cell hh j, Array.getElem?_eq_getElem (by omega)]
    rfl

def DelPost (w : World) (g n cap : Nat) (cs : List Value) (e : Ending) (w' : World) : Prop :=
  e = .returned (.slice (some ⟨g, 0, none⟩) n cap) ∧ w'.ownsRow 0 30 3 (.slice (some ⟨g, 0, none⟩) n cap) n cs ∧ w.grownBy w' (some g)

set_option maxHeartbeats 2000000 in
theorem delete_any (g n cap i : Nat) (cs : List Value) (w : World) (h : w.ownsRow 0 30 3 (.slice (some ⟨g, 0, none⟩) n cap) n cs) (h1 : ∀ u ∈ cs, u.oneCell' = true) (hi : i < n) (hn : n ≤ 48) (_hcap : cap ≤ 9223372036854775807) (hnc : n ≤ cap) :
    Calls Try.prog 29 #[.slice (some ⟨g, 0, none⟩) n cap, .int .i64 i, .int .i64 (i + 1)] w (DelPost w g (n - 1) cap (cs.take (i * 3) ++ cs.drop ((i + 1) * 3))) := by
  obtain ⟨i0, hi0, hz0, hz1, hz2⟩ := info_parts Try.info30
  have hlen := h.1
  have hD : (cs.drop ((i + 1) * 3)).length = (n - (i + 1)) * 3 := by rw [List.length_drop, hlen]; omega
  obtain ⟨A, hA, hnews⟩ : ∃ A : Addr, (if cap = i + 1 then some (⟨g, 0, none⟩ : Addr) else some ⟨g, (i + 1) * 3, none⟩) = some A ∧ Hid (∀ j u, (cs.drop ((i + 1) * 3))[j]? = some u → w.drew.cell? (A.add j) = some u) := by
    by_cases hc : cap = i + 1
    · refine ⟨⟨g, 0, none⟩, by simp [hc], fun j u hu => ?_⟩
      have h0 : (cs.drop ((i + 1) * 3)).length = 0 := by rw [hD]; omega
      rw [List.length_eq_zero_iff.1 h0] at hu
      simp at hu
    · refine ⟨⟨g, (i + 1) * 3, none⟩, by simp [hc], fun j u hu => ?_⟩
      rw [List.getElem?_drop] at hu
      have hj : (i + 1) * 3 + j < n * 3 := by
        have := (List.getElem?_eq_some_iff.1 hu).1
        omega
      rw [Addr.add_mid]
      exact (h.cellAt ((i + 1) * 3 + j) hj).trans hu
  have s1 : Hid ((cs.drop ((i + 1) * 3)).length = (n - (i + 1)) * 3) := hD
  have s2 : Hid (∀ u ∈ cs.drop ((i + 1) * 3), u.oneCell' = true) := fun u hu => h1 u (List.mem_of_mem_drop hu)
  have s3 : Hid (w.drew.ownsRow 0 30 3 (.slice (some ⟨g, 0, none⟩) i cap) i (cs.take (i * 3))) := (own_take h (by omega)).drew
  have hic : i ≤ cap := by omega
  have b0 : (0 : Int) ≤ (i : Int) := by omega
  have b1 : (i : Int) + 1 ≤ (n : Int) := by omega
  have b2 : ((i : Int) + 1).toNat = i + 1 := by omega
  have b3 : (0 : Int) ≤ (i : Int) + 1 := by omega
  clear hD hlen h1
  go_enter Try.func29, Try.ntmps29
  go_wp2_with fail
  go_region_law (refine step_append_fits rfl (.tmp 22) (.tmp 25) _ rfl 0 30 i0 3 Try.underlying40 hi0 hz1 g i cap (cs.take (i * 3)) (by simp [Act.eval, Act.put]) s3.out A (n - (i + 1)) (cap - (i + 1)) (cs.drop ((i + 1) * 3)) (by simp [Act.eval, Act.put]) s1.out hnews.out s2.out (by omega) ?_; intro w2 hown2 hgr2)
  have hn1 : i + (n - (i + 1)) = n - 1 := by omega
  rw [hn1] at hown2 ⊢
  have hv3 : ∀ w, (zeroValue 30).run Try.prog w = .ok (.agg #[.int .i64 0, .int .i64 0, .slice none 0 0]) w := fun _ => by kernel_rfl
  have c0 : (0 : Int) ≤ ((n - 1 : Nat) : Int) := by omega
  have c1 : ((n - 1 : Nat) : Int) ≤ (n : Int) := by omega
  have c2 : n - 1 ≤ n := by omega
  have c3 : n - (n - 1) = 1 := by omega
  go_wp2_with fail
  rw [run_clear3 w2 40 30 0 _ _ _ Try.underlying40 hv3 (by simp [Value.oneCell']) g ((n - 1) * 3) (cap - (n - 1)) (fun j hj => own_some hown2 _ (by omega)) (fun j _ => hown2.frozenAt _)]
  obtain ⟨R1, R2⟩ := own_setCells hown2 [.int .i64 0, .int .i64 0, .slice none 0 0] ((n - 1) * 3) (Nat.le_refl _)
  have R3 : w.grownBy (w2.setCells g ((n - 1) * 3) [.int .i64 0, .int .i64 0, .slice none 0 0]) (some g) :=
    ⟨R2.os.trans hgr2.os, R2.tape.trans hgr2.tape, R2.output.trans hgr2.output, Nat.le_trans hgr2.size R2.size, fun k hk hne => (R2.block k (Nat.lt_of_lt_of_le hk hgr2.size) hne).trans (hgr2.block k hk hne)⟩
  have HR := Lib.hid (And.intro R1 R3)
  clear R1 R2 R3 hown2 hgr2
  generalize w2.setCells g ((n - 1) * 3) [.int .i64 0, .int .i64 0, .slice none 0 0] = w4 at *
  go_wp2_with fail
  go_ret
  exact ⟨rfl, HR.out.1, HR.out.2⟩
end Go.Proofs.Ytdjgmgppghipkaa
