/- THE WALK of slices.Delete at []api.Packet, one element struck: the row keeps what is before and behind it.  THE WALKS of Take, Drop and Double.  THE WALKS of Drop and Double.  The bag's methods, each by ONE contract: over a bag whose blocks are all behind a first world w0 ('St'). -/
import Derived.Test.YtaelbgjcoakdlaaGreatSend
import Derived.Laws.OwnMore
import Derived.Lib.SliceRun
namespace Go.Proofs.YtaelbgjcoakdlaaGreat.Bg7
open Go.RowKit

/-- append within the capacity, as one step of a region that draws: the destination is a row of which k elements are owned. -/
theorem step_append_fits {P : Program} {ops : Array Oper} {o : Oper} {a : Act} {w : World} {K : Act → World → Prop} {Q : Exit → Act → World → Prop} {E : Prop} (hgd : o.guard = none) (s x : Operand) (t : TypeId)
    (ho : o.op = .call { callee := .builtin .append, args := #[s, x], argTypes := #[t, t] }) (base : Nat) (e : TypeId) (i : TypeInfo) (size : Nat) (ht : P.underlying t = some (.slice e)) (hi : P.info? e = some i) (hsize : i.size = size)
    (g k cap : Nat) (xs : List Value) (hs : a.eval s = .slice (some ⟨g, 0, none⟩) k cap) (hown : w.ownsRow base e size (.slice (some ⟨g, 0, none⟩) k cap) k xs) (ad : Addr) (m c : Nat) (news : List Value) (hx : a.eval x = .slice (some ad) m c) (hn : news.length = m * size)
    (hc : ∀ j u, news[j]? = some u → w.cell? (ad.add j) = some u) (h1c : ∀ u ∈ news, u.oneCell' = true) (b1 : k + m ≤ cap)
    (hK : ∀ w', w'.ownsRow base e size (.slice (some ⟨g, 0, none⟩) (k + m) cap) (k + m) (xs ++ news) → w.grownBy w' (some g) → K (a.put o.dst (.slice (some ⟨g, 0, none⟩) (k + m) cap)) w') :
    if Region.wanted o (yielded ops a.tmps) = true then Oper.wp P o a w K Q else E := by
  have hw : Region.wanted o (yielded ops a.tmps) = true := by simp [Region.wanted, hgd]
  rw [if_pos hw]
  obtain ⟨w', hrun, r1, r2⟩ := run_append_fits (P := P) w base t o.type e i size ht hi hsize g k cap xs hown ad m c news hn hc h1c b1
  unfold Oper.wp
  simp [execOp, ho, resolve, invoke, builtin, hs, hx, hrun, Result.andThen]
  exact hK w' r1 r2

/-- A shorter part of a row is owned too. -/
theorem own_take {w : World} {base : Nat} {e : TypeId} {size g n cap k : Nat} {cs : List Value} (h : w.ownsRow base e size (.slice (some ⟨g, 0, none⟩) n cap) n cs) (hk : k ≤ n) :
    w.ownsRow base e size (.slice (some ⟨g, 0, none⟩) k cap) k (cs.take (k * size)) := by
  obtain ⟨h1, h2⟩ := h
  have hm : k * size ≤ n * size := Nat.mul_le_mul_right size hk
  refine ⟨by rw [List.length_take]; omega, Or.inr ?_⟩
  rcases h2 with ⟨hv, _⟩ | ⟨g', cap', cur, hv, hb, hh, hc, hmx, hs, ht⟩
  · cases hv
  · obtain ⟨rfl, rfl⟩ : g = g' ∧ cap = cap' := by simpa using hv
    refine ⟨g, cap, cur, rfl, hb, hh, Nat.le_trans hk hc, hmx, hs, ?_⟩
    rw [← ht, List.take_take, Nat.min_eq_left hm]

/-- clear(s) on one element of three cells. -/
theorem run_clear3 {P : Program} (w : World) (t e ty : TypeId) (z0 z1 z2 : Value) (ht : P.underlying t = some (.slice e)) (hv : ∀ w, (zeroValue e).run P w = .ok (.agg #[z0, z1, z2]) w) (h1 : ∀ v ∈ [z0, z1, z2], v.oneCell' = true) (b o c : Nat)
    (hc : ∀ j, j < 3 → (w.cell? ⟨b, o + j, none⟩).isSome = true) (hf : ∀ j, j < 3 → w.frozen? ⟨b, o + j, none⟩ = false) :
    (Builtin.clear_ #[t] ty #[.slice (some ⟨b, o, none⟩) 1 c]).run P w = .ok (.tuple #[]) (w.setCells b o [z0, z1, z2]) := by
  have hst := run_storeCells_cells (P := P) b o [z0, z1, z2] 0 w (by simpa using hc) (by simpa using hf) h1
  simp only [Nat.add_zero] at hst
  have hzc : (Builtin.zeroCells #[z0, z1, z2] 1).toList = [z0, z1, z2] := by
    simp [Builtin.zeroCells]
    rfl
  simp [Builtin.clear_, run_underlying ht, hv, Value.cells, hzc, hst]

/-- What is set behind the owned part leaves it owned. -/
theorem own_setCells {w : World} {base : Nat} {e : TypeId} {size g n cap : Nat} {cs : List Value} (h : w.ownsRow base e size (.slice (some ⟨g, 0, none⟩) n cap) n cs) : ∀ (vs : List Value) (o : Nat), n * size ≤ o →
    (w.setCells g o vs).ownsRow base e size (.slice (some ⟨g, 0, none⟩) n cap) n cs ∧ w.grownBy (w.setCells g o vs) (some g) := by
  intro vs
  induction vs generalizing w with
  | nil => intro o _; exact ⟨h, World.grownBy.refl _ _⟩
  | cons v vs ih =>
    intro o ho
    have h' : (w.setCell ⟨g, o, none⟩ v).ownsRow base e size (.slice (some ⟨g, 0, none⟩) n cap) n cs := by
      obtain ⟨h1, h2⟩ := h
      refine ⟨h1, Or.inr ?_⟩
      rcases h2 with ⟨hv, _⟩ | ⟨g', cap', cur, hv, hb, hh, hc, hmx, hs, ht⟩
      · cases hv
      · obtain ⟨rfl, rfl⟩ : g = g' ∧ cap = cap' := by simpa using hv
        refine ⟨g, cap, cur.setIfInBounds o v, rfl, hb, blk_set hh o v, hc, hmx, by simpa using hs, ?_⟩
        rw [← ht]
        apply List.ext_getElem?
        intro j
        simp only [List.getElem?_take, Array.toList_setIfInBounds]
        split
        · rw [List.getElem?_set_ne (by omega)]
        · rfl
    obtain ⟨a, b⟩ := ih h' (o + 1) (by omega)
    refine ⟨a, ⟨b.os, b.tape, b.output, ?_, fun k hk hne => (b.block k (by simpa [World.setCell] using hk) hne).trans (Below.heap_setCell w ⟨g, o, none⟩ v k (fun e => hne (congrArg some e)))⟩⟩
    have := b.size
    have e : (w.setCell ⟨g, o, none⟩ v).heap.size = w.heap.size := by simp [World.setCell]
    rw [e] at this
    exact this

theorem own_some {w : World} {base : Nat} {e : TypeId} {size g n cap : Nat} {cs : List Value} (h : w.ownsRow base e size (.slice (some ⟨g, 0, none⟩) n cap) n cs) (j : Nat) (hj : j < cap * size) : (w.cell? ⟨g, j, none⟩).isSome = true := by
  rcases h.2 with ⟨hv, _⟩ | ⟨g', cap', cur, hv, hb, hh, hc, hmx, hs, ht⟩
  · cases hv
  · obtain ⟨rfl, rfl⟩ : g = g' ∧ cap = cap' := by simpa using hv
    rw [blk_cell hh j, Array.getElem?_eq_getElem (by omega)]
    rfl

def DelPost (w : World) (g n cap : Nat) (cs : List Value) (e : Ending) (w' : World) : Prop :=
  e = .returned (.slice (some ⟨g, 0, none⟩) n cap) ∧ w'.ownsRow 0 41 3 (.slice (some ⟨g, 0, none⟩) n cap) n cs ∧ w.grownBy w' (some g)

set_option maxRecDepth 100000 in
set_option maxHeartbeats 2000000 in
theorem delete_any (g n cap i : Nat) (cs : List Value) (w : World) (h : w.ownsRow 0 41 3 (.slice (some ⟨g, 0, none⟩) n cap) n cs) (h1 : ∀ u ∈ cs, u.oneCell' = true) (hi : i < n) (hn : n ≤ 48) (_hcap : cap ≤ 9223372036854775807) (hnc : n ≤ cap) :
    Calls Tryz.prog 18 #[.slice (some ⟨g, 0, none⟩) n cap, .int .i64 i, .int .i64 (i + 1)] w (DelPost w g (n - 1) cap (cs.take (i * 3) ++ cs.drop ((i + 1) * 3))) := by
  obtain ⟨i0, hi0, hz0, hz1, hz2⟩ := info_parts Tryz.info30
  have hlen := h.1
  have hD : (cs.drop ((i + 1) * 3)).length = (n - (i + 1)) * 3 := by rw [List.length_drop, hlen]; omega
  obtain ⟨A, hA, hnews⟩ : ∃ A : Addr, (if cap = i + 1 then some (⟨g, 0, none⟩ : Addr) else some ⟨g, (i + 1) * 3, none⟩) = some A ∧ Hid (∀ j u, (cs.drop ((i + 1) * 3))[j]? = some u → w.drew.cell? (A.add j) = some u) := by
    by_cases hc : cap = i + 1
    · refine ⟨⟨g, 0, none⟩, by simp [hc], fun j u hu => ?_⟩
      have h0 : (cs.drop ((i + 1) * 3)).length = 0 := by rw [hD]; omega
      rw [List.length_eq_zero_iff.1 h0] at hu
      simp at hu
    · refine ⟨⟨g, (i + 1) * 3, none⟩, by simp [hc], fun j u hu => ?_⟩
      rw [List.getElem?_drop] at hu
      have hj : (i + 1) * 3 + j < n * 3 := by
        have := (List.getElem?_eq_some_iff.1 hu).1
        omega
      rw [Addr.add_mid]
      exact (h.cellAt ((i + 1) * 3 + j) hj).trans hu
  have s1 : Hid ((cs.drop ((i + 1) * 3)).length = (n - (i + 1)) * 3) := hD
  have s2 : Hid (∀ u ∈ cs.drop ((i + 1) * 3), u.oneCell' = true) := fun u hu => h1 u (List.mem_of_mem_drop hu)
  have s3 : Hid (w.drew.ownsRow 0 41 3 (.slice (some ⟨g, 0, none⟩) i cap) i (cs.take (i * 3))) := (own_take h (by omega)).drew
  have hic : i ≤ cap := by omega
  have b0 : (0 : Int) ≤ (i : Int) := by omega
  have b1 : (i : Int) + 1 ≤ (n : Int) := by omega
  have b2 : ((i : Int) + 1).toNat = i + 1 := by omega
  have b3 : (0 : Int) ≤ (i : Int) + 1 := by omega
  clear hD hlen h1
  go_enter Tryz.func18, Tryz.ntmps18
  go_wp2_with fail
  go_region_law (refine step_append_fits rfl (.tmp 22) (.tmp 25) _ rfl 0 41 i0 3 Tryz.underlying69 hi0 hz1 g i cap (cs.take (i * 3)) (by simp [Act.eval, Act.put]) s3.out A (n - (i + 1)) (cap - (i + 1)) (cs.drop ((i + 1) * 3)) (by simp [Act.eval, Act.put]) s1.out hnews.out s2.out (by omega) ?_; intro w2 hown2 hgr2)
  have hn1 : i + (n - (i + 1)) = n - 1 := by omega
  rw [hn1] at hown2 ⊢
  have hv3 : ∀ w, (zeroValue 41).run Tryz.prog w = .ok (.agg #[.int .i64 0, .int .i64 0, .slice none 0 0]) w := fun _ => by kernel_rfl
  have c0 : (0 : Int) ≤ ((n - 1 : Nat) : Int) := by omega
  have c1 : ((n - 1 : Nat) : Int) ≤ (n : Int) := by omega
  have c2 : n - 1 ≤ n := by omega
  have c3 : n - (n - 1) = 1 := by omega
  go_wp2_with fail
  rw [run_clear3 w2 69 41 0 _ _ _ Tryz.underlying69 hv3 (by simp [Value.oneCell']) g ((n - 1) * 3) (cap - (n - 1)) (fun j hj => own_some hown2 _ (by omega)) (fun j _ => hown2.frozenAt _)]
  obtain ⟨R1, R2⟩ := own_setCells hown2 [.int .i64 0, .int .i64 0, .slice none 0 0] ((n - 1) * 3) (Nat.le_refl _)
  have R3 : w.grownBy (w2.setCells g ((n - 1) * 3) [.int .i64 0, .int .i64 0, .slice none 0 0]) (some g) :=
    ⟨R2.os.trans hgr2.os, R2.tape.trans hgr2.tape, R2.output.trans hgr2.output, Nat.le_trans hgr2.size R2.size, fun k hk hne => (R2.block k (Nat.lt_of_lt_of_le hk hgr2.size) hne).trans (hgr2.block k hk hne)⟩
  have HR := Lib.hid (And.intro R1 R3)
  clear R1 R2 R3 hown2 hgr2
  generalize w2.setCells g ((n - 1) * 3) [.int .i64 0, .int .i64 0, .slice none 0 0] = w4 at *
  go_wp2_with fail
  go_ret
  exact ⟨rfl, HR.out.1, HR.out.2⟩
end Go.Proofs.YtaelbgjcoakdlaaGreat.Bg7

namespace Go.Proofs.YtaelbgjcoakdlaaGreat.Bg7
open Go.RowKit

/-- One packet is out: the row is shorter. -/
theorem pop_bag {G : Nat → Prop} {w2 w3 : World} {p g n cap i : Nat} {b : Bg} {cs : List Value} (hb : BagAt G w2 p b)
    (h5 : w2.heap[p]? = some (.cells #[.slice (some ⟨g, 0, none⟩) n cap, .int .i64 b.sent, .int .i64 b.lost] 71 (0, 0))) (h6 : w2.ownsRow 0 41 3 (.slice (some ⟨g, 0, none⟩) n cap) n cs) (hG : G g)
    (h8 : PktsC (fun k => G k ∧ k ≠ p ∧ (Value.slice (some ⟨g, 0, none⟩) n cap).ownBlock ≠ some k) w2 cs b.l) (hn : n = b.l.length) (hi : i < n)
    (hown : w3.ownsRow 0 41 3 (.slice (some ⟨g, 0, none⟩) (n - 1) cap) (n - 1) (cs.take (i * 3) ++ cs.drop ((i + 1) * 3))) (hgr : w2.grownBy w3 (some g)) :
    BagAt G (w3.setCell ⟨p, 0, none⟩ (.slice (some ⟨g, 0, none⟩) (n - 1) cap)) p ⟨b.l.eraseIdx i, b.sent, b.lost⟩ := by
  have hne : some g ≠ some p := own_ne h6 h5 (by decide)
  have hgp : p ≠ g := fun e => hne (congrArg some e.symm)
  have hlen : (b.l.eraseIdx i).length = n - 1 := by rw [List.length_eraseIdx_of_lt (by omega)]; omega
  have hK : ∀ k, k < w2.heap.size → k ≠ p → k ≠ g → (w3.setCell ⟨p, 0, none⟩ (.slice (some ⟨g, 0, none⟩) (n - 1) cap)).heap[k]? = w2.heap[k]? := fun k hk h1 h2 =>
    (Below.heap_setCell w3 ⟨p, 0, none⟩ _ k h1).trans (hgr.block k hk (fun e => h2 (by simpa using e)))
  have h3p := (hgr.block p hb.head.2 (fun e => hgp (by simpa using e))).trans h5
  have hsz : w2.heap.size ≤ (w3.setCell ⟨p, 0, none⟩ (.slice (some ⟨g, 0, none⟩) (n - 1) cap)).heap.size := by
    have := hgr.size
    simpa [World.setCell] using this
  have hs := hb.small
  refine ⟨by show (b.l.eraseIdx i).length ≤ 48; omega, hb.low, hb.lows, fun q hq => hb.data q (List.mem_of_mem_eraseIdx hq), ⟨hb.head.1, Nat.lt_of_lt_of_le hb.head.2 hsz⟩, .slice (some ⟨g, 0, none⟩) (n - 1) cap, cs.take (i * 3) ++ cs.drop ((i + 1) * 3), ?_, ?_, ?_, ?_⟩
  · rw [blk_set h3p 0 _]; rfl
  · show World.ownsRow _ _ _ _ _ (b.l.eraseIdx i).length _
    rw [hlen]
    exact ownsRow_keep hown (fun k hk => Below.heap_setCell w3 ⟨p, 0, none⟩ _ k (by
      have : g = k := by simpa [Value.ownBlock] using hk
      rw [← this]; exact fun e => hgp e.symm))
  · intro k hk
    have : g = k := by simpa [Value.ownBlock] using hk
    rw [← this]; exact hG
  · show PktsC _ _ _ (b.l.eraseIdx i)
    rw [List.eraseIdx_eq_take_drop_succ]
    have h9 := (h8.keep (fun k hk hg => hK k hk hg.2.1 (fun e => hg.2.2 (by simp [Value.ownBlock, e]))) hsz)
    exact ((h9.take_drop i).1.append (h9.take_drop (i + 1)).2)

theorem take_no (G : Nat → Prop) (p : Nat) (b : Bg) (k : Int) (w : World) (h : BagAt G w p b) (hk : k < 0 ∨ b.l.length ≤ k) :
    Calls Tryz.prog 9 #[.pointer (some ⟨p, 0, none⟩), .int .i64 k] w fun e w' => e = .returned (.tuple #[.agg #[.int .i64 0, .int .i64 0, .slice none 0 0], .bool false]) ∧ Below w.heap.size w w' := by
  go_enter Tryz.func9, Tryz.ntmps9
  go_wp2_with fail
  refine (look_no G p b k _ (h.below ((Below.refl _ _).alloc (Nat.le_refl _) _)) hk).mono ?_
  rintro e w1 ⟨rfl, hb⟩
  obtain ⟨d0, d1, d2, e0, e1, e2⟩ := blk3 ((hb.block w.heap.size (by simp)).trans (heap_at w _ _ rfl))
  have hlt : w.heap.size < w1.heap.size := Nat.lt_of_lt_of_le (by simp) hb.size
  go_wp2_with fail
  refine bodyPost_ret (v := .tuple #[.agg #[.int .i64 0, .int .i64 0, .slice none 0 0], .bool false]) (by simp [results, Tryz.results9, go_sem, d0, d1, d2, hlt]) rfl ⟨rfl, ?_⟩
  have hB := below_step ((Below.refl w.heap.size w).alloc (Nat.le_refl _) _) hb
  exact (((hB.setCell (Nat.le_refl _) _).setCell (Nat.le_refl _) _).setCell (Nat.le_refl _) _).alloc (by simp [World.setCell]; omega) _

theorem BagAt.mono {G G' : Nat → Prop} {w : World} {p : Nat} {b : Bg} (h : BagAt G w p b) (hG : ∀ k, k < w.heap.size → G k → G' k) : BagAt G' w p b := by
  obtain ⟨h1, h2, h3, h3', h4, sv, cs, h5, h6, h7, h8⟩ := h
  exact ⟨h1, h2, h3, h3', ⟨hG p h4.2 h4.1, h4.2⟩, sv, cs, h5, h6, fun g hg => hG g (h6.lt g hg).2 (h7 g hg), h8.mono (fun k hk hg => ⟨hG k hk hg.1, hg.2⟩)⟩
theorem BagAt.tight {G : Nat → Prop} {w : World} {p : Nat} {b : Bg} (h : BagAt G w p b) : BagAt (fun k => G k ∧ k < w.heap.size) w p b := h.mono (fun _ hk hg => ⟨hg, hk⟩)

def TakeYes (G : Nat → Prop) (w : World) (p : Nat) (b : Bg) (i : Nat) (q : Pkt) (e : Ending) (w' : World) : Prop :=
  ∃ v, e = .returned (.tuple #[v, .bool true]) ∧ NewPkt w w' v q ∧ BagAt (fun k => G k ∧ k < w.heap.size) w' p ⟨b.l.eraseIdx i, b.sent, b.lost⟩ ∧ Mod G w w'

set_option maxRecDepth 100000 in
set_option maxHeartbeats 2000000 in
theorem take_yes (G : Nat → Prop) (p : Nat) (b : Bg) (i : Nat) (q : Pkt) (w : World) (h : BagAt G w p b) (hq : b.l[i]? = some q) :
    Calls Tryz.prog 9 #[.pointer (some ⟨p, 0, none⟩), .int .i64 i] w (TakeYes G w p b i q) := by
  have hi : i < b.l.length := (List.getElem?_eq_some_iff.1 hq).1
  have hi48 : i < 48 := Nat.lt_of_lt_of_le hi h.small
  have hpw := Lib.hid h.head.2
  have hx := h.below ((Below.refl _ _).alloc (Nat.le_refl _) (.cells #[.int .i64 0, .int .i64 0, .slice none 0 0] 41))
  go_enter Tryz.func9, Tryz.ntmps9
  go_wp2_with fail
  refine (look_yes G p b i q _ hx hq).mono ?_
  rintro e w1 ⟨v, rfl, ⟨d, rfl, hd, hdw⟩, hb⟩
  have hB := below_step ((Below.refl w.heap.size w).alloc (Nat.le_refl _) (.cells #[.int .i64 0, .int .i64 0, .slice none 0 0] 41)) hb
  have hx1 := h.tight.below hB
  obtain ⟨_, _, _, _, hhead', sv, cs, h5w, h6w, h7, h8w⟩ := id h.tight
  have hhead := h.head
  obtain ⟨g, cap, rfl, hc, hm, hg, _⟩ := row_cells h6w hi
  have h5 := (hB.block p hhead.2).trans h5w
  have h6 := ownsRow_keep h6w (fun k hk => hB.block k (h6w.lt k hk).2)
  have h8 := h8w.keep (fun k hk _ => hB.block k hk) hB.size
  obtain ⟨a0, a1, a2, b0, b1, b2⟩ := blk3 h5
  obtain ⟨d0, d1, d2, e0, e1, e2⟩ := blk3 ((hb.block w.heap.size (by simp)).trans (heap_at w _ _ rfl))
  have hlt : w.heap.size < w1.heap.size := Nat.lt_of_lt_of_le (by simp) hb.size
  have hwr : IntKind.i64.wrap ((i : Int) + 1) = (i : Int) + 1 := IntWalk.i64_in _ (by omega)
  have hp1 : p < w1.heap.size := Nat.lt_trans hhead.2 hlt
  have K5 := Lib.hid h5
  have K6 := Lib.hid h6
  have K7 := Lib.hid h7
  have K8 := Lib.hid h8
  have KD := Lib.hid hd
  have KG := Lib.hid hg
  have KO := Lib.hid (oneCell_pkts h8)
  clear h5w h6w h8w h5 h6 h7 h8 hd hg hx
  go_wp2_with fail
  refine (delete_any g _ cap i cs _ (K6.out.alloc _) KO.out hi h.small (by unfold maxLen at hm; omega) hc).mono ?_
  rintro e w3 ⟨rfl, hown, hgr⟩
  have hg := KG.out
  have hne : (some g : Option Nat) ≠ some p := own_ne (v := .slice (some ⟨g, 0, none⟩) b.l.length cap) K6.out K5.out (by decide)
  obtain ⟨x0, x1, x2, y0, y1, y2⟩ := blk3 ((hgr.block w1.heap.size (by simp) (by simp; omega)).trans (heap_at w1 _ _ rfl))
  obtain ⟨z0, z1, z2, u0, u1, u2⟩ := blk3 ((hgr.block w.heap.size (by simp; omega) (by simp; omega)).trans ((heap_past w1 _ _ hlt).trans ((hb.block w.heap.size (by simp)).trans (heap_at w _ _ rfl))))
  obtain ⟨s0, s1, s2, t0, t1, t2⟩ := blk3 ((hgr.block p (by simp; omega) (by simp; rintro rfl; exact hne rfl)).trans ((heap_past w1 _ _ hp1).trans K5.out))
  have hpn : p ≠ w.heap.size := by have := hhead.2; omega
  have hpn1 : p ≠ w1.heap.size := by omega
  have hwn : w.heap.size ≠ w1.heap.size := by omega
  clear a0 a1 a2 b0 b1 b2 d0 d1 d2 e0 e1 e2
  go_wp2_with fail
  refine bodyPost_ret (v := .tuple #[.agg #[.int .i64 q.src, .int .i64 q.dst, .slice (some ⟨d, 0, none⟩) q.data.length q.data.length], .bool true]) (by simp [results, Tryz.results9, go_sem, z0, z1, z2]) rfl ⟨_, rfl, ⟨d, rfl, ?_, ?_⟩, ?_, ?_⟩
  · have hd1 := lt_of_heap KD.out
    have hdp : d ≠ p := by have := hhead.2; have := hdw; simp at this; omega
    have hdn : d ≠ w.heap.size := by have := hdw; simp at this; omega
    have hdg : d ≠ g := by have := hdw; simp at this; omega
    refine blk_far (blk_far (blk_far (blk_far ?_ hdp _) hdn _) hdn _) hdn _
    exact (hgr.block d (by simp; omega) (by simpa using hdg)).trans ((heap_past w1 _ d hd1).trans KD.out)
  · have := hdw; simp at this; omega
  · have hp := pop_bag (hx1.below ((Below.refl _ _).alloc (Nat.le_refl _) _)) ((heap_past w1 _ p hp1).trans K5.out) (K6.out.alloc _) (K7.out g rfl) (K8.out.keep (fun k hk _ => heap_past w1 _ k hk) (by simp)) rfl hi hown hgr
    refine (hp.keep (fun k hk hg => ?_) (by simp [World.setCell])).mono (fun k _ hg => hg)
    have hkn : k ≠ w.heap.size := by have := hg.2; omega
    exact (Below.heap_setCell _ _ _ k hkn).trans ((Below.heap_setCell _ _ _ k hkn).trans (Below.heap_setCell _ _ _ k hkn))
  · have hm1 : Mod G w w3 := Mod.grown ((Mod.of_below hB).alloc _) hgr (fun k hk _ => by
      obtain rfl : g = k := by simpa using hk
      exact (K7.out g rfl).1)
    exact (((hm1.setCell (fun _ => hhead.1) _).setCell (fun h => absurd h (by simp)) _).setCell (fun h => absurd h (by simp)) _).setCell (fun h => absurd h (by simp)) _
end Go.Proofs.YtaelbgjcoakdlaaGreat.Bg7

namespace Go.Proofs.YtaelbgjcoakdlaaGreat.Bg7
open Go.RowKit

theorem drop_no (G : Nat → Prop) (p : Nat) (b : Bg) (k : Int) (w : World) (h : BagAt G w p b) (hk : k < 0 ∨ b.l.length ≤ k) :
    Calls Tryz.prog 11 #[.pointer (some ⟨p, 0, none⟩), .int .i64 k] w fun e w' => e = .returned (.bool false) ∧ Below w.heap.size w w' := by
  go_enter Tryz.func11, Tryz.ntmps11
  go_wp2_with fail
  refine (take_no G p b k _ h hk).mono ?_
  rintro e w1 ⟨rfl, hb⟩
  go_wp2_with fail
  go_ret
  exact ⟨rfl, hb.alloc hb.size _⟩

theorem drop_yes (G : Nat → Prop) (p : Nat) (b : Bg) (i : Nat) (q : Pkt) (w : World) (h : BagAt G w p b) (hq : b.l[i]? = some q) :
    Calls Tryz.prog 11 #[.pointer (some ⟨p, 0, none⟩), .int .i64 i] w fun e w' => e = .returned (.bool true) ∧ BagAt (Up G w) w' p ⟨b.l.eraseIdx i, b.sent, b.lost⟩ ∧ Mod G w w' := by
  go_enter Tryz.func11, Tryz.ntmps11
  go_wp2_with fail
  refine (take_yes G p b i q _ h hq).mono ?_
  rintro e w1 ⟨v, rfl, ⟨d, rfl, _, _⟩, hB, hM⟩
  go_wp2_with fail
  go_ret
  exact ⟨rfl, (hB.mono (fun _ _ hk => Or.inl hk.1)).below ((Below.refl _ _).alloc (Nat.le_refl _) _), hM.alloc _⟩

theorem double_gone (G : Nat → Prop) (p : Nat) (b : Bg) (k : Int) (w : World) (h : BagAt G w p b) (hk : k < 0 ∨ b.l.length ≤ k) :
    Calls Tryz.prog 12 #[.pointer (some ⟨p, 0, none⟩), .int .i64 k] w fun e w' => e = .returned (.int .i64 72) ∧ Below w.heap.size w w' := by
  go_enter Tryz.func12, Tryz.ntmps12
  go_wp2_with fail
  refine (look_no G p b k _ h hk).mono ?_
  rintro e w1 ⟨rfl, hb⟩
  go_wp2_with fail
  go_ret
  exact ⟨rfl, hb.alloc hb.size _⟩

theorem double_full (G : Nat → Prop) (p : Nat) (b : Bg) (i : Nat) (q : Pkt) (w : World) (h : BagAt G w p b) (hq : b.l[i]? = some q) (hf : 48 ≤ b.l.length) :
    Calls Tryz.prog 12 #[.pointer (some ⟨p, 0, none⟩), .int .i64 i] w fun e w' => e = .returned (.int .i64 51) ∧ Below w.heap.size w w' := by
  have hi : i < b.l.length := (List.getElem?_eq_some_iff.1 hq).1
  go_enter Tryz.func12, Tryz.ntmps12
  go_wp2_with fail
  refine (look_yes G p b i q _ h hq).mono ?_
  rintro e w1 ⟨v, rfl, ⟨d, rfl, hd, hdw⟩, hb⟩
  have hx1 := h.below hb
  obtain ⟨_, _, _, _, hhead, sv, cs, h5, h6, h7, h8⟩ := id hx1
  obtain ⟨a0, a1, a2, b0, b1, b2⟩ := blk3 h5
  obtain ⟨g, cap, rfl, hc, hm, hg, _⟩ := row_cells h6 hi
  have hp1 := hhead.2
  clear h5 h6 h7 h8 hx1
  go_wp2_with fail
  go_ret
  exact ⟨rfl, hb.alloc hb.size _⟩

set_option maxRecDepth 100000 in
set_option maxHeartbeats 2000000 in
theorem double_ok (G : Nat → Prop) (p : Nat) (b : Bg) (i : Nat) (q : Pkt) (w : World) (h : BagAt G w p b) (hq : b.l[i]? = some q) (hf : b.l.length < 48) :
    Calls Tryz.prog 12 #[.pointer (some ⟨p, 0, none⟩), .int .i64 i] w fun e w' => e = .returned (.int .i64 0) ∧ BagAt (Up G w) w' p ⟨b.l ++ [q], b.sent, b.lost⟩ ∧ Mod G w w' := by
  have hi : i < b.l.length := (List.getElem?_eq_some_iff.1 hq).1
  have hq200 := h.data q (List.mem_of_getElem? hq)
  go_enter Tryz.func12, Tryz.ntmps12
  go_wp2_with fail
  refine (look_yes G p b i q _ h hq).mono ?_
  rintro e w1 ⟨v, rfl, ⟨d, rfl, hd, hdw⟩, hb⟩
  have hx1 := h.below hb
  obtain ⟨_, _, _, _, hhead, sv, cs, h5, h6, h7, h8⟩ := id hx1
  obtain ⟨g, cap, rfl, hc, hm, hg, _⟩ := row_cells h6 hi
  have hB2 : Below w1.heap.size w1 (w1.alloc (.cells #[.int .i64 q.src, .int .i64 q.dst, .slice (some ⟨d, 0, none⟩) q.data.length q.data.length] 41)).drew := ((Below.refl _ _).alloc (Nat.le_refl _) _).drew
  have hM : Mid G (fun _ => False) w p b.l b.sent b.lost (.slice (some ⟨g, 0, none⟩) b.l.length cap) cs ⟨0, 0, []⟩ (.slice none 0 0) w1 := ⟨h5, h6, h8, BytesV.nil _ _, Mod.of_below hb⟩
  have HM := Lib.hid (hM.below hB2)
  have HD := Lib.hid ((hB2.block d (lt_of_heap hd)).trans hd)
  have H7 := Lib.hid h7
  obtain ⟨a0, a1, a2, b0, b1, b2⟩ := blk3 h5
  have hp1 := hhead.2
  obtain ⟨i0, hi0, hz0, hz1, hz2⟩ := info_parts Tryz.info30
  clear h5 h6 h7 h8 hx1 hM hd hB2
  go_wp2_with fail
  go_region_law
    ((refine step_append_lies _ (by rfl) _ _ _ (by rfl) 0 41 i0 _ 3 40 Tryz.underlying69 hi0 hz0 hz1 hz2 rfl (by omega) (.slice (some ⟨g, 0, none⟩) b.l.length cap) b.l.length cs (by rfl) (HM.out.own.alloc _) ⟨w1.heap.size + 1, 0, none⟩ 1 1 [.int .i64 q.src, .int .i64 q.dst, .slice (some ⟨d, 0, none⟩) q.data.length q.data.length] (by rfl) (by rfl)
        (World.news_of_block (cs := #[.int .i64 q.src, .int .i64 q.dst, .slice (some ⟨d, 0, none⟩) q.data.length q.data.length]) (t := 41) (fr := (0, 0)) (heap_at _ _ _ (by simp))) (by simp [Value.oneCell']) (by omega) (by unfold maxLen; omega) (by omega) (by omega) (w1.heap.size + 1 + 1) (by simp) ?_
      intro gg cap2 w3 hown3 hgrow hat hlt
      obtain ⟨z0, z1, z2, f0, f1, f2⟩ := blk3 (HM.out.grown hgrow)))
  all_goals
    go_wp2_with fail
    go_ret
    have R := push_bag (q := q) HM.out hhead.1 H7.out h.lows h.low hf hq200 h.data h.head.2 HD.out hdw hown3 hgrow (by
      rcases hat with e | e
      · exact Or.inl e
      · exact Or.inr (by rw [e]; show _ = (w1.alloc _).heap.size + 1; simp))
    exact ⟨rfl, R.1, R.2⟩

/-- The packets of a list that is new: the row and the bytes lie behind w. -/
def NewPkts (w w' : World) (v : Value) (l : List Pkt) : Prop := ∃ cs, w'.ownsRow w.heap.size 41 3 v l.length cs ∧ PktsC (fun k => w.heap.size ≤ k ∧ v.ownBlock ≠ some k) w' cs l
def ListPost (w : World) (l : List Pkt) (e : Ending) (w' : World) : Prop := ∃ v, e = .returned v ∧ NewPkts w w' v l ∧ Below w.heap.size w w'
end Go.Proofs.YtaelbgjcoakdlaaGreat.Bg7

namespace Go.Proofs.YtaelbgjcoakdlaaGreat.Bg7
open Go.RowKit

def Bg.send (b : Bg) (q : Pkt) : Bg := if 200 < q.data.length then ⟨b.l, b.sent, b.lost + 1⟩ else if 48 ≤ b.l.length then ⟨b.l, b.sent, b.lost + 1⟩ else ⟨b.l ++ [q], b.sent + 1, b.lost⟩
def Bg.sendE (b : Bg) (q : Pkt) : Int := if 200 < q.data.length then 41 else if 48 ≤ b.l.length then 51 else 0
/-- the packet with the number k, an int -/
def Bg.at_ (b : Bg) (k : Int) : Option Pkt := if k < 0 then none else b.l[k.toNat]?
def Bg.drop (b : Bg) (k : Int) : Bg := match b.at_ k with | none => b | some _ => ⟨b.l.eraseIdx k.toNat, b.sent, b.lost⟩
def Bg.double (b : Bg) (k : Int) : Bg := match b.at_ k with | none => b | some q => if 48 ≤ b.l.length then b else ⟨b.l ++ [q], b.sent, b.lost⟩
def Bg.doubleE (b : Bg) (k : Int) : Int := match b.at_ k with | none => 72 | some _ => if 48 ≤ b.l.length then 51 else 0

theorem Bg.at_none {b : Bg} {k : Int} (h : b.at_ k = none) : k < 0 ∨ (b.l.length : Int) ≤ k := by
  unfold Bg.at_ at h
  split at h
  · exact Or.inl (by assumption)
  · right; have := List.getElem?_eq_none_iff.1 h; omega
theorem Bg.at_some {b : Bg} {k : Int} {q : Pkt} (h : b.at_ k = some q) : ∃ i : Nat, k = i ∧ b.l[i]? = some q := by
  unfold Bg.at_ at h
  split at h
  · cases h
  · exact ⟨k.toNat, by omega, h⟩

/-- The bag b at p, all of its blocks in G; below w0 all is as it was. -/
structure St (G : Nat → Prop) (w0 : World) (p : Nat) (b : Bg) (wx : World) : Prop where
  bag : BagAt G wx p b
  below : Below w0.heap.size w0 wx

/-- G holds of all that is new behind w. -/
def News (G : Nat → Prop) (w : World) : Prop := ∀ k, w.heap.size ≤ k → G k

theorem new_st (w0 w : World) (hB : Below w0.heap.size w0 w) : Calls Tryz.prog 6 #[] w fun e w' => e = .returned (.pointer (some ⟨w.heap.size, 0, none⟩)) ∧ BagAt (fun k => k = w.heap.size) w' w.heap.size ⟨[], 0, 0⟩ ∧ Below w.heap.size w w' ∧ Below w0.heap.size w0 w' :=
  (new_any w).mono fun _ _ ⟨h1, h2, h3⟩ => ⟨h1, h2, h3, hB.trans (h3.mono hB.size)⟩

theorem send_any (G D : Nat → Prop) (p : Nat) (b : Bg) (q : Pkt) (dv : Value) (w : World) (h : BagAt G w p b) (hd : BytesV D w dv q.data) (hD : ∀ k, k < w.heap.size → D k → k ≠ p) (hs : b.sent + 1 < 4611686018427387904) (hl : b.lost + 1 < 4611686018427387904) :
    Calls Tryz.prog 27 #[.pointer (some ⟨p, 0, none⟩), .agg #[.int .i64 q.src, .int .i64 q.dst, dv]] w fun e w' => e = .returned (.int .i64 (b.sendE q)) ∧ BagAt (Up G w) w' p (b.send q) ∧ Mod G w w' := by
  unfold Bg.send Bg.sendE
  by_cases h1 : 200 < q.data.length
  · rw [if_pos h1, if_pos h1]; exact send_big G D p b q dv w h hd h1 hl
  · rw [if_neg h1, if_neg h1]
    by_cases h2 : 48 ≤ b.l.length
    · rw [if_pos h2, if_pos h2]; exact send_full G D p b q dv w h hd (by omega) h2 hl
    · rw [if_neg h2, if_neg h2]; exact send_ok G D p b q dv w h hd hD (by omega) (by omega) hs

theorem drop_any (G : Nat → Prop) (p : Nat) (b : Bg) (k : Int) (w : World) (h : BagAt G w p b) :
    Calls Tryz.prog 11 #[.pointer (some ⟨p, 0, none⟩), .int .i64 k] w fun e w' => e = .returned (.bool (b.at_ k).isSome) ∧ BagAt (Up G w) w' p (b.drop k) ∧ Mod G w w' := by
  unfold Bg.drop
  cases hk : b.at_ k with
  | none => exact (drop_no G p b k w h (Bg.at_none hk)).mono fun _ _ ⟨h1, h2⟩ => ⟨h1, (h.below h2).up, Mod.of_below h2⟩
  | some q =>
    obtain ⟨i, rfl, hi⟩ := Bg.at_some hk
    exact (drop_yes G p b i q w h hi).mono fun _ _ ⟨h1, h2, h3⟩ => ⟨h1, by simpa using h2, h3⟩

theorem double_any (G : Nat → Prop) (p : Nat) (b : Bg) (k : Int) (w : World) (h : BagAt G w p b) :
    Calls Tryz.prog 12 #[.pointer (some ⟨p, 0, none⟩), .int .i64 k] w fun e w' => e = .returned (.int .i64 (b.doubleE k)) ∧ BagAt (Up G w) w' p (b.double k) ∧ Mod G w w' := by
  unfold Bg.double Bg.doubleE
  cases hk : b.at_ k with
  | none => exact (double_gone G p b k w h (Bg.at_none hk)).mono fun _ _ ⟨h1, h2⟩ => ⟨h1, (h.below h2).up, Mod.of_below h2⟩
  | some q =>
    obtain ⟨i, rfl, hi⟩ := Bg.at_some hk
    by_cases hf : 48 ≤ b.l.length
    · simp only [if_pos hf]
      exact (double_full G p b i q w h hi hf).mono fun _ _ ⟨h1, h2⟩ => ⟨h1, (h.below h2).up, Mod.of_below h2⟩
    · simp only [if_neg hf]
      exact double_ok G p b i q w h hi (by omega)

/-- What Look and Take hand back: the packet, new; or the zero packet and false. -/
def Got (w : World) (o : Option Pkt) (e : Ending) (w' : World) : Prop :=
  match o with
  | none => e = .returned (.tuple #[.agg #[.int .i64 0, .int .i64 0, .slice none 0 0], .bool false])
  | some q => ∃ v, e = .returned (.tuple #[v, .bool true]) ∧ NewPkt w w' v q

theorem look_any (G : Nat → Prop) (p : Nat) (b : Bg) (k : Int) (w : World) (h : BagAt G w p b) :
    Calls Tryz.prog 17 #[.pointer (some ⟨p, 0, none⟩), .int .i64 k] w fun e w' => Got w (b.at_ k) e w' ∧ Below w.heap.size w w' := by
  cases hk : b.at_ k with
  | none => exact (look_no G p b k w h (Bg.at_none hk)).mono fun _ _ h => h
  | some q =>
    obtain ⟨i, rfl, hi⟩ := Bg.at_some hk
    exact (look_yes G p b i q w h hi).mono fun _ _ ⟨v, h1, h2, h3⟩ => ⟨⟨v, h1, h2⟩, h3⟩
theorem take_any2 (G : Nat → Prop) (p : Nat) (b : Bg) (k : Int) (w : World) (h : BagAt G w p b) :
    Calls Tryz.prog 9 #[.pointer (some ⟨p, 0, none⟩), .int .i64 k] w fun e w' => Got w (b.at_ k) e w' ∧ BagAt (fun k => G k ∧ k < w.heap.size) w' p (b.drop k) ∧ Mod G w w' := by
  unfold Bg.drop
  cases hk : b.at_ k with
  | none => exact (take_no G p b k w h (Bg.at_none hk)).mono fun _ _ ⟨h1, h2⟩ => ⟨h1, h.tight.below h2, Mod.of_below h2⟩
  | some q =>
    obtain ⟨i, rfl, hi⟩ := Bg.at_some hk
    exact (take_yes G p b i q w h hi).mono fun _ _ ⟨v, h1, h2, h3, h4⟩ => ⟨⟨v, h1, h2⟩, by simpa using h3, h4⟩
theorem take_any (G : Nat → Prop) (p : Nat) (b : Bg) (k : Int) (w : World) (h : BagAt G w p b) :
    Calls Tryz.prog 9 #[.pointer (some ⟨p, 0, none⟩), .int .i64 k] w fun e w' => Got w (b.at_ k) e w' ∧ BagAt (Up G w) w' p (b.drop k) ∧ Mod G w w' :=
  (take_any2 G p b k w h).mono fun _ _ ⟨h1, h2, h3⟩ => ⟨h1, h2.mono (fun _ _ hk => Or.inl hk.1), h3⟩

/-- own(p): bytes of its own. -/
theorem NewPkt.bytes {w w' : World} {v : Value} {q : Pkt} (h : NewPkt w w' v q) (hq : q.data.length ≤ maxLen) : ∃ dv, v = .agg #[.int .i64 q.src, .int .i64 q.dst, dv] ∧ BytesV (fun k => w.heap.size ≤ k) w' dv q.data := by
  obtain ⟨d, rfl, hd, hw⟩ := h
  exact ⟨_, rfl, (BytesV.of_block (l := q.data) (c := q.data.length) hd (fun j x hx => by simp [hx]) (Nat.le_refl _) hq).mono (fun k _ hk => hk ▸ hw)⟩
end Go.Proofs.YtaelbgjcoakdlaaGreat.Bg7

