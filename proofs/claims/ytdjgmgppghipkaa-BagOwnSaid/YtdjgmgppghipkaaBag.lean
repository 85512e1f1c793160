/- THE WALKS of package bag and of subletref07. -/
import Derived.Test.YtdjgmgppghipkaaMem
import Derived.WalkSpells
import Derived.WalkLawsBesides
import Derived.Outline
import Derived.OwnWalk
import Derived.Laws.CopyOwn
import Derived.Deep.RegionHeld3
import Derived.BigQuiet
import Derived.Deep.DeepCutAuto
import Derived.Deep.DeepMust
namespace Go.Proofs.Ytdjgmgppghipkaa
open Go.RowKit

/-- A packet. -/
structure Pkt where
  src : Int
  dst : Int
  data : List UInt8

theorem Try.info8 : (Try.prog.info? 5).map (fun i => (i.zero, i.size, i.bytes)) = some (some (.int .u8 0), 1, 1) := by kernel_rfl

theorem Try.size8 : (Try.prog.info? 5).map (·.size) = some 1 := by kernel_rfl

set_option maxHeartbeats 400000 in
theorem twin_any (G : Nat → Prop) (f t : Int) (dv : Value) (l : List UInt8) (w : World) (hd : BytesV G w dv l) (hl : l.length ≤ 140737488355328) :
    Calls Try.prog 28 #[.agg #[.int .i64 f, .int .i64 t, dv]] w fun e w' =>
      e = .returned (.agg #[.int .i64 f, .int .i64 t, .slice (some ⟨w.heap.size + 2, 0, none⟩) l.length l.length]) ∧ w'.heap[w.heap.size + 2]? = some (.cells (l.map B8).toArray 5 (0, 0)) ∧ Below w.heap.size w w' := by
  obtain ⟨i0, hi, hz0, hz1, hz2⟩ := info_parts Try.info8
  obtain ⟨a, c, rfl, h2, h3, h4, h5⟩ := hd
  have hmk := fun W => run_make_rowN (P := Try.prog) 28 5 i0 (.int .u8 0) Try.underlying28 hi hz0 .i64 .i64 l.length l.length (Nat.le_refl _) (by rw [hz2]; omega) (by omega) W
  have hz3 : l.length * i0.size = l.length := by rw [hz1, Nat.mul_one]
  simp only [hz3, Value.cells, madeCells_one] at hmk
  clear h4 hi hz0 hz1 hz2 hz3
  have H5 := Lib.hid h5
  clear h5
  obtain ⟨cs, hcs⟩ : ∃ cs, cs = l.map B8 := ⟨_, rfl⟩
  have hlen : cs.length = l.length := by rw [hcs, List.length_map]
  obtain ⟨zs, hzs⟩ : ∃ zs, zs = List.replicate l.length (Value.int IntKind.u8 0) := ⟨_, rfl⟩
  have hzl : zs.length = l.length := by rw [hzs, List.length_replicate]
  rw [← hzs] at hmk
  have HC := Lib.hid hcs
  have HL := Lib.hid hlen
  have HZ := Lib.hid hzl
  clear hcs hlen hzs hzl
  go_enter Try.func28, Try.ntmps28
  go_wp2_with (with_reducible refine wpList_copy_splice rfl (.tmp 8) (.tmp 10) 28 28 rfl 5 Try.underlying28 Try.size8 _ _ _ _ _ _ rfl rfl (w.heap.size + 1 + 1) 0 zs 5 ?c1 cs ?c2 ?c3 ?c4 ?c5 (w.heap.size + 1 + 1) _ (Below.refl _ _) (Nat.le_refl _) ?_; rotate_right; intro w2 HG2 hB2; obtain ⟨a0, a1, a2, b0, b1, b2⟩ := blk3 ((hB2.block w.heap.size (by omega)).trans (blk_alloc (blk_alloc (heap_at w _ _ rfl) _) _)); obtain ⟨d0, d1, d2, e0, e1, e2⟩ := blk3 ((hB2.block (w.heap.size + 1) (by omega)).trans (blk_alloc (heap_at (w.alloc _) _ _ (by simp)) _)))
  case c1 => exact heap_at _ _ _ (by simp)
  case c2 => rw [HL.out]; simp
  case c3 =>
    intro hp
    obtain ⟨b, o, rfl, hb, hG, hc⟩ := H5.out (by rw [← HL.out]; exact hp)
    try refine And.intro rfl ?_
    refine ⟨_, rfl, fun j v hj => ?_⟩
    rw [Addr.add_mid]
    have hj' : j < l.length := by
      have := (List.getElem?_eq_some_iff.1 hj).1
      rw [HL.out] at this; exact this
    have hx : v = B8 l[j] := by
      rw [HC.out] at hj
      simp [hj'] at hj
      exact hj.symm
    rw [hx, ← hc j l[j] (List.getElem?_eq_getElem hj')]
    exact (Below.cell (B := w.heap.size) (((((Below.refl _ _).alloc (Nat.le_refl _) _).alloc (by simp) _).alloc (by simp; omega) _)) (p := ⟨b, o + j, none⟩) hb)
  case c4 => rw [HL.out, HZ.out]; omega
  case c5 =>
    intro v hv
    rw [HC.out] at hv
    obtain ⟨x, _, rfl⟩ := List.mem_map.1 hv
    rfl
  have HG3 : w2.heap[w.heap.size + 1 + 1]? = some (.cells (l.map B8).toArray 5 (0, 0)) := by
    rw [HG2.out]
    have : splice zs 0 cs = l.map B8 := by
      unfold splice
      rw [Nat.zero_add, List.take_zero, List.nil_append, HL.out, List.drop_of_length_le (by rw [HZ.out]; omega), List.append_nil, HC.out]
    rw [this]
  refine bodyPost_ret (v := .agg #[.int .i64 f, .int .i64 t, .slice (some ⟨w.heap.size + 1 + 1, 0, none⟩) l.length l.length]) (by simp [results, Try.results28, go_sem, d0, d1, d2]) rfl ⟨rfl, ?_, ?_⟩
  · exact blk_far (blk_far (blk_far (blk_far HG3 (by simp <;> omega) _) (by simp <;> omega) _) (by simp <;> omega) _) (by simp <;> omega) _
  · have hb : Below w.heap.size w w2 := (((((Below.refl _ _).alloc (Nat.le_refl _) _).alloc (by simp) _).alloc (by simp; omega) _)).trans (hB2.mono (by omega))
    exact (((hb.setCell (by simp) _).setCell (by simp) _).setCell (by simp) _).setCell (by simp) _

/-! ### The bag in memory -/
/-- The three cells of a packet whose bytes are the slice v. -/
def pktCells (p : Pkt) (v : Value) : List Value := [.int .i64 p.src, .int .i64 p.dst, v]
/-- The cells cs are those of the packets l, their bytes in blocks of G. -/
inductive PktsC (G : Nat → Prop) (w : World) : List Value → List Pkt → Prop
  | nil : PktsC G w [] []
  | cons {p : Pkt} {v : Value} {cs : List Value} {l : List Pkt} : BytesV G w v p.data → PktsC G w cs l → PktsC G w (pktCells p v ++ cs) (p :: l)

theorem PktsC.keep {G : Nat → Prop} {w w' : World} (hk : ∀ k, k < w.heap.size → G k → w'.heap[k]? = w.heap[k]?) (hs : w.heap.size ≤ w'.heap.size) {cs : List Value} {l : List Pkt} (h : PktsC G w cs l) : PktsC G w' cs l := by
  induction h with
  | nil => exact .nil
  | cons h1 _ ih => exact .cons (h1.keep hk hs) ih
theorem PktsC.mono {G G' : Nat → Prop} {w : World} (hG : ∀ k, k < w.heap.size → G k → G' k) {cs : List Value} {l : List Pkt} (h : PktsC G w cs l) : PktsC G' w cs l := by
  induction h with
  | nil => exact .nil
  | cons h1 _ ih => exact .cons (h1.mono hG) ih
theorem PktsC.length {G : Nat → Prop} {w : World} {cs : List Value} {l : List Pkt} (h : PktsC G w cs l) : cs.length = l.length * 3 := by
  induction h with
  | nil => rfl
  | cons _ _ ih => simp [pktCells, ih, Nat.add_mul]
theorem PktsC.append {G : Nat → Prop} {w : World} {cs ds : List Value} {l m : List Pkt} (h : PktsC G w cs l) (h' : PktsC G w ds m) : PktsC G w (cs ++ ds) (l ++ m) := by
  induction h with
  | nil => exact h'
  | cons h1 _ ih => rw [List.append_assoc]; exact .cons h1 ih
/-- The i-th packet: its three cells, its bytes. -/
theorem PktsC.at_ {G : Nat → Prop} {w : World} {cs : List Value} {l : List Pkt} (h : PktsC G w cs l) : ∀ (i : Nat) (p : Pkt), l[i]? = some p →
    ∃ v, BytesV G w v p.data ∧ cs[i * 3]? = some (.int .i64 p.src) ∧ cs[i * 3 + 1]? = some (.int .i64 p.dst) ∧ cs[i * 3 + 2]? = some v := by
  induction h with
  | nil => intro i p hp; simp at hp
  | @cons q v cs l h1 _ ih =>
    intro i p hp
    cases i with
    | zero =>
      obtain rfl : q = p := by simpa using hp
      exact ⟨v, h1, rfl, rfl, rfl⟩
    | succ i =>
      obtain ⟨v', b1, b2, b3, b4⟩ := ih i p (by simpa using hp)
      refine ⟨v', b1, ?_, ?_, ?_⟩
      · rw [show (i + 1) * 3 = i * 3 + 3 from by omega, List.getElem?_append_right (by simp [pktCells])]; simpa [pktCells] using b2
      · rw [show (i + 1) * 3 + 1 = i * 3 + 1 + 3 from by omega, List.getElem?_append_right (by simp [pktCells])]; simpa [pktCells] using b3
      · rw [show (i + 1) * 3 + 2 = i * 3 + 2 + 3 from by omega, List.getElem?_append_right (by simp [pktCells])]; simpa [pktCells] using b4
theorem PktsC.take_drop {G : Nat → Prop} {w : World} {cs : List Value} {l : List Pkt} (h : PktsC G w cs l) : ∀ i : Nat, PktsC G w (cs.take (i * 3)) (l.take i) ∧ PktsC G w (cs.drop (i * 3)) (l.drop i) := by
  induction h with
  | nil => intro i; simp; exact .nil
  | @cons q v cs l h1 h2 ih =>
    intro i
    cases i with
    | zero => simp; exact ⟨.nil, .cons h1 h2⟩
    | succ i =>
      obtain ⟨a, b⟩ := ih i
      have e1 : (pktCells q v ++ cs).take ((i + 1) * 3) = pktCells q v ++ cs.take (i * 3) := by
        rw [show (i + 1) * 3 = i * 3 + 3 from by omega]; simp [pktCells]
      have e2 : (pktCells q v ++ cs).drop ((i + 1) * 3) = cs.drop (i * 3) := by
        rw [show (i + 1) * 3 = i * 3 + 3 from by omega]; simp [pktCells]
      rw [e1, e2]
      exact ⟨.cons h1 a, b⟩
theorem oneCell_pkts {G : Nat → Prop} {w : World} {cs : List Value} {l : List Pkt} (h : PktsC G w cs l) : ∀ u ∈ cs, u.oneCell' = true := by
  induction h with
  | nil => intro u hu; cases hu
  | @cons q v cs l h1 _ ih =>
    intro u hu
    rcases List.mem_append.1 hu with hu | hu
    · obtain ⟨a, c, rfl, _⟩ := h1
      simp [pktCells] at hu
      rcases hu with rfl | rfl | rfl <;> rfl
    · exact ih u hu

/-- A bag's data: what is under way, the counts. -/
structure Bg where
  l : List Pkt
  sent : Nat
  lost : Nat

/-- The bag b lies at block p; its own blocks are of G. -/
structure BagAt (G : Nat → Prop) (w : World) (p : Nat) (b : Bg) : Prop where
  small : b.l.length ≤ 48
  low : b.lost < 4611686018427387904
  lows : b.sent < 4611686018427387904
  data : ∀ q ∈ b.l, q.data.length ≤ 200
  head : G p ∧ p < w.heap.size
  row : ∃ (sv : Value) (cs : List Value), w.heap[p]? = some (.cells #[sv, .int .i64 b.sent, .int .i64 b.lost] 59 (0, 0)) ∧ w.ownsRow 0 30 3 sv b.l.length cs ∧ (∀ g, sv.ownBlock = some g → G g) ∧ PktsC (fun k => G k ∧ k ≠ p ∧ sv.ownBlock ≠ some k) w cs b.l

theorem ownsRow_keep {w w' : World} {base : Nat} {e : TypeId} {size : Nat} {v : Value} {n : Nat} {xs : List Value} (h : w.ownsRow base e size v n xs) (hk : ∀ g, v.ownBlock = some g → w'.heap[g]? = w.heap[g]?) : w'.ownsRow base e size v n xs := by
  obtain ⟨h1, h2⟩ := h
  refine ⟨h1, ?_⟩
  rcases h2 with h2 | ⟨g, cap, cur, hv, hb, hh, r⟩
  · exact Or.inl h2
  · exact Or.inr ⟨g, cap, cur, hv, hb, (hk g (by rw [hv]; rfl)).trans hh, r⟩

theorem BagAt.keep {G : Nat → Prop} {w w' : World} {p : Nat} {b : Bg} (h : BagAt G w p b) (hk : ∀ k, k < w.heap.size → G k → w'.heap[k]? = w.heap[k]?) (hs : w.heap.size ≤ w'.heap.size) : BagAt G w' p b := by
  obtain ⟨h1, h2, h2', h2'', h3, sv, cs, h4, h5, h6, h7⟩ := h
  exact ⟨h1, h2, h2', h2'', ⟨h3.1, Nat.lt_of_lt_of_le h3.2 hs⟩, sv, cs, (hk p h3.2 h3.1).trans h4, ownsRow_keep h5 (fun g hg => hk g (h5.lt g hg).2 (h6 g hg)), h6, h7.keep (fun k hlt hG => hk k hlt hG.1) hs⟩
theorem BagAt.mod {F G : Nat → Prop} {w w' : World} {p : Nat} {b : Bg} (h : BagAt G w p b) (hm : Mod F w w') (hd : ∀ k, k < w.heap.size → G k → ¬ F k) : BagAt G w' p b :=
  h.keep (fun k hk hG => hm.block k hk (hd k hk hG)) hm.size
theorem BagAt.below {G : Nat → Prop} {w w' : World} {p : Nat} {b : Bg} (h : BagAt G w p b) (hm : Below w.heap.size w w') : BagAt G w' p b := h.keep (fun k hk _ => hm.block k hk) hm.size
end Go.Proofs.Ytdjgmgppghipkaa
