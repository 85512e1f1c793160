/- THE WALKS of package bag and of subletref07.  THE WALKS of package bag's methods over the bag in memory. -/
import Derived.Test.YtaelbgjcoakdlaaGreatAppendBytesM
import Derived.WalkSpells
import Derived.WalkLawsBesides
import Derived.Outline
import Derived.OwnWalk
import Derived.Laws.CopyOwn
import Derived.Deep.RegionHeld3
import Derived.BigQuiet
import Derived.Deep.DeepCutAuto
import Derived.Deep.DeepMust
namespace Go.Proofs.YtaelbgjcoakdlaaGreat.Bg7
open Go.RowKit

/-- A packet. -/
structure Pkt where
  src : Int
  dst : Int
  data : List UInt8

theorem Tryz.info8 : (Tryz.prog.info? 5).map (fun i => (i.zero, i.size, i.bytes)) = some (some (.int .u8 0), 1, 1) := by kernel_rfl

theorem Tryz.size8 : (Tryz.prog.info? 5).map (·.size) = some 1 := by kernel_rfl

set_option maxRecDepth 100000 in
set_option maxHeartbeats 400000 in
theorem twin_any (G : Nat → Prop) (f t : Int) (dv : Value) (l : List UInt8) (w : World) (hd : BytesV G w dv l) (hl : l.length ≤ 140737488355328) :
    Calls Tryz.prog 30 #[.agg #[.int .i64 f, .int .i64 t, dv]] w fun e w' =>
      e = .returned (.agg #[.int .i64 f, .int .i64 t, .slice (some ⟨w.heap.size + 2, 0, none⟩) l.length l.length]) ∧ w'.heap[w.heap.size + 2]? = some (.cells (l.map B8).toArray 5 (0, 0)) ∧ Below w.heap.size w w' := by
  obtain ⟨i0, hi, hz0, hz1, hz2⟩ := info_parts Tryz.info8
  obtain ⟨a, c, rfl, h2, h3, h4, h5⟩ := hd
  have hmk := fun W => run_make_rowN (P := Tryz.prog) 39 5 i0 (.int .u8 0) Tryz.underlying39 hi hz0 .i64 .i64 l.length l.length (Nat.le_refl _) (by rw [hz2]; omega) (by omega) W
  have hz3 : l.length * i0.size = l.length := by rw [hz1, Nat.mul_one]
  simp only [hz3, Value.cells, madeCells_one] at hmk
  clear h4 hi hz0 hz1 hz2 hz3
  have H5 := Lib.hid h5
  clear h5
  obtain ⟨cs, hcs⟩ : ∃ cs, cs = l.map B8 := ⟨_, rfl⟩
  have hlen : cs.length = l.length := by rw [hcs, List.length_map]
  obtain ⟨zs, hzs⟩ : ∃ zs, zs = List.replicate l.length (Value.int IntKind.u8 0) := ⟨_, rfl⟩
  have hzl : zs.length = l.length := by rw [hzs, List.length_replicate]
  rw [← hzs] at hmk
  have HC := Lib.hid hcs
  have HL := Lib.hid hlen
  have HZ := Lib.hid hzl
  clear hcs hlen hzs hzl
  go_enter Tryz.func30, Tryz.ntmps30
  go_wp2_with (with_reducible refine wpList_copy_splice rfl (.tmp 8) (.tmp 10) 39 39 rfl 5 Tryz.underlying39 Tryz.size8 _ _ _ _ _ _ rfl rfl (w.heap.size + 1 + 1) 0 zs 5 ?c1 cs ?c2 ?c3 ?c4 ?c5 (w.heap.size + 1 + 1) _ (Below.refl _ _) (Nat.le_refl _) ?_; rotate_right; intro w2 HG2 hB2; obtain ⟨a0, a1, a2, b0, b1, b2⟩ := blk3 ((hB2.block w.heap.size (by omega)).trans (blk_alloc (blk_alloc (heap_at w _ _ rfl) _) _)); obtain ⟨d0, d1, d2, e0, e1, e2⟩ := blk3 ((hB2.block (w.heap.size + 1) (by omega)).trans (blk_alloc (heap_at (w.alloc _) _ _ (by simp)) _)))
  case c1 => exact heap_at _ _ _ (by simp)
  case c2 => rw [HL.out]; simp
  case c3 =>
    intro hp
    obtain ⟨b, o, rfl, hb, hG, hc⟩ := H5.out (by rw [← HL.out]; exact hp)
    try refine And.intro rfl ?_
    refine ⟨_, rfl, fun j v hj => ?_⟩
    rw [Addr.add_mid]
    have hj' : j < l.length := by
      have := (List.getElem?_eq_some_iff.1 hj).1
      rw [HL.out] at this; exact this
    have hx : v = B8 l[j] := by
      rw [HC.out] at hj
      simp [hj'] at hj
      exact hj.symm
    rw [hx, ← hc j l[j] (List.getElem?_eq_getElem hj')]
    exact (Below.cell (B := w.heap.size) (((((Below.refl _ _).alloc (Nat.le_refl _) _).alloc (by simp) _).alloc (by simp; omega) _)) (p := ⟨b, o + j, none⟩) hb)
  case c4 => rw [HL.out, HZ.out]; omega
  case c5 =>
    intro v hv
    rw [HC.out] at hv
    obtain ⟨x, _, rfl⟩ := List.mem_map.1 hv
    rfl
  have HG3 : w2.heap[w.heap.size + 1 + 1]? = some (.cells (l.map B8).toArray 5 (0, 0)) := by
    rw [HG2.out]
    have : splice zs 0 cs = l.map B8 := by
      unfold splice
      rw [Nat.zero_add, List.take_zero, List.nil_append, HL.out, List.drop_of_length_le (by rw [HZ.out]; omega), List.append_nil, HC.out]
    rw [this]
  refine bodyPost_ret (v := .agg #[.int .i64 f, .int .i64 t, .slice (some ⟨w.heap.size + 1 + 1, 0, none⟩) l.length l.length]) (by simp [results, Tryz.results30, go_sem, d0, d1, d2]) rfl ⟨rfl, ?_, ?_⟩
  · exact blk_far (blk_far (blk_far (blk_far HG3 (by simp <;> omega) _) (by simp <;> omega) _) (by simp <;> omega) _) (by simp <;> omega) _
  · have hb : Below w.heap.size w w2 := (((((Below.refl _ _).alloc (Nat.le_refl _) _).alloc (by simp) _).alloc (by simp; omega) _)).trans (hB2.mono (by omega))
    exact (((hb.setCell (by simp) _).setCell (by simp) _).setCell (by simp) _).setCell (by simp) _

/-! ### The bag in memory -/
/-- The three cells of a packet whose bytes are the slice v. -/
def pktCells (p : Pkt) (v : Value) : List Value := [.int .i64 p.src, .int .i64 p.dst, v]
/-- The cells cs are those of the packets l, their bytes in blocks of G. -/
inductive PktsC (G : Nat → Prop) (w : World) : List Value → List Pkt → Prop
  | nil : PktsC G w [] []
  | cons {p : Pkt} {v : Value} {cs : List Value} {l : List Pkt} : BytesV G w v p.data → PktsC G w cs l → PktsC G w (pktCells p v ++ cs) (p :: l)

theorem PktsC.keep {G : Nat → Prop} {w w' : World} (hk : ∀ k, k < w.heap.size → G k → w'.heap[k]? = w.heap[k]?) (hs : w.heap.size ≤ w'.heap.size) {cs : List Value} {l : List Pkt} (h : PktsC G w cs l) : PktsC G w' cs l := by
  induction h with
  | nil => exact .nil
  | cons h1 _ ih => exact .cons (h1.keep hk hs) ih
theorem PktsC.mono {G G' : Nat → Prop} {w : World} (hG : ∀ k, k < w.heap.size → G k → G' k) {cs : List Value} {l : List Pkt} (h : PktsC G w cs l) : PktsC G' w cs l := by
  induction h with
  | nil => exact .nil
  | cons h1 _ ih => exact .cons (h1.mono hG) ih
theorem PktsC.length {G : Nat → Prop} {w : World} {cs : List Value} {l : List Pkt} (h : PktsC G w cs l) : cs.length = l.length * 3 := by
  induction h with
  | nil => rfl
  | cons _ _ ih => simp [pktCells, ih, Nat.add_mul]
theorem PktsC.append {G : Nat → Prop} {w : World} {cs ds : List Value} {l m : List Pkt} (h : PktsC G w cs l) (h' : PktsC G w ds m) : PktsC G w (cs ++ ds) (l ++ m) := by
  induction h with
  | nil => exact h'
  | cons h1 _ ih => rw [List.append_assoc]; exact .cons h1 ih
/-- The i-th packet: its three cells, its bytes. -/
theorem PktsC.at_ {G : Nat → Prop} {w : World} {cs : List Value} {l : List Pkt} (h : PktsC G w cs l) : ∀ (i : Nat) (p : Pkt), l[i]? = some p →
    ∃ v, BytesV G w v p.data ∧ cs[i * 3]? = some (.int .i64 p.src) ∧ cs[i * 3 + 1]? = some (.int .i64 p.dst) ∧ cs[i * 3 + 2]? = some v := by
  induction h with
  | nil => intro i p hp; simp at hp
  | @cons q v cs l h1 _ ih =>
    intro i p hp
    cases i with
    | zero =>
      obtain rfl : q = p := by simpa using hp
      exact ⟨v, h1, rfl, rfl, rfl⟩
    | succ i =>
      obtain ⟨v', b1, b2, b3, b4⟩ := ih i p (by simpa using hp)
      refine ⟨v', b1, ?_, ?_, ?_⟩
      · rw [show (i + 1) * 3 = i * 3 + 3 from by omega, List.getElem?_append_right (by simp [pktCells])]; simpa [pktCells] using b2
      · rw [show (i + 1) * 3 + 1 = i * 3 + 1 + 3 from by omega, List.getElem?_append_right (by simp [pktCells])]; simpa [pktCells] using b3
      · rw [show (i + 1) * 3 + 2 = i * 3 + 2 + 3 from by omega, List.getElem?_append_right (by simp [pktCells])]; simpa [pktCells] using b4
theorem PktsC.take_drop {G : Nat → Prop} {w : World} {cs : List Value} {l : List Pkt} (h : PktsC G w cs l) : ∀ i : Nat, PktsC G w (cs.take (i * 3)) (l.take i) ∧ PktsC G w (cs.drop (i * 3)) (l.drop i) := by
  induction h with
  | nil => intro i; simp; exact .nil
  | @cons q v cs l h1 h2 ih =>
    intro i
    cases i with
    | zero => simp; exact ⟨.nil, .cons h1 h2⟩
    | succ i =>
      obtain ⟨a, b⟩ := ih i
      have e1 : (pktCells q v ++ cs).take ((i + 1) * 3) = pktCells q v ++ cs.take (i * 3) := by
        rw [show (i + 1) * 3 = i * 3 + 3 from by omega]; simp [pktCells]
      have e2 : (pktCells q v ++ cs).drop ((i + 1) * 3) = cs.drop (i * 3) := by
        rw [show (i + 1) * 3 = i * 3 + 3 from by omega]; simp [pktCells]
      rw [e1, e2]
      exact ⟨.cons h1 a, b⟩
theorem oneCell_pkts {G : Nat → Prop} {w : World} {cs : List Value} {l : List Pkt} (h : PktsC G w cs l) : ∀ u ∈ cs, u.oneCell' = true := by
  induction h with
  | nil => intro u hu; cases hu
  | @cons q v cs l h1 _ ih =>
    intro u hu
    rcases List.mem_append.1 hu with hu | hu
    · obtain ⟨a, c, rfl, _⟩ := h1
      simp [pktCells] at hu
      rcases hu with rfl | rfl | rfl <;> rfl
    · exact ih u hu

/-- A bag's data: what is under way, the counts. -/
structure Bg where
  l : List Pkt
  sent : Nat
  lost : Nat

/-- The bag b lies at block p; its own blocks are of G. -/
structure BagAt (G : Nat → Prop) (w : World) (p : Nat) (b : Bg) : Prop where
  small : b.l.length ≤ 48
  low : b.lost < 4611686018427387904
  lows : b.sent < 4611686018427387904
  data : ∀ q ∈ b.l, q.data.length ≤ 200
  head : G p ∧ p < w.heap.size
  row : ∃ (sv : Value) (cs : List Value), w.heap[p]? = some (.cells #[sv, .int .i64 b.sent, .int .i64 b.lost] 71 (0, 0)) ∧ w.ownsRow 0 41 3 sv b.l.length cs ∧ (∀ g, sv.ownBlock = some g → G g) ∧ PktsC (fun k => G k ∧ k ≠ p ∧ sv.ownBlock ≠ some k) w cs b.l

theorem ownsRow_keep {w w' : World} {base : Nat} {e : TypeId} {size : Nat} {v : Value} {n : Nat} {xs : List Value} (h : w.ownsRow base e size v n xs) (hk : ∀ g, v.ownBlock = some g → w'.heap[g]? = w.heap[g]?) : w'.ownsRow base e size v n xs := by
  obtain ⟨h1, h2⟩ := h
  refine ⟨h1, ?_⟩
  rcases h2 with h2 | ⟨g, cap, cur, hv, hb, hh, r⟩
  · exact Or.inl h2
  · exact Or.inr ⟨g, cap, cur, hv, hb, (hk g (by rw [hv]; rfl)).trans hh, r⟩

theorem BagAt.keep {G : Nat → Prop} {w w' : World} {p : Nat} {b : Bg} (h : BagAt G w p b) (hk : ∀ k, k < w.heap.size → G k → w'.heap[k]? = w.heap[k]?) (hs : w.heap.size ≤ w'.heap.size) : BagAt G w' p b := by
  obtain ⟨h1, h2, h2', h2'', h3, sv, cs, h4, h5, h6, h7⟩ := h
  exact ⟨h1, h2, h2', h2'', ⟨h3.1, Nat.lt_of_lt_of_le h3.2 hs⟩, sv, cs, (hk p h3.2 h3.1).trans h4, ownsRow_keep h5 (fun g hg => hk g (h5.lt g hg).2 (h6 g hg)), h6, h7.keep (fun k hlt hG => hk k hlt hG.1) hs⟩
theorem BagAt.mod {F G : Nat → Prop} {w w' : World} {p : Nat} {b : Bg} (h : BagAt G w p b) (hm : Mod F w w') (hd : ∀ k, k < w.heap.size → G k → ¬ F k) : BagAt G w' p b :=
  h.keep (fun k hk hG => hm.block k hk (hd k hk hG)) hm.size
theorem BagAt.below {G : Nat → Prop} {w w' : World} {p : Nat} {b : Bg} (h : BagAt G w p b) (hm : Below w.heap.size w w') : BagAt G w' p b := h.keep (fun k hk _ => hm.block k hk) hm.size
end Go.Proofs.YtaelbgjcoakdlaaGreat.Bg7

namespace Go.Proofs.YtaelbgjcoakdlaaGreat.Bg7
open Go.RowKit

theorem ret_int {k : IntKind} {a b : Int} (h : a = b) : Ending.returned (.int k a) = .returned (.int k b) := by rw [h]
theorem ret_bool {a b : Bool} (h : a = b) : Ending.returned (.bool a) = .returned (.bool b) := by rw [h]
theorem below_step {w w1 w2 : World} (h : Below w.heap.size w w1) (h' : Below w1.heap.size w1 w2) : Below w.heap.size w w2 := h.trans (h'.mono h.size)

theorem new_any (w : World) : Calls Tryz.prog 6 #[] w fun e w' => e = .returned (.pointer (some ⟨w.heap.size, 0, none⟩)) ∧ BagAt (fun k => k = w.heap.size) w' w.heap.size ⟨[], 0, 0⟩ ∧ Below w.heap.size w w' := by
  go_enter Tryz.func6, Tryz.ntmps6
  go_wp2_with fail
  go_ret
  refine ⟨rfl, ⟨by simp, by simp, by simp, by simp, ⟨rfl, by simp⟩, .slice none 0 0, [], heap_at w _ _ rfl, World.ownsRow_nil _ _ _ _, by simp [Value.ownBlock], .nil⟩, (Below.refl _ _).alloc (Nat.le_refl _) _⟩

theorem len_any (G : Nat → Prop) (p : Nat) (b : Bg) (w : World) (h : BagAt G w p b) : Calls Tryz.prog 8 #[.pointer (some ⟨p, 0, none⟩)] w fun e w' => e = .returned (.int .i64 b.l.length) ∧ w = w' := by
  obtain ⟨h1, h2, h3, h3', h4, sv, cs, h5, h6, h7, h8⟩ := h
  obtain ⟨a0, a1, a2, b0, b1, b2⟩ := blk3 h5
  have hf : ∃ a c, sv = .slice a b.l.length c := by
    rcases h6.2 with ⟨h, h'⟩ | ⟨g, cap, cur, hv, _⟩
    · exact ⟨none, 0, by rw [h, h']⟩
    · exact ⟨_, _, hv⟩
  obtain ⟨a, c, rfl⟩ := hf
  clear h8 h7 h6 h5 h4 h3' b0 b1 b2
  go_enter Tryz.func8, Tryz.ntmps8
  go_wp2_with fail
  go_ret
  exact ⟨rfl, rfl⟩
theorem look_no (G : Nat → Prop) (p : Nat) (b : Bg) (k : Int) (w : World) (h : BagAt G w p b) (hk : k < 0 ∨ b.l.length ≤ k) :
    Calls Tryz.prog 17 #[.pointer (some ⟨p, 0, none⟩), .int .i64 k] w fun e w' => e = .returned (.tuple #[.agg #[.int .i64 0, .int .i64 0, .slice none 0 0], .bool false]) ∧ Below w.heap.size w w' := by
  rcases (show k < 0 ∨ (0 ≤ k ∧ (b.l.length : Int) ≤ k) from by omega) with hk | ⟨hk, hk'⟩
  · go_enter Tryz.func17, Tryz.ntmps17
    go_wp2_with fail
    refine bodyPost_ret (v := .tuple #[.agg #[.int .i64 0, .int .i64 0, .slice none 0 0], .bool false]) (by simp [results, Tryz.results17, go_sem]) rfl ⟨rfl, ?_⟩
    exact (Below.refl _ _).alloc (Nat.le_refl _) _
  · go_enter Tryz.func17, Tryz.ntmps17
    go_wp2_with fail
    refine (len_any G p b _ (h.below ((Below.refl _ _).alloc (Nat.le_refl _) _))).mono ?_
    rintro e w1 ⟨rfl, rfl⟩
    go_wp2_with fail
    refine bodyPost_ret (v := .tuple #[.agg #[.int .i64 0, .int .i64 0, .slice none 0 0], .bool false]) (by simp [results, Tryz.results17, go_sem]) rfl ⟨rfl, ?_⟩
    exact (Below.refl _ _).alloc (Nat.le_refl _) _

/-- v is the packet p, its bytes in a block of its own that is new. -/
def NewPkt (w w' : World) (v : Value) (p : Pkt) : Prop :=
  ∃ d, v = .agg #[.int .i64 p.src, .int .i64 p.dst, .slice (some ⟨d, 0, none⟩) p.data.length p.data.length] ∧ w'.heap[d]? = some (.cells (p.data.map B8).toArray 5 (0, 0)) ∧ w.heap.size ≤ d
def LookYes (w : World) (p : Pkt) (e : Ending) (w' : World) : Prop := ∃ v, e = .returned (.tuple #[v, .bool true]) ∧ NewPkt w w' v p ∧ Below w.heap.size w w'

/-- The row of a bag that is not empty. -/
theorem row_cells {w : World} {sv : Value} {n : Nat} {cs : List Value} {i : Nat} (h : w.ownsRow 0 41 3 sv n cs) (hi : i < n) :
    ∃ g cap, sv = .slice (some ⟨g, 0, none⟩) n cap ∧ n ≤ cap ∧ cap ≤ maxLen ∧ g < w.heap.size ∧ w.cell? ⟨g, i * 3, none⟩ = cs[i * 3]? ∧ w.cell? ⟨g, i * 3 + 1, none⟩ = cs[i * 3 + 1]? ∧ w.cell? ⟨g, i * 3 + 2, none⟩ = cs[i * 3 + 2]? := by
  have hl := h.lt
  rcases id h.2 with ⟨_, h'⟩ | ⟨g, cap, cur, rfl, _, hh, hc, hm, _⟩
  · omega
  · exact ⟨g, cap, rfl, hc, hm, (hl g rfl).2, h.cellAt (i * 3) (by omega), h.cellAt (i * 3 + 1) (by omega), h.cellAt (i * 3 + 2) (by omega)⟩

set_option maxRecDepth 100000 in
set_option maxHeartbeats 1000000 in
theorem look_yes (G : Nat → Prop) (p : Nat) (b : Bg) (i : Nat) (q : Pkt) (w : World) (h : BagAt G w p b) (hq : b.l[i]? = some q) :
    Calls Tryz.prog 17 #[.pointer (some ⟨p, 0, none⟩), .int .i64 i] w (LookYes w q) := by
  have hi : i < b.l.length := (List.getElem?_eq_some_iff.1 hq).1
  have hq200 := h.data q (List.mem_of_getElem? hq)
  have hsm := h.small
  have hx := h.below ((Below.refl _ _).alloc (Nat.le_refl _) (.cells #[.int .i64 0, .int .i64 0, .slice none 0 0] 41))
  obtain ⟨_, _, _, _, _, sv, cs, h5, h6, h7, h8⟩ := id hx
  obtain ⟨a0, a1, a2, b0, b1, b2⟩ := blk3 h5
  obtain ⟨g, cap, rfl, hc, hm, hg, k0, k1, k2⟩ := row_cells h6 hi
  obtain ⟨v, v1, v2, v3, v4⟩ := h8.at_ i q hq
  have c0 := k0.trans v2
  have c1 := k1.trans v3
  have c2 := k2.trans v4
  have hlt : (i : Int) < (b.l.length : Int) := by omega
  have hge : (0 : Int) ≤ (i : Int) := by omega
  have HX := Lib.hid hx
  have V1 := Lib.hid v1
  clear hx h h5 h6 h7 h8 k0 k1 k2 v1 v2 v3 v4 b0 b1 b2 hq hg
  go_enter Tryz.func17, Tryz.ntmps17
  go_wp2_with fail
  refine (len_any G p b _ HX.out).mono ?_
  rintro e w1 ⟨rfl, rfl⟩
  go_wp2_with fail
  refine (twin_any _ _ _ _ q.data _ V1.out (by omega)).mono ?_
  rintro e w1 ⟨rfl, hh, hb⟩
  obtain ⟨d0, d1, d2, e0, e1, e2⟩ := blk3 ((hb.block w.heap.size (by simp)).trans (heap_at w _ _ rfl))
  go_wp2_with fail
  refine bodyPost_ret (v := .tuple #[.agg #[.int .i64 q.src, .int .i64 q.dst, .slice (some ⟨w.heap.size + 1 + 2, 0, none⟩) q.data.length q.data.length], .bool true]) (by simp [results, Tryz.results17, go_sem, d0, d1, d2]) rfl ⟨_, rfl, ⟨_, rfl, ?_, ?_⟩, ?_⟩
  · exact blk_far (blk_far (blk_far (by simpa using hh) (by simp <;> omega) _) (by simp <;> omega) _) (by simp <;> omega) _
  · omega
  · exact (((((Below.refl _ _).alloc (Nat.le_refl _) _).trans (hb.mono (by simp))).setCell (by simp) _).setCell (by simp) _).setCell (by simp) _
end Go.Proofs.YtaelbgjcoakdlaaGreat.Bg7

