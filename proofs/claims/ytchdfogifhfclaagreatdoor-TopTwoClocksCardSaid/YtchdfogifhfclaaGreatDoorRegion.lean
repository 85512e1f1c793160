/- The ledger's region: an area's sectors. -/
import Derived.Test.YtchdfogifhfclaaGreatDoorDisk
import Derived.Test.YtchdfogifhfclaaGreatDoorLook
import Derived.Maps.AppendAt
import Derived.OwnWalk
namespace Go.Proofs.YtchdfogifhfclaaGreatDoor
open Go.RowKit

/-- append(v, news...): v a row of its own. -/
theorem wpList_append_rows {P : Program} {w : World} {ops : Array Oper} {rest : List Oper} {o : Oper} {a : Act} {Q : Exit → Act → World → Prop} (hgd : o.guard = none) (s x : Operand) (t : TypeId)
    (ho : o.op = .call { callee := .builtin .append, args := #[s, x], argTypes := #[t, t] })
    (base : Nat) (e : TypeId) (i : TypeInfo) (z : Value) (size bytes : Nat) (ht : P.underlying t = some (.slice e)) (hi : P.info? e = some i) (hz : i.zero = some z) (h1 : i.size = size) (h2 : i.bytes = bytes) (hzs : z.cells.size = size) (hsz : 0 < size)
    (v : Value) (n : Nat) (xs : List Value) (hs : a.eval s = v) (hown : w.ownsRow base e size v n xs) (ad : Addr) (m c : Nat) (news : List Value) (hx : a.eval x = .slice (some ad) m c) (hl : news.length = m * size) (hnews : ∀ j u, news[j]? = some u → w.cell? (ad.add j) = some u) (hone : ∀ u ∈ news, u.oneCell' = true)
    (h63 : n + m ≤ maxLen) (hbytes : (n + m) * bytes ≤ 140737488355328) (hbase : base ≤ w.heap.size)
    (h : ∀ v' w', w'.ownsRow base e size v' (n + m) (xs ++ news) → w.grownBy w' v.ownBlock → (v'.ownBlock = v.ownBlock ∨ v'.ownBlock = some w.heap.size) → wpList P ops Q rest (a.put o.dst v') w') : wpList P ops Q (o :: rest) a w := by
  refine wpList_plain hgd fun K hK => ?_
  obtain ⟨v', w', hrun, a1, a2, _, a3⟩ := run_append_own_at (P := P) w base t o.type e i z size bytes ht hi hz h1 h2 hzs hsz v n xs hown ad m c news hl hnews hone h63 hbytes hbase
  unfold Oper.wp execOp
  simp only [ho, resolve, invoke, builtin, Sem.run_bind, Sem.run_pure, Result.andThen_ok, List.map_toArray, List.map_cons, List.map_nil, hs, hx, hrun]
  exact hK _ _ (h v' w' a1 a2 a3)
theorem Tryz.infoB : (Tryz.prog.info? 126).map (fun i => (i.zero, i.size, i.bytes)) = some (some (.slice none 0 0), 1, 24) := by kernel_rfl
theorem own_lt {w : World} {base : Nat} {e : TypeId} {size n : Nat} {v : Value} {xs : List Value} (h : w.ownsRow base e size v n xs) {g : Nat} (hg : v.ownBlock = some g) : g < w.heap.size := by
  rcases h.2 with ⟨rfl, _⟩ | ⟨g', cap, cur, rfl, _, hh, _⟩
  · cases hg
  · injection hg with hg
    subst hg
    exact lt_of_heap hh
theorem own_ge {w : World} {base : Nat} {e : TypeId} {size n : Nat} {v : Value} {xs : List Value} (h : w.ownsRow base e size v n xs) {g : Nat} (hg : v.ownBlock = some g) : base ≤ g := by
  rcases h.2 with ⟨rfl, _⟩ | ⟨g', cap, cur, rfl, hb, hh, _⟩
  · cases hg
  · injection hg with hg
    subst hg
    exact hb
theorem below_grown {B : Nat} {w w1 w2 : World} {row : Option Nat} (h : Below B w w1) (hg : w1.grownBy w2 row) (hB : B ≤ w1.heap.size) (hr : ∀ k, row = some k → B ≤ k) : Below B w w2 :=
  ⟨hg.os.trans h.os, hg.tape.trans h.tape, hg.output.trans h.output, Nat.le_trans h.size hg.size, fun k hk => (hg.block k (by omega) (fun e => by have := hr k e.symm; omega)).trans (h.block k hk)⟩
/-- Sectors: n slices, of which the first reads as zeros. -/
structure Side (B : Nat) (w : World) (v : Value) (n : Nat) : Prop where
  row : ∃ xs, w.ownsRow B 126 1 v n xs ∧ (0 < n → ∃ b cs, xs[0]? = some (.slice (some ⟨b, 0, none⟩) 64 64) ∧ w.heap[b]? = some (.cells cs 176 (0, 0)) ∧ ∀ j, j < 64 → cs[j]? = some (.int .u8 0))
theorem Side.keep {B : Nat} {w w' : World} {v : Value} {n : Nat} (h : Side B w v n) (hb : Below w.heap.size w w') : Side B w' v n := by
  obtain ⟨xs, h1, h2⟩ := h.row
  refine ⟨xs, ownsRow_keep h1 (fun g hg => ?_), fun hn => ?_⟩
  · rcases h1.2 with ⟨rfl, _⟩ | ⟨g', cap, cur, rfl, _, hh, _⟩
    · cases hg
    · injection hg with hg
      subst hg
      exact hb.block _ (lt_of_heap hh)
  · obtain ⟨b, cs, e1, e2, e3⟩ := h2 hn
    exact ⟨b, cs, e1, (hb.block _ (lt_of_heap e2)).trans e2, e3⟩
def RegPost (w : World) (e : Ending) (w' : World) : Prop := ∃ v, e = .returned (.tuple #[v, .int .i64 0]) ∧ Side w.heap.size w' v 24 ∧ Below w.heap.size w w'
theorem first_any (w : World) : Calls Tryz.prog 95 #[.int .i64 0] w fun e w' => e = .returned (.int .i64 1) ∧ w = w' := by
  go_enter Tryz.func95, Tryz.ntmps95
  go_wp2_with fail
  go_ret
  exact ⟨rfl, rfl⟩
set_option maxRecDepth 100000 in
set_option maxHeartbeats 1000000 in
theorem region_any (p s : Nat) (f : Nat → Nat → UInt8) (wk : Nat) (w : World) (h : DiskAt w p s 49 f wk) (hz : ∀ j, j < 64 → f 1 j = 0) :
    Calls Tryz.prog 78 #[.func (.func 74) #[.pointer (some ⟨p, 0, none⟩)] #[], .int .i64 0] w (RegPost w) := by
  obtain ⟨i0, hi0, hz0, hz1, hz2⟩ := info_parts Tryz.infoB
  have H := Lib.hid h
  have HZ := Lib.hid hz
  clear h hz
  go_enter Tryz.func78, Tryz.ntmps78
  go_wp2_with fail
  go_loopw [6, 10] (fun sv i wx => ∃ k : Nat, k ≤ 24 ∧ i = .int .i64 k ∧ Side w.heap.size wx sv k ∧ Below w.heap.size w wx) (fun _ i _ => 24 - (intOf i).toNat)
  case atStart => exact ⟨0, by omega, rfl, ⟨[], ⟨rfl, .inl ⟨rfl, rfl⟩⟩, fun h => absurd h (by omega)⟩, Below.refl _ _⟩
  case round =>
    obtain ⟨k, hk, rfl, hS, hB⟩ := hrel
    have HS := Lib.hid hS
    have HB := Lib.hid hB
    clear hS hB
    by_cases hlt : k < 24
    · have k1 : (k : Int) < 24 := by omega
      go_wp2_with fail
      refine (first_any _).mono ?_
      rintro e w1 ⟨rfl, rfl⟩
      go_wp2_with fail
      have HD := Lib.hid (H.out.below HB.out)
      refine (diskRead_any p s 49 f wk (1 + k) _ HD.out (by omega)).mono ?_
      rintro e w2 ⟨rfl, z1, z2⟩
      have HZ1 := Lib.hid z1
      have HZ2 := Lib.hid z2
      clear z1 z2
      obtain ⟨xs, hx1, hx2⟩ := (HS.out.keep (HZ2.out)).row
      have HX1 := Lib.hid hx1
      have HX2 := Lib.hid hx2
      have hsz := HZ2.out.size
      clear hx1 hx2
      go_wp2_with (refine wpList_append_rows rfl (.tmp 25) (.tmp 27) 133 rfl w.heap.size 126 i0 (.slice none 0 0) 1 24 Tryz.underlying133 hi0 hz0 hz1 hz2 rfl (by omega) u6 k xs rfl (ownsRow_keep HX1.out (fun g hg => Below.heap_alloc _ _ _ (own_lt HX1.out hg))) ⟨w2.heap.size, 0, none⟩ 1 1 [.slice (some ⟨wr.heap.size, 0, none⟩) 64 64] rfl rfl (fun j u hu => by
          match j, hu with
          | 0, hu =>
            simp at hu
            subst hu
            exact blk_cell (heap_at _ _ _ rfl) 0) (fun u hu => by simp at hu; subst hu; rfl) (by unfold maxLen; omega) (by omega) (by simp; have := HB.out.size; omega) ?_; intro v3 w3 z3 z4 z5; have HZ3 := Lib.hid z3; have HZ4 := Lib.hid z4; clear z3 z4 z5)
      have hbb := HB.out.size
      have hap : Below w2.heap.size w2 (w2.alloc (Obj.cells #[.slice (some ⟨wr.heap.size, 0, none⟩) 64 64] 126)) := (Below.refl _ w2).alloc (Nat.le_refl _) _
      refine ⟨⟨k + 1, by omega, by push_cast; rfl, ⟨xs ++ [.slice (some ⟨wr.heap.size, 0, none⟩) 64 64], HZ3.out, fun _ => ?_⟩, ?_⟩, by simp only [intOf]; omega⟩
      · cases k with
        | zero =>
          have : xs = [] := List.eq_nil_of_length_eq_zero (by have := HX1.out.1; omega)
          subst this
          refine ⟨wr.heap.size, (secC (f (1 + 0))).toArray, rfl, ?_, fun j hj => ?_⟩
          · rw [HZ4.out.block _ (by simp; have := HZ2.out.size; have := lt_of_heap HZ1.out; omega) (fun e => ?_), hap.block _ (lt_of_heap HZ1.out)]
            · exact HZ1.out
            · exact own_ne HX1.out HZ1.out (by decide) e.symm
          · rw [List.getElem?_toArray, secC_at hj, HZ.out j hj]; rfl
        | succ k =>
          obtain ⟨b, cs, e1, e2, e3⟩ := HX2.out (by omega)
          refine ⟨b, cs, by rw [List.getElem?_append_left (List.getElem?_eq_some_iff.1 e1).1]; exact e1, ?_, e3⟩
          rw [HZ4.out.block _ (by simp; have := lt_of_heap e2; omega) (fun e => own_ne HX1.out e2 (by decide) e.symm), hap.block _ (lt_of_heap e2)]
          exact e2
      · exact below_grown ((HB.out.trans (HZ2.out.mono hbb)).alloc (by omega) _) HZ4.out (by simp; omega) (fun g hg => own_ge HX1.out hg)
    · have k1 : ¬ (k : Int) < 24 := by omega
      obtain rfl : k = 24 := by omega
      go_wp2_with fail
      go_ret2
      exact ⟨_, rfl, HS.out, HB.out⟩
end Go.Proofs.YtchdfogifhfclaaGreatDoor
