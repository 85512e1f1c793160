/- Keep. -/
import Derived.Test.YtaelbgjcoakdlaaGreatSeenM
namespace Go.Proofs.YtaelbgjcoakdlaaGreat
open Go.RowKit Go.Maps

theorem step_store_mid {P : Program} {w : World} {ops : Array Oper} {o : Oper} {a : Act} {K : Act → World → Prop} {Q : Exit → Act → World → Prop} {E : Prop} (hgd : o.guard = none) (ty : TypeId) (x y : Operand) (ho : o.op = .store ty x y)
    (b off : Nat) (cells : Array Value) (hx : a.eval x = .pointer (some ⟨b, off, none⟩)) (hy : a.eval y = .agg cells)
    (ht : w.there b off cells.size) (hi : (P.info? ty).map (·.size) = some cells.size) (h1 : cells.all (·.oneCell') = true)
    (h : K (a.put o.dst undef) (w.setCells b off cells.toList)) : if Region.wanted o (yielded ops a.tmps) = true then Oper.wp P o a w K Q else E := by
  have hw : Region.wanted o (yielded ops a.tmps) = true := by simp [Region.wanted, hgd]
  rw [if_pos hw]
  exact wp_store_mid ty x y ho b off cells hx hy ht hi h1 h
theorem fine_repM {b s id : Nat} (h1 : 1 ≤ b ∧ b ≤ 1099511627776) (h2 : 1 ≤ s ∧ s ≤ 1099511627776) (h3 : 1 ≤ id ∧ id ≤ 1099511627776) : Fine (repM b s id) := by
  refine ⟨⟨.inr ⟨rfl, rfl, rfl, rfl, rfl⟩, ?_⟩, ⟨Int.le_refl _, by show (0 : Int) < 8; decide⟩, ⟨by show (0 : Int) ≤ 1; decide, by show (1 : Int) < 8; decide⟩, by show (0 : Int) ≠ 1; decide, ?_⟩
  · intro x hx
    simp [repM] at hx
    rcases hx with rfl | rfl | rfl | rfl | rfl | rfl | rfl | rfl | rfl | rfl <;> omega
  · rw [kinds_reply rfl]
    intro k hk
    simp at hk
    rcases hk with rfl | rfl | rfl | rfl | rfl | rfl
    · exact ⟨by show (1 : Int) ≤ (b : Int); omega, by show (b : Int) ≤ 1099511627776; omega⟩
    · exact ⟨by show (1 : Int) ≤ (s : Int); omega, by show (s : Int) ≤ 1099511627776; omega⟩
    · exact ⟨by show (0 : Int) ≤ 0; omega, by show (0 : Int) ≤ 99; omega⟩
    · exact ⟨by show (1 : Int) ≤ (id : Int); omega, by show (id : Int) ≤ 1099511627776; omega⟩
    · rfl
    · trivial
/-- What Keep reads. -/
structure KeepS (w : World) (p : Nat) (r : Rep) (m a : Ms) (u : World) : Prop where
  rep : RepAt u p r
  msg : u.heap[w.heap.size]? = some (.cells m.cells 51 (0, 0))
  ans : u.heap[w.heap.size + 1]? = some (.cells a.cells 51 (0, 0))
  mod : Mod (fun b => b = p) w u
theorem KeepS.below {w u u' : World} {p : Nat} {r : Rep} {m a : Ms} (h : KeepS w p r m a u) (hb : Below u.heap.size u u') : KeepS w p r m a u' :=
  ⟨h.rep.below hb, (hb.block _ (lt_of_heap h.msg)).trans h.msg, (hb.block _ (lt_of_heap h.ans)).trans h.ans, h.mod.below hb⟩
theorem KeepS.turned {w u u' : World} {p : Nat} {r r' : Rep} {m a : Ms} (h : KeepS w p r m a u) (hp : p < w.heap.size) (hr : RepAt u' p r') (hm : Mod (fun b => b = p) u u') : KeepS w p r' m a u' :=
  ⟨hr, (hm.block _ (lt_of_heap h.msg) (by omega)).trans h.msg, (hm.block _ (lt_of_heap h.ans) (by omega)).trans h.ans, h.mod.trans hm (fun _ _ h => h)⟩
def KeepH (w : World) (b s id : Nat) (u : World) : Prop := u.cell? ⟨w.heap.size, 4, none⟩ = some (.int .i64 (s : Int)) ∧ (∀ i, u.cell? ⟨w.heap.size + 1, i, none⟩ = #[.int .i64 2, .int .i64 0, .int .i64 1, .int .i64 (b : Int), .int .i64 (s : Int), .int .i64 0, .int .i64 0, .string estr, .int .i64 0, .int .i64 0, .int .i64 (id : Int), .bool false, .int .i64 0, .slice none 0 0, .int .i64 0, .int .i64 0][i]?)
theorem KeepS.held {w u : World} {p : Nat} {r : Rep} {b s l id : Nat} (h : KeepS w p r (askM 1 b s l) (repM b s id) u) : KeepH w b s id u := ⟨blk_cell h.msg 4, fun i => blk_cell h.ans i⟩
theorem repM_val (b s id : Nat) : (repM b s id).val = .agg #[.int .i64 2, .int .i64 0, .int .i64 1, .int .i64 (b : Int), .int .i64 (s : Int), .int .i64 0, .int .i64 0, .string estr, .int .i64 0, .int .i64 0, .int .i64 (id : Int), .bool false, .int .i64 0, .slice none 0 0, .int .i64 0, .int .i64 0] := rfl
theorem keep_cells {b s id : Nat} (h : 1 ≤ s) : slotCells b ⟨s, id⟩ = .int .i64 (s : Int) :: [.int .i64 2, .int .i64 0, .int .i64 1, .int .i64 (b : Int), .int .i64 (s : Int), .int .i64 0, .int .i64 0, .string estr, .int .i64 0, .int .i64 0, .int .i64 (id : Int), .bool false, .int .i64 0, .slice none 0 0, .int .i64 0, .int .i64 0] := by
  unfold slotCells Sl.msg
  rw [if_neg (by show s ≠ 0; omega)]
  rfl
def Rep.keep (r : Rep) (s id : Nat) : Rep := { r with slots := fun j => if j = s % 8 then ⟨s, id⟩ else r.slots j }
def KeepPost (p : Nat) (r' : Rep) (w : World) (e : Ending) (w' : World) : Prop := e = .returned (.bool true) ∧ RepAt w' p r' ∧ Mod (fun b => b = p) w w'
set_option maxRecDepth 100000 in
set_option maxHeartbeats 1000000 in
theorem keep_any (p : Nat) (r : Rep) (b s l id : Nat) (w : World) (hr : RepAt w p r) (hf : Fine (askM 1 b s l)) (hfa : Fine (repM b s id)) (hb : r.boot ≤ b) (h1 : 1 ≤ l) (hn : s ≤ 1000) (hls : l ≤ s) (hlow : r.low ≤ 1000) (hwin : s < (r.turn b l).low + 8)
    (hge : (r.turn b l).low ≤ s) (hne : ((r.turn b l).slots (s % 8)).s ≠ s) :
    Calls Tryz.prog 23 #[.pointer (some ⟨p, 0, none⟩), (askM 1 b s l).val, (repM b s id).val] w (KeepPost p ((r.turn b l).keep s id) w) := by
  have HFA := Lib.hid hfa
  have HL := Lib.hid (fun (W : World) (h : RepAt W p r) => look_any p r b s l W h hf hb h1 hn hls hlow hwin)
  have hpl := hr.lt
  have hb0 : Below w.heap.size w ((w.alloc (.cells (askM 1 b s l).cells 51)).alloc (.cells (repM b s id).cells 51)) := ((Below.refl _ _).alloc (Nat.le_refl _) _).alloc (by simp) _
  have HS0 := Lib.hid (show KeepS w p r (askM 1 b s l) (repM b s id) ((w.alloc (.cells (askM 1 b s l).cells 51)).alloc (.cells (repM b s id).cells 51)) from ⟨hr.below hb0, blk_alloc (heap_at w _ _ rfl) _, heap_at _ _ _ (by simp), Mod.of_below hb0⟩)
  have hbt := Lib.hid (turn_boot r b l)
  have HGE := Lib.hid hge
  have HNE := Lib.hid hne
  clear hr hf hfa hb hwin hb0 hge hne
  unfold Ms.val
  go_enter Tryz.func23, Tryz.ntmps23
  go_wp2_with (refine wpList_load_row rfl 51 (.tmp 4) rfl w.heap.size rfl 51 (askM 1 b s l).cells (0, 0) _ HS0.out.msg Tryz.underlying51 rfl (by kernel_rfl) ?_)
  refine (HL.out _ HS0.out.rep).mono ?_
  rintro e w1 ⟨hr1, hm1, hcase⟩
  have HS1 := Lib.hid (HS0.out.turned hpl hr1 hm1)
  clear hr1 hm1
  rcases hcase with ⟨hst, rfl⟩ | ⟨hst, hq, rfl⟩ | ⟨hst, hq, rfl⟩
  · exact absurd hst (by have := HGE.out; omega)
  · exact absurd hq HNE.out
  · clear hq hst
    have m1 : w1.cell? ⟨w.heap.size, 1, none⟩ = some (.int .i64 1) := blk_cell HS1.out.msg 1
    have m2 : w1.cell? ⟨w.heap.size, 2, none⟩ = some (.int .i64 0) := blk_cell HS1.out.msg 2
    have m3 : w1.cell? ⟨w.heap.size, 3, none⟩ = some (.int .i64 (b : Int)) := blk_cell HS1.out.msg 3
    have m4 : w1.cell? ⟨w.heap.size, 4, none⟩ = some (.int .i64 (s : Int)) := blk_cell HS1.out.msg 4
    have a0 : ∀ i, w1.cell? ⟨w.heap.size + 1, i, none⟩ = #[.int .i64 2, .int .i64 0, .int .i64 1, .int .i64 (b : Int), .int .i64 (s : Int), .int .i64 0, .int .i64 0, .string estr, .int .i64 0, .int .i64 0, .int .i64 (id : Int), .bool false, .int .i64 0, .slice none 0 0, .int .i64 0, .int .i64 0][i]? := fun i => blk_cell HS1.out.ans i
    go_wp2_with fail
    refine (valid_any (repM b s id) _ HFA.out).mono ?_
    rintro e w2 ⟨rfl, hb2⟩
    have HS2 := Lib.hid (HS1.out.below hb2)
    clear hb2 m1 m2 m3 m4 a0
    have m1 : w2.cell? ⟨w.heap.size, 1, none⟩ = some (.int .i64 1) := blk_cell HS2.out.msg 1
    have m2 : w2.cell? ⟨w.heap.size, 2, none⟩ = some (.int .i64 0) := blk_cell HS2.out.msg 2
    have m3 : w2.cell? ⟨w.heap.size, 3, none⟩ = some (.int .i64 (b : Int)) := blk_cell HS2.out.msg 3
    have m4 : w2.cell? ⟨w.heap.size, 4, none⟩ = some (.int .i64 (s : Int)) := blk_cell HS2.out.msg 4
    have a1 : w2.cell? ⟨w.heap.size + 1, 1, none⟩ = some (.int .i64 0) := blk_cell HS2.out.ans 1
    have a2 : w2.cell? ⟨w.heap.size + 1, 2, none⟩ = some (.int .i64 1) := blk_cell HS2.out.ans 2
    have a3 : w2.cell? ⟨w.heap.size + 1, 3, none⟩ = some (.int .i64 (b : Int)) := blk_cell HS2.out.ans 3
    have a4 : w2.cell? ⟨w.heap.size + 1, 4, none⟩ = some (.int .i64 (s : Int)) := blk_cell HS2.out.ans 4
    go_wp2_with fail
    clear m1 m2 m3 m4 a1 a2 a3 a4
    refine wp_region_held_drew (S := KeepH w b s id) (by kernel_rfl) (HS2.out.below (below_drew w2)).held (fun hH => ?_)
    refine wpAnyH_take (i := 0) (oi := { dst := Option.some 57, op := Go.Op.move (Go.Operand.tmp 8), type := 94, pos := "replies.go:96", after := #[], guard := Option.none }) (v := ?v0) rfl (by kernel_rfl) (by kernel_rfl) (by kernel_rfl) (fun _ _ _ h => h) (Or.inl ⟨by rfl, ?hy0⟩) hH ?r0
    case hy0 => (intro W hSW; (obtain ⟨hS4, hSa⟩ := hSW); go_simp; try with_reducible rfl)
    try simp only [Act.put, List.setIfInBounds_toArray, List.set_cons_zero, List.set_cons_succ]
    refine wpAnyH_take (i := 1) (oi := { dst := Option.some 58, op := Go.Op.fieldAddr 51 (Go.Operand.tmp 4) 4, type := 0, pos := "replies.go:96", after := #[], guard := Option.none }) (v := ?v1) rfl (by kernel_rfl) (by kernel_rfl) (by kernel_rfl) (fun _ _ _ h => h) (Or.inl ⟨by rfl, ?hy1⟩) hH ?r1
    case hy1 => (intro W hSW; (obtain ⟨hS4, hSa⟩ := hSW); go_simp; try with_reducible rfl)
    try simp only [Act.put, List.setIfInBounds_toArray, List.set_cons_zero, List.set_cons_succ]
    refine wpAnyH_take (i := 2) (oi := { dst := Option.some 59, op := Go.Op.load 3 (Go.Operand.tmp 58), type := 3, pos := "replies.go:96", after := #[{ on := 1, ground := Go.Ground.data }], guard := Option.none }) (v := ?v2) rfl (by kernel_rfl) (by kernel_rfl) (by kernel_rfl) (fun _ _ _ h => h) (Or.inl ⟨by rfl, ?hy2⟩) hH ?r2
    case hy2 => (intro W hSW; (obtain ⟨hS4, hSa⟩ := hSW); go_simp; try with_reducible rfl)
    try simp only [Act.put, List.setIfInBounds_toArray, List.set_cons_zero, List.set_cons_succ]
    refine wpAnyH_take (i := 3) (oi := { dst := Option.some 60, op := Go.Op.load 51 (Go.Operand.tmp 5), type := 51, pos := "replies.go:96", after := #[], guard := Option.none }) (v := ?v3) rfl (by kernel_rfl) (by kernel_rfl) (by kernel_rfl) (fun _ _ _ h => h) (Or.inl ⟨by rfl, ?hy3⟩) hH ?r3
    case hy3 => (intro W hSW; (obtain ⟨hS4, hSa⟩ := hSW); go_simp; try with_reducible rfl)
    try simp only [Act.put, List.setIfInBounds_toArray, List.set_cons_zero, List.set_cons_succ]
    refine wpAnyH_ready (rs := [4]) (by kernel_rfl) (by simp) ?_
    refine AllReadyH.cons rfl (fun K hK => ?_) AllReadyH.nil
    go_simp
    refine (twin_any (repM b s id) _).mono ?_
    rintro e w3 ⟨he, hb3⟩
    rw [repM_val] at he
    subst he
    have HS3 := Lib.hid ((HS2.out.below (below_drew w2)).below hb3)
    dsimp only
    refine hK.out _ _ HS3.out.held (fun hH2 => ?_)
    clear hK K hb3
    try simp only [Act.put, List.setIfInBounds_toArray, List.set_cons_zero, List.set_cons_succ]
    refine wpAnyH_take (i := 5) (oi := { dst := Option.some 62, op := Go.Op.build 62 #[(0, Go.Operand.tmp 59), (1, Go.Operand.tmp 61)], type := 62, pos := "replies.go:96", after := #[{ on := 2, ground := Go.Ground.data }, { on := 4, ground := Go.Ground.data }], guard := Option.none }) (v := ?v5) rfl (by kernel_rfl) (by kernel_rfl) (by kernel_rfl) (fun _ _ _ h => h) (Or.inl ⟨by rfl, ?hy5⟩) hH2 ?r5
    case hy5 => (intro W hSW; (obtain ⟨hS4, hSa⟩ := hSW); go_simp; try with_reducible rfl)
    try simp only [Act.put, List.setIfInBounds_toArray, List.set_cons_zero, List.set_cons_succ]
    refine wpAnyH_take (i := 6) (oi := { dst := Option.some 63, op := Go.Op.nilCheck (Go.Operand.tmp 57), type := 0, pos := "replies.go:96", after := #[{ on := 0, ground := Go.Ground.data }, { on := 0, ground := Go.Ground.phase }, { on := 1, ground := Go.Ground.phase }, { on := 2, ground := Go.Ground.phase }, { on := 3, ground := Go.Ground.phase }, { on := 4, ground := Go.Ground.phase }, { on := 5, ground := Go.Ground.phase }], guard := Option.none }) (v := ?v6) rfl (by kernel_rfl) (by kernel_rfl) (by kernel_rfl) (fun _ _ _ h => h) (Or.inl ⟨by rfl, ?hy6⟩) hH2 ?r6
    case hy6 => (intro W hSW; (obtain ⟨hS4, hSa⟩ := hSW); go_simp; try with_reducible rfl)
    try simp only [Act.put, List.setIfInBounds_toArray, List.set_cons_zero, List.set_cons_succ]
    refine wpAnyH_ready (rs := [7]) (by kernel_rfl) (by simp) ?_
    refine AllReadyH.cons rfl (fun K hK => ?_) AllReadyH.nil
    have hbb : (r.turn b l).boot = b := hbt.out
    have hm8 : s % 8 < 8 := Nat.mod_lt _ (by omega)
    have hcells := keep_cells (b := b) (s := s) (id := id) (by omega)
    refine step_store_mid rfl 62 (.tmp 63) (.tmp 62) rfl p (140 + s % 8 * 17) (slotCells b ⟨s, id⟩).toArray rfl (by rw [hcells]; rfl) (HS3.out.rep.there (n := 17) (by omega)) (by kernel_rfl) ?_ ?_
    · rw [hcells]
      simp [Value.oneCell']
    · have hm3 := HS3.out
      refine hK.out _ _ ?_ (fun hH3 => ?_)
      · refine ⟨?_, fun i => ?_⟩
        · exact (World.cell?_of_block (setCells_other _ _ _ _ _ (show w.heap.size ≠ p by omega))).trans (blk_cell hm3.msg 4)
        · exact (World.cell?_of_block (setCells_other _ _ _ _ _ (show w.heap.size + 1 ≠ p by omega))).trans (blk_cell hm3.ans i)
      clear hK K
      refine wpAnyH_done (by kernel_rfl) ?_ _
      refine world_out (fun u => RepAt u p ((r.turn b l).keep s id) ∧ Mod (fun b => b = p) w u) ⟨?_, hm3.mod.setCells (fun _ => rfl) _ _⟩ ?_
      · have := hm3.rep.setSlot hm8 ⟨s, id⟩
        rw [hbb] at this
        unfold Rep.keep
        rw [hbb]
        exact this
      intro w5 h5
      have H5 := Lib.hid h5
      clear h5
      go_wp2_with fail
      go_ret
      exact ⟨rfl, H5.out.1, H5.out.2⟩
end Go.Proofs.YtaelbgjcoakdlaaGreat
