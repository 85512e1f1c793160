/- turn: a client is brought to a later era.  turn: a client's first message. -/
import Derived.Test.YtaelbgjcoakdlaaGreatRep
namespace Go.Proofs.YtaelbgjcoakdlaaGreat
open Go.RowKit Go.Maps

def TurnPost (p : Nat) (r' : Rep) (w : World) (e : Ending) (w' : World) : Prop := e = .returned (.bool true) ∧ RepAt w' p r' ∧ Mod (fun b => b = p) w w'
theorem ask_val (b s l : Nat) : (askM 1 b s l).val = .agg #[.int .i64 1, .int .i64 1, .int .i64 0, .int .i64 (b : Int), .int .i64 (s : Int), .int .i64 (l : Int), .int .i64 3, .string estr, .int .i64 0, .int .i64 0, .int .i64 9, .bool false, .int .i64 0, .slice none 0 0, .int .i64 0, .int .i64 0] := rfl
theorem turn_done {w W : World} {p : Nat} {r : Rep} (hr : RepAt w p r) (h : Mod (fun _ => False) w W) : RepAt W p r ∧ Mod (fun b => b = p) w W :=
  ⟨hr.keep (h.block p hr.lt (fun h => h)), h.mono (fun _ _ h => h.elim)⟩
set_option maxRecDepth 100000 in
set_option maxHeartbeats 1000000 in
theorem turn_stays (p : Nat) (r : Rep) (b s l : Nat) (w : World) (hr : RepAt w p r) (hb : b = r.boot) (hl : l ≤ r.low) (hn : r.low ≤ 1000) :
    Calls Tryz.prog 43 #[.pointer (some ⟨p, 138, none⟩), (askM 1 b s l).val] w (TurnPost p r w) := by
  have HR := Lib.hid hr
  have hpl := hr.lt
  have c0 := hr.boot
  have c1 := hr.low
  subst hb
  have d1 : decide ((r.boot : Int) < (r.boot : Int)) = false := by simp
  have d2 : decide ((l : Int) ≤ (r.low : Int)) = true := decide_eq_true (by omega)
  have d3 : decide ((r.low : Int) < (l : Int)) = false := decide_eq_false (by omega)
  have d4 : max (r.low : Int) (l : Int) = (r.low : Int) := by omega
  rw [ask_val]
  clear hr hl
  go_enter Tryz.func43, Tryz.ntmps43
  go_wp2_with fail
  go_quiet (fail)
  go_wp2_with fail
  go_quiet (fail)
  go_wp2_with fail
  go_quiet (fail)
  go_wp2_with fail
  go_ret
  refine ⟨rfl, turn_done HR.out ?_⟩
  exact (((((Mod.refl _ w).alloc _).alloc _).drewN _).setCell (p := ⟨w.heap.size + 1, 1, none⟩) (fun h => absurd h (by show ¬ w.heap.size + 1 < w.heap.size; omega)) _).drewN _
/-- What the loop has done. -/
def Rep.swept (b l : Nat) (S : Nat → Sl) (j : Nat) : Rep := { boot := b, low := l, slots := fun k => if k < j ∧ (S k).s < l then Sl.zero else S k }
theorem swept_end (b l : Nat) (S : Nat → Sl) (w : World) (p : Nat) (h : RepAt w p (Rep.swept b l S 8)) : RepAt w p { boot := b, low := l, slots := fun k => if (S k).s < l then Sl.zero else S k } := by
  obtain ⟨cs, h1, h2, h3, h4, h5⟩ := h.h
  refine ⟨⟨cs, h1, h2, h3, h4, fun k hk i hi => ?_⟩⟩
  rw [h5 k hk i hi]
  simp [Rep.swept, hk]
theorem swept_keep {b l : Nat} {S : Nat → Sl} {j : Nat} {w : World} {p : Nat} (h : RepAt w p (Rep.swept b l S j)) (hs : ¬ (S j).s < l) : RepAt w p (Rep.swept b l S (j + 1)) := by
  obtain ⟨cs, h1, h2, h3, h4, h5⟩ := h.h
  refine ⟨⟨cs, h1, h2, h3, h4, fun k hk i hi => ?_⟩⟩
  rw [h5 k hk i hi]
  have : (Rep.swept b l S j).slots k = (Rep.swept b l S (j + 1)).slots k := by
    simp only [Rep.swept]
    by_cases e : k = j
    · subst e; rw [if_neg (by omega), if_neg (by omega)]
    · by_cases e2 : k < j ∧ (S k).s < l
      · rw [if_pos e2, if_pos (by omega)]
      · rw [if_neg e2, if_neg (by omega)]
  rw [this]
  rfl
theorem swept_zero {b l : Nat} {S : Nat → Sl} {j : Nat} {w : World} {p : Nat} (h : RepAt w p (Rep.swept b l S j)) (hj : j < 8) (hs : (S j).s < l) : RepAt (w.setCells p (140 + j * 17) (slotCells b Sl.zero)) p (Rep.swept b l S (j + 1)) := by
  have := h.setSlot hj Sl.zero
  have e : { Rep.swept b l S j with slots := fun k => if k = j then Sl.zero else (Rep.swept b l S j).slots k } = Rep.swept b l S (j + 1) := by
    simp only [Rep.swept, Rep.mk.injEq, true_and]
    funext k
    by_cases e : k = j
    · subst e; rw [if_pos rfl, if_pos (by omega)]
    · rw [if_neg e]
      by_cases e2 : k < j ∧ (S k).s < l
      · rw [if_pos e2, if_pos (by omega)]
      · rw [if_neg e2, if_neg (by omega)]
  rw [← e]
  exact this
theorem slot_one {b : Nat} : (slotCells b Sl.zero).toArray.all (·.oneCell') = true := by
  have : (slotCells b Sl.zero) = .int .i64 0 :: zeroM.cells.toList := rfl
  rw [this]
  simp [zeroM, Ms.cells, Value.oneCell']
def slot0 : Array Value := #[.int .i64 0, .int .i64 0, .int .i64 0, .int .i64 0, .int .i64 0, .int .i64 0, .int .i64 0, .int .i64 0, .string ⟨#[]⟩, .int .i64 0, .int .i64 0, .int .i64 0, .bool false, .int .i64 0, .slice none 0 0, .int .i64 0, .int .i64 0]
theorem slot0_one : slot0.all (·.oneCell') = true := by simp [slot0, Value.oneCell']
theorem slot0_is (b : Nat) : slot0.toList = slotCells b Sl.zero := rfl
theorem there17 {w : World} {p j : Nat} {r : Rep} (hj : j < 8) (h : RepAt w p r) : w.there p (140 + j * 17) slot0.size := h.there (n := 17) (by omega)
theorem turn_start {w W : World} {p : Nat} {r : Rep} {l : Nat} (hr : RepAt w p r) (h : Mod (fun _ => False) w W) :
    RepAt ((W.setCell ⟨p, 138, none⟩ (.int .i64 (r.boot : Int))).setCell ⟨p, 139, none⟩ (.int .i64 (l : Int))) p (Rep.swept r.boot l r.slots 0) ∧ Mod (fun b => b = p) w ((W.setCell ⟨p, 138, none⟩ (.int .i64 (r.boot : Int))).setCell ⟨p, 139, none⟩ (.int .i64 (l : Int))) := by
  obtain ⟨h1, h2⟩ := turn_done hr h
  refine ⟨?_, (h2.setCell (p := ⟨p, 138, none⟩) (fun _ => rfl) _).setCell (p := ⟨p, 139, none⟩) (fun _ => rfl) _⟩
  have := h1.setEra r.boot l (.inl rfl)
  have e : { r with boot := r.boot, low := l } = Rep.swept r.boot l r.slots 0 := by simp [Rep.swept]
  rw [← e]
  exact this
set_option maxRecDepth 100000 in
set_option maxHeartbeats 1000000 in
theorem turn_later (p : Nat) (r : Rep) (b s l : Nat) (w : World) (hr : RepAt w p r) (hb : b = r.boot) (hl : r.low < l) (hn : l ≤ 1000) :
    Calls Tryz.prog 43 #[.pointer (some ⟨p, 138, none⟩), (askM 1 b s l).val] w (TurnPost p { boot := b, low := l, slots := fun k => if (r.slots k).s < l then Sl.zero else r.slots k } w) := by
  have HR := Lib.hid hr
  have hpl := hr.lt
  have c0 := hr.boot
  have c1 := hr.low
  have f0 := hr.free 138
  have f1 := hr.free 139
  subst hb
  have d1 : decide ((r.boot : Int) < (r.boot : Int)) = false := by simp
  have d3 : ((r.low : Int) == (l : Int)) = false := by rw [beq_eq_false_iff_ne]; omega
  have d5 : ((l : Int) == (r.low : Int)) = false := by rw [beq_eq_false_iff_ne]; omega
  have d4 : max (r.low : Int) (l : Int) = (l : Int) := by omega
  rw [ask_val]
  clear hr hl
  go_enter Tryz.func43, Tryz.ntmps43
  go_wp2_with fail
  go_quiet (fail)
  go_wp2_with fail
  go_quiet (fail)
  go_wp2_with fail
  go_quiet (fail)
  go_wp2_with fail
  go_loopw [52] (fun i wt => ∃ j : Nat, j ≤ 8 ∧ i = .int .i64 j ∧ RepAt wt p (Rep.swept r.boot l r.slots j) ∧ Mod (fun b => b = p) w wt) (fun i _ => 8 - (intOf i).toNat)
  case atStart =>
    refine ⟨0, by omega, rfl, ?_⟩
    refine turn_start HR.out ?_
    exact (((((Mod.refl _ w).alloc _).alloc _).drewN _).setCell (p := ⟨w.heap.size + 1, 1, none⟩) (fun h => absurd h (by show ¬ w.heap.size + 1 < w.heap.size; omega)) _).drewN _
  case round =>
    obtain ⟨j, hj, rfl, hS, hM⟩ := hrel
    have HS := Lib.hid hS
    have HM := Lib.hid hM
    have e1 := hS.low
    by_cases hlt : j < 8
    · have e2 : wr.cell? ⟨p, 140 + j * 17, none⟩ = some (.int .i64 ((r.slots j).s : Int)) := by
        have := hS.slot hlt (i := 0) (by omega)
        rw [Nat.add_zero] at this
        rw [this]
        simp [slotCells, Rep.swept]
      have hpl2 := hS.lt
      have k0 : (0 : Int) ≤ (j : Int) := by omega
      have k1 : (j : Int) < 8 := by omega
      replace e1 : wr.cell? ⟨p, 139, none⟩ = some (.int .i64 (l : Int)) := e1
      clear hS hM
      by_cases hs : (r.slots j).s < l
      · have d6 : decide (((r.slots j).s : Int) < (l : Int)) = true := decide_eq_true (by omega)
        have HT := fun n => there17 hlt (show RepAt (wr.drewN n) p (Rep.swept r.boot l r.slots j) from HS.out.keep rfl)
        have HT' := Lib.hid HT
        clear HT
        have HS' := Lib.hid (fun n => (show RepAt (wr.drewN n) p (Rep.swept r.boot l r.slots j) from HS.out.keep rfl))
        go_wp2_with fail
        go_quiet (fail)
        go_wp2_with (refine wpList_store_mid rfl 62 (.tmp 73) (.tmp 70) rfl p (140 + j * 17) slot0 rfl rfl (HT'.out _) (by kernel_rfl) slot0_one ?_; (obtain ⟨w5, hw5⟩ : ∃ w5, w5 = (wr.drewN nq).setCells p (140 + j * 17) slot0.toList := ⟨_, rfl⟩); rw [← hw5]; have H5 := Lib.hid hw5; clear hw5)
        refine ⟨⟨j + 1, by omega, by push_cast; rfl, ?_⟩, by simp only [intOf]; omega⟩
        rw [H5.out, slot0_is r.boot]
        exact ⟨swept_zero (HS'.out _) hlt hs, (HM.out.drewN _).setCells (fun _ => rfl) _ _⟩
      · have d6 : decide (((r.slots j).s : Int) < (l : Int)) = false := decide_eq_false (by omega)
        go_wp2_with fail
        go_quiet (fail)
        go_wp2_with fail
        refine ⟨⟨j + 1, by omega, by push_cast; rfl, (swept_keep HS.out hs).keep rfl, HM.out.drewN _⟩, by simp only [intOf]; omega⟩
    · obtain rfl : j = 8 := by omega
      clear hS hM e1
      go_wp2_with fail
      go_ret
      exact ⟨rfl, swept_end _ _ _ _ _ HS.out, HM.out⟩
end Go.Proofs.YtaelbgjcoakdlaaGreat
namespace Go.Proofs.YtaelbgjcoakdlaaGreat
open Go.RowKit Go.Maps

theorem rep_at : ∀ (n : Nat) (A : List Value), A.length = 17 → ∀ k, k < n → ∀ i, i < 17 → (List.replicate n A).flatten[k * 17 + i]? = A[i]?
  | 0, _, _, k, hk, _, _ => by omega
  | n + 1, A, hA, k, hk, i, hi => by
    rw [List.replicate_succ, List.flatten_cons]
    cases k with
    | zero => rw [Nat.zero_mul, Nat.zero_add, List.getElem?_append_left (by omega)]
    | succ k =>
      rw [List.getElem?_append_right (by omega), show (k + 1) * 17 + i - A.length = k * 17 + i from by omega]
      exact rep_at n A hA k (by omega) i hi
theorem zero136 : Tryz.zeroCells63.toList = (List.replicate 8 (slotCells 0 Sl.zero)).flatten := by kernel_rfl
theorem zero136_len : Tryz.zeroCells63.toList.length = 136 := by kernel_rfl
theorem zero136_size : Tryz.zeroCells63.size = 136 := by kernel_rfl
theorem zero136_one : Tryz.zeroCells63.all (·.oneCell') = true := by kernel_rfl
/-- Only at this store: a guard for an arm. -/
theorem only_store {P : Program} {ops : Array Oper} {Q : Exit → Act → World → Prop} {rest : List Oper} {a : Act} {w : World} {d : Option Tmp} {t : TypeId} {ps : String} {af : Array Edge} {g : Option (Nat × Bool)} (ty : TypeId) (x y : Operand)
    (h : wpList P ops Q (⟨d, .store ty x y, t, ps, af, g⟩ :: rest) a w) : wpList P ops Q (⟨d, .store ty x y, t, ps, af, g⟩ :: rest) a w := h
theorem world_out {φ : World → Prop} {W : World} (R : World → Prop) (hR : R W) (h : ∀ u, R u → φ u) : φ W := h W hR
structure NewS (w : World) (p : Nat) (r : Rep) (b s l : Nat) (u : World) : Prop where
  rep : RepAt u p { r with slots := fun _ => Sl.zero }
  next : u.heap[w.heap.size + 1]? = some (.cells #[.int .i64 (b : Int), .int .i64 1] 60 (0, 0))
  msg : u.heap[w.heap.size]? = some (.cells (askM 1 b s l).cells 51 (0, 0))
  mod : Mod (fun b => b = p) w u
abbrev newW (w : World) (b s l : Nat) (x y : Value) (n : Nat) : World := ((((w.alloc (.cells (askM 1 b s l).cells 51)).alloc (.cells #[x, y] 60)).drewN n).setCell ⟨w.heap.size + 1, 0, none⟩ (.int .i64 (b : Int))).setCell ⟨w.heap.size + 1, 1, none⟩ (.int .i64 1)
theorem newW_mod (w : World) (b s l : Nat) (x y : Value) (n : Nat) : Mod (fun _ => False) w (newW w b s l x y n) :=
  ((((((Mod.refl _ w).alloc _).alloc _).drewN _).setCell (p := ⟨w.heap.size + 1, 0, none⟩) (fun h => absurd h (by show ¬ w.heap.size + 1 < w.heap.size; omega)) _).setCell (p := ⟨w.heap.size + 1, 1, none⟩) (fun h => absurd h (by show ¬ w.heap.size + 1 < w.heap.size; omega)) _)
theorem new_there {w : World} {p : Nat} {r : Rep} {b s l : Nat} {x y : Value} {n : Nat} (hr : RepAt w p r) : (newW w b s l x y n).there p 140 Tryz.zeroCells63.size := by
  rw [zero136_size]
  exact (turn_done hr (newW_mod w b s l x y n)).1.there (by omega)
theorem new_s {w : World} {p : Nat} {r : Rep} {b s l : Nat} {x y : Value} {n : Nat} (hr : RepAt w p r) : NewS w p r b s l ((newW w b s l x y n).setCells p 140 Tryz.zeroCells63.toList) := by
  obtain ⟨h1, h2⟩ := turn_done hr (newW_mod w b s l x y n)
  have hpl := hr.lt
  have z1 : ∀ k, k < 8 → ∀ i, i < 17 → Tryz.zeroCells63.toList[k * 17 + i]? = (slotCells 0 Sl.zero)[i]? := fun k hk i hi => by rw [zero136]; exact rep_at 8 _ rfl k hk i hi
  have hlen := zero136_len
  generalize Tryz.zeroCells63.toList = Z at z1 hlen ⊢
  have hZl : Z.length = 136 := hlen
  have e1 := setCells_other Z (newW w b s l x y n) p 140 (w.heap.size + 1) (by omega)
  have e2 := setCells_other Z (newW w b s l x y n) p 140 w.heap.size (by omega)
  refine ⟨h1.wipe Z hZl z1, e1.trans ?_, e2.trans ?_, h2.setCells (fun _ => rfl) _ _⟩
  · have h3 : ((((w.alloc (.cells (askM 1 b s l).cells 51)).alloc (.cells #[x, y] 60)).drewN n)).heap[w.heap.size + 1]? = some (.cells #[x, y] 60 (0, 0)) := by
      show ((w.alloc (.cells (askM 1 b s l).cells 51)).alloc (.cells #[x, y] 60)).heap[w.heap.size + 1]? = _
      exact heap_at _ _ _ (by simp)
    exact blk_set (blk_set h3 0 _) 1 _
  · have h3 : ((((w.alloc (.cells (askM 1 b s l).cells 51)).alloc (.cells #[x, y] 60)).drewN n)).heap[w.heap.size]? = some (.cells (askM 1 b s l).cells 51 (0, 0)) := by
      show ((w.alloc (.cells (askM 1 b s l).cells 51)).alloc (.cells #[x, y] 60)).heap[w.heap.size]? = _
      exact blk_alloc (heap_at w _ _ rfl) _
    exact blk_far (blk_far h3 (by show w.heap.size ≠ w.heap.size + 1; omega) _) (by show w.heap.size ≠ w.heap.size + 1; omega) _
theorem newc_start {w w5 : World} {p : Nat} {r : Rep} {b s l n : Nat} {v : Value} (h : NewS w p r b s l w5) (hpl : p < w.heap.size) :
    RepAt ((((w5.setCell ⟨w.heap.size + 1, 1, none⟩ v).drewN n).setCell ⟨p, 138, none⟩ (.int .i64 (b : Int))).setCell ⟨p, 139, none⟩ (.int .i64 (l : Int))) p (Rep.swept b l (fun _ => Sl.zero) 0) ∧
    Mod (fun b => b = p) w ((((w5.setCell ⟨w.heap.size + 1, 1, none⟩ v).drewN n).setCell ⟨p, 138, none⟩ (.int .i64 (b : Int))).setCell ⟨p, 139, none⟩ (.int .i64 (l : Int))) := by
  have h1 : RepAt ((w5.setCell ⟨w.heap.size + 1, 1, none⟩ v).drewN n) p { r with slots := fun _ => Sl.zero } := h.rep.keep (Below.heap_setCell w5 _ _ p (by show p ≠ w.heap.size + 1; omega))
  have h2 := h1.setEra b l (.inr fun _ _ => rfl)
  have e : ({ { r with slots := fun _ => Sl.zero } with boot := b, low := l } : Rep) = Rep.swept b l (fun _ => Sl.zero) 0 := by simp [Rep.swept]
  rw [← e]
  refine ⟨h2, ?_⟩
  exact (((h.mod.setCell (p := ⟨w.heap.size + 1, 1, none⟩) (fun h => absurd h (by show ¬ w.heap.size + 1 < w.heap.size; omega)) _).drewN _).setCell (p := ⟨p, 138, none⟩) (fun _ => rfl) _).setCell (p := ⟨p, 139, none⟩) (fun _ => rfl) _
set_option maxRecDepth 100000 in
set_option maxHeartbeats 1000000 in
theorem turn_new (p : Nat) (r : Rep) (b s l : Nat) (w : World) (hr : RepAt w p r) (hb : r.boot < b) (h1 : 1 ≤ l) (hn : l ≤ 1000) :
    Calls Tryz.prog 43 #[.pointer (some ⟨p, 138, none⟩), (askM 1 b s l).val] w (TurnPost p { boot := b, low := l, slots := fun _ => Sl.zero } w) := by
  have HR := Lib.hid hr
  have hpl := hr.lt
  have c0 := hr.boot
  have c1 := hr.low
  have f0 := hr.free 138
  have f1 := hr.free 139
  have d1 : decide (b < r.boot) = false := decide_eq_false (by omega)
  have d2 : decide (r.boot < b) = true := decide_eq_true hb
  have d5 : (b == r.boot) = false := by rw [beq_eq_false_iff_ne]; omega
  have d3 : ((b : Int) == (r.boot : Int)) = false := by rw [beq_eq_false_iff_ne]; omega
  have d4 : max (1 : Int) (l : Int) = (l : Int) := by omega
  rw [ask_val]
  clear hr hb
  go_enter Tryz.func43, Tryz.ntmps43
  go_wp2_with fail
  go_quiet (fail)
  go_wp2_with fail
  go_quiet (fail)
  go_wp2_with ((with_reducible refine only_store 63 (.tmp 35) (.tmp 33) ?_); refine wpList_store_mid rfl 63 (.tmp 35) (.tmp 33) rfl p 140 Tryz.zeroCells63 rfl rfl (new_there (b := b) (s := s) (l := l) HR.out) (by kernel_rfl) zero136_one ?_; refine world_out (φ := fun u => wpList _ _ _ _ _ u) (NewS w p r b s l) (new_s HR.out) ?_; intro w5 h5; have H5 := Lib.hid h5; (obtain ⟨n0, n1, nf0, nf1⟩ := blk2 h5.next); have m5 : w5.cell? ⟨w.heap.size, 5, none⟩ = some (.int .i64 (l : Int)) := blk_cell h5.msg 5; have q0 : w5.cell? ⟨p, 138, none⟩ = some (.int .i64 (r.boot : Int)) := h5.rep.boot; have q1 : w5.cell? ⟨p, 139, none⟩ = some (.int .i64 (r.low : Int)) := h5.rep.low; have qf0 := h5.rep.free 138; have qf1 := h5.rep.free 139; have hs5 := h5.mod.size; have hpn : p ≠ w.heap.size + 1 := (by omega); clear h5)
  go_quiet (fail)
  go_wp2_with fail
  go_loopw [52] (fun i wt => ∃ j : Nat, j ≤ 8 ∧ i = .int .i64 j ∧ RepAt wt p (Rep.swept b l (fun _ => Sl.zero) j) ∧ Mod (fun b => b = p) w wt) (fun i _ => 8 - (intOf i).toNat)
  case atStart => exact ⟨0, by omega, rfl, newc_start H5.out hpl⟩
  case round =>
    obtain ⟨j, hj, rfl, hS, hM⟩ := hrel
    have HS := Lib.hid hS
    have HM := Lib.hid hM
    have e1 : wr.cell? ⟨p, 139, none⟩ = some (.int .i64 (l : Int)) := hS.low
    by_cases hlt : j < 8
    · have e2 : wr.cell? ⟨p, 140 + j * 17, none⟩ = some (.int .i64 0) := by
        have := hS.slot hlt (i := 0) (by omega)
        rw [Nat.add_zero] at this
        rw [this]
        have hz : (Rep.swept b l (fun _ => Sl.zero) j).slots j = Sl.zero := by simp [Rep.swept]
        rw [hz]
        rfl
      have hpl2 := hS.lt
      have k0 : (0 : Int) ≤ (j : Int) := by omega
      have k1 : (j : Int) < 8 := by omega
      clear hS hM
      have d6 : decide ((0 : Int) < (l : Int)) = true := decide_eq_true (by omega)
      have d7 : decide (0 < l) = true := decide_eq_true (by omega)
      have HT' := Lib.hid (fun n => there17 hlt (show RepAt (wr.drewN n) p (Rep.swept b l (fun _ => Sl.zero) j) from HS.out.keep rfl))
      have HS' := Lib.hid (fun n => (show RepAt (wr.drewN n) p (Rep.swept b l (fun _ => Sl.zero) j) from HS.out.keep rfl))
      go_wp2_with fail
      go_quiet (fail)
      go_wp2_with ((with_reducible refine only_store 62 (.tmp 73) (.tmp 70) ?_); refine wpList_store_mid rfl 62 (.tmp 73) (.tmp 70) rfl p (140 + j * 17) slot0 rfl rfl (HT'.out _) (by kernel_rfl) slot0_one ?_; (obtain ⟨w6, hw6⟩ : ∃ w6, w6 = (wr.drewN nq).setCells p (140 + j * 17) slot0.toList := ⟨_, rfl⟩); rw [← hw6]; have H6 := Lib.hid hw6; clear hw6)
      refine ⟨⟨j + 1, by omega, by push_cast; rfl, ?_⟩, by simp only [intOf]; omega⟩
      rw [H6.out, slot0_is b]
      exact ⟨swept_zero (HS'.out _) hlt (by show 0 < l; omega), (HM.out.drewN _).setCells (fun _ => rfl) _ _⟩
    · obtain rfl : j = 8 := by omega
      clear hS hM e1
      go_wp2_with fail
      go_ret
      have := swept_end _ _ _ _ _ HS.out
      refine ⟨rfl, ?_, HM.out⟩
      have e : ({ boot := b, low := l, slots := fun k => if ((fun _ => Sl.zero) k : Sl).s < l then Sl.zero else (fun _ => Sl.zero) k } : Rep) = { boot := b, low := l, slots := fun _ => Sl.zero } := by simp
      rw [← e]
      exact this
end Go.Proofs.YtaelbgjcoakdlaaGreat
