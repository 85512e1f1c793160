/- twin.  Seen. -/
import Derived.Test.YtaelbgjcoakdlaaGreatLook
namespace Go.Proofs.YtaelbgjcoakdlaaGreat
open Go.RowKit Go.Maps

def TwinPost (m : Ms) (w : World) (e : Ending) (w' : World) : Prop := e = .returned m.val ∧ Below w.heap.size w w'
set_option maxRecDepth 100000 in
set_option maxHeartbeats 1000000 in
theorem twin_any (m : Ms) (w : World) : Calls Tryz.prog 33 #[m.val] w (TwinPost m w) := by
  have HB := Lib.hid (show Below w.heap.size w (w.alloc (.cells m.cells 51)) from (Below.refl _ _).alloc (Nat.le_refl _) _)
  unfold Ms.val Ms.cells
  go_enter Tryz.func33, Tryz.ntmps33
  go_wp2_with fail
  exact bodyPost_ret (v := m.val) (results_cell_row (fn := Tryz.f33) rfl _ _ (w.heap.size + 1) 51 m.cells (0, 0) _ rfl (heap_at _ _ _ (by simp)) Tryz.underlying51 rfl (by kernel_rfl)) rfl ⟨rfl, HB.out.alloc HB.out.size _⟩
end Go.Proofs.YtaelbgjcoakdlaaGreat
namespace Go.Proofs.YtaelbgjcoakdlaaGreat
open Go.RowKit Go.Maps

theorem results_tmp_cell2 {P : Program} {fn : Func} {p q : Tmp} {ty : TypeId} (h : fn.results = #[.tmp q, .cell p ty]) (tmps : Array Value) (w : World) (g : Nat) (t : TypeId) (cs : Array Value) (fr : Nat × Nat) (d : TypeDesc) (v : Value)
    (hp : tmps.getD p undef = .pointer (some ⟨g, 0, none⟩)) (hq : tmps.getD q undef = v) (hg : w.heap[g]? = some (.cells cs t fr))
    (hu : P.underlying ty = some d) (hd : (match d with | .struct _ | .array _ _ => true | _ => false) = true) (hi : (P.info? ty).map (·.size) = some cs.size) :
    (results fn tmps).run P w = .ok (.tuple #[v, .agg cs]) w := by
  have hp' : tmps[p]?.getD undef = .pointer (some ⟨g, 0, none⟩) := by simpa using hp
  have hq' : tmps[q]?.getD undef = v := by simpa using hq
  simp [results, h, hp', hq', asAddr, run_loadVar_row w g t ty cs fr d hg hu hd hi]
theorem mod_row {F : Nat → Prop} {w w' : World} {g : Nat} (h : Mod F w w') (hg : w.heap.size ≤ g) (cs : Array Value) : Mod F w (w'.setRow g cs) :=
  ⟨h.os, h.tape, h.output, by rw [setRow_size]; exact h.size, fun k hk hF => (setRow_other _ _ _ _ (by omega)).trans (h.block k hk hF)⟩
theorem turn_boot (r : Rep) (b l : Nat) : (r.turn b l).boot = b := by
  unfold Rep.turn
  split
  · rename_i h; split
    · exact h.symm
    · rfl
  · rfl
def SeenPost (p : Nat) (r' : Rep) (b s : Nat) (w : World) (e : Ending) (w' : World) : Prop :=
  RepAt w' p r' ∧ Mod (fun b => b = p) w w' ∧ ((s < r'.low ∧ e = .returned (.tuple #[.int .i64 1, zeroM.val])) ∨
    (r'.low ≤ s ∧ (r'.slots (s % 8)).s = s ∧ e = .returned (.tuple #[.int .i64 2, (repM b s (r'.slots (s % 8)).id).val])) ∨
    (r'.low ≤ s ∧ (r'.slots (s % 8)).s ≠ s ∧ e = .returned (.tuple #[.int .i64 3, zeroM.val])))
set_option maxRecDepth 100000 in
set_option maxHeartbeats 1000000 in
theorem seen_any (p : Nat) (r : Rep) (b s l : Nat) (w : World) (hr : RepAt w p r) (hf : Fine (askM 1 b s l)) (hb : r.boot ≤ b) (h1 : 1 ≤ l) (hn : s ≤ 1000) (hls : l ≤ s) (hlow : r.low ≤ 1000) (hwin : s < (r.turn b l).low + 8) :
    Calls Tryz.prog 21 #[.pointer (some ⟨p, 0, none⟩), (askM 1 b s l).val] w (SeenPost p (r.turn b l) b s w) := by
  have HF := Lib.hid hf
  have HL := Lib.hid (fun (W : World) (h : RepAt W p r) => look_any p r b s l W h hf hb h1 hn hls hlow hwin)
  have hpl := hr.lt
  have hm0 := heap_at w (.cells (askM 1 b s l).cells 51) _ rfl
  have HM0 := Lib.hid (blk_alloc hm0 (.cells zeroM.cells 51))
  have HR0 := Lib.hid (heap_at (w.alloc (.cells (askM 1 b s l).cells 51)) (.cells zeroM.cells 51) (w.heap.size + 1) (by simp))
  have HB0 := Lib.hid (show Below w.heap.size w ((w.alloc (.cells (askM 1 b s l).cells 51)).alloc (.cells zeroM.cells 51)) from ((Below.refl _ _).alloc (Nat.le_refl _) _).alloc (by simp) _)
  have HRP := Lib.hid (hr.below HB0.out)
  have hbt := Lib.hid (turn_boot r b l)
  have hs0 : w.heap.size < ((w.alloc (.cells (askM 1 b s l).cells 51)).alloc (.cells zeroM.cells 51)).heap.size ∧ w.heap.size + 1 < ((w.alloc (.cells (askM 1 b s l).cells 51)).alloc (.cells zeroM.cells 51)).heap.size := by simp; omega
  have HS0 := Lib.hid hs0
  clear hr hf hb hwin hm0 hs0
  unfold Ms.val
  go_enter Tryz.func21, Tryz.ntmps21
  go_wp2_with (refine wpList_load_row rfl 51 (.tmp 3) rfl w.heap.size rfl 51 (askM 1 b s l).cells (0, 0) _ HM0.out Tryz.underlying51 rfl (by kernel_rfl) ?_)
  refine (HL.out _ HRP.out).mono ?_
  rintro e w1 ⟨hr1, hm1, hcase⟩
  generalize hR : r.turn b l = R at hr1 hcase
  have HRE := Lib.hid hR
  have HR1 := Lib.hid hr1
  have hrz : w1.heap[w.heap.size + 1]? = some (.cells zeroM.cells 51 (0, 0)) := (hm1.block _ HS0.out.2 (by omega)).trans HR0.out
  have HRZ := Lib.hid hrz
  have HM1 := Lib.hid (show Mod (fun b => b = p) w w1 from ((Mod.of_below HB0.out).trans hm1 (fun _ _ h => h)))
  clear hr1 hm1 hrz hR
  rcases hcase with ⟨hst, rfl⟩ | ⟨hst, hq, rfl⟩ | ⟨hst, hq, rfl⟩
  · go_wp2_with (refine wpList_store_row rfl 51 (.tmp 5) (.tmp 23) rfl (w.heap.size + 1) zeroM.cells rfl rfl 51 _ HRZ.out (by kernel_rfl) rfl (Ms.one _) ?_)
    refine bodyPost_ret (v := .tuple #[.int .i64 1, zeroM.val]) (results_tmp_cell2 (fn := Tryz.f21) rfl _ _ (w.heap.size + 1) 51 zeroM.cells (0, 0) _ _ rfl rfl (setRow_heap _ _ _ _ _ _ HRZ.out) Tryz.underlying51 rfl (by kernel_rfl)) rfl ?_
    rw [HRE.out]
    exact ⟨HR1.out.keep (setRow_other _ _ _ _ (by omega)), mod_row HM1.out (by omega) _, .inl ⟨hst, rfl⟩⟩
  · have HQ := Lib.hid hq
    clear hq
    have hrange : w1.rangeAt p (140 + s % 8 * 17 + 1) (repM b s (R.slots (s % 8)).id).cells.toList := by
      intro j v hj
      have h16 : j < 16 := (List.getElem?_eq_some_iff.1 hj).1
      have := HR1.out.slot (Nat.mod_lt s (show 0 < 8 by omega)) (i := j + 1) (by omega)
      rw [show 140 + s % 8 * 17 + 1 + j = 140 + s % 8 * 17 + (j + 1) from by omega, this]
      have hb : R.boot = b := HRE.out ▸ hbt.out
      have e : slotCells R.boot (R.slots (s % 8)) = .int .i64 (s : Int) :: (repM b s (R.slots (s % 8)).id).cells.toList := by
        unfold slotCells Sl.msg
        rw [HQ.out, if_neg (by omega), hb]
      rw [e]
      exact hj
    have HRG := Lib.hid hrange
    clear hrange
    go_wp2_with (refine wpList_load_mid rfl 51 (.tmp 19) rfl p (140 + s % 8 * 17 + 1) rfl (repM b s (R.slots (s % 8)).id).cells.toList _ HRG.out Tryz.underlying51 rfl (by kernel_rfl) ?_)
    refine (twin_any (repM b s (R.slots (s % 8)).id) _).mono ?_
    rintro e w2 ⟨rfl, hb2⟩
    have HR2 := Lib.hid (HR1.out.below hb2)
    have HM2 := Lib.hid (HM1.out.below hb2)
    have HRZ2 := Lib.hid ((hb2.block _ (lt_of_heap HRZ.out)).trans HRZ.out)
    clear hb2
    go_wp2_with (refine wpList_store_row rfl 51 (.tmp 5) (.tmp 21) rfl (w.heap.size + 1) (repM b s (R.slots (s % 8)).id).cells rfl rfl 51 _ HRZ2.out (by kernel_rfl) rfl (Ms.one _) ?_)
    refine bodyPost_ret (v := .tuple #[.int .i64 2, (repM b s (R.slots (s % 8)).id).val]) (results_tmp_cell2 (fn := Tryz.f21) rfl _ _ (w.heap.size + 1) 51 (repM b s (R.slots (s % 8)).id).cells (0, 0) _ _ rfl rfl (setRow_heap _ _ _ _ _ _ HRZ2.out) Tryz.underlying51 rfl (by kernel_rfl)) rfl ?_
    rw [HRE.out]
    exact ⟨HR2.out.keep (setRow_other _ _ _ _ (by omega)), mod_row HM2.out (by omega) _, .inr (.inl ⟨hst, HQ.out, rfl⟩)⟩
  · have HQ := Lib.hid hq
    clear hq
    go_wp2_with (refine wpList_store_row rfl 51 (.tmp 5) (.tmp 23) rfl (w.heap.size + 1) zeroM.cells rfl rfl 51 _ HRZ.out (by kernel_rfl) rfl (Ms.one _) ?_)
    refine bodyPost_ret (v := .tuple #[.int .i64 3, zeroM.val]) (results_tmp_cell2 (fn := Tryz.f21) rfl _ _ (w.heap.size + 1) 51 zeroM.cells (0, 0) _ _ rfl rfl (setRow_heap _ _ _ _ _ _ HRZ.out) Tryz.underlying51 rfl (by kernel_rfl)) rfl ?_
    rw [HRE.out]
    exact ⟨HR1.out.keep (setRow_other _ _ _ _ (by omega)), mod_row HM1.out (by omega) _, .inr (.inr ⟨hst, HQ.out, rfl⟩)⟩
end Go.Proofs.YtaelbgjcoakdlaaGreat
