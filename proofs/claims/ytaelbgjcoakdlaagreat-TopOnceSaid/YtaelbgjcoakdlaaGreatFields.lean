/- fields: the lists of fields of the two messages that there are. -/
import Derived.Test.YtaelbgjcoakdlaaGreatFine
import Derived.Deep.AppendLies
namespace Go.Proofs.YtaelbgjcoakdlaaGreat
open Go.RowKit

theorem Tryz.infoF : (Tryz.prog.info? 116).map (fun i => (i.zero, i.size, i.bytes)) = some (some (.agg #[.nilFunc, .nilFunc, .nilFunc]), 3, 24) := by kernel_rfl
/-- The cells cs are those of these fields. -/
def FCells (w : World) (G : Nat → Prop) (cs : List Value) (ks : List FK) : Prop :=
  cs.length = ks.length * 3 ∧ ∀ (j : Nat) (k : FK), ks[j]? = some k → ∃ c0 c1 c2, cs[j * 3]? = some c0 ∧ cs[j * 3 + 1]? = some c1 ∧ cs[j * 3 + 2]? = some c2 ∧ FieldV w G k c0 c1 c2
def FieldsV (w : World) (G : Nat → Prop) (v : Value) (ks : List FK) : Prop :=
  ∃ cs, w.ownsRow 0 116 3 v ks.length cs ∧ (∀ g, v.ownBlock = some g → G g) ∧ FCells w G cs ks
section
variable {w w' : World} {G G' : Nat → Prop} {k : FK} {v c0 c1 c2 : Value} {cs ds : List Value} {ks js : List FK}
theorem FCells.nil : FCells w G [] [] := ⟨rfl, fun j k h => by simp at h⟩
theorem FCells.cons (h : FieldV w G k c0 c1 c2) (h' : FCells w G cs ks) : FCells w G (c0 :: c1 :: c2 :: cs) (k :: ks) := by
  refine ⟨by simp [h'.1]; omega, fun j k' hk => ?_⟩
  cases j with
  | zero =>
    obtain rfl : k = k' := by simpa using hk
    exact ⟨c0, c1, c2, rfl, rfl, rfl, h⟩
  | succ j =>
    obtain ⟨d0, d1, d2, e0, e1, e2, e3⟩ := h'.2 j k' (by simpa using hk)
    refine ⟨d0, d1, d2, ?_, ?_, ?_, e3⟩
    · rw [show (j + 1) * 3 = j * 3 + 3 from by omega]; simpa using e0
    · rw [show (j + 1) * 3 + 1 = j * 3 + 1 + 3 from by omega]; simpa using e1
    · rw [show (j + 1) * 3 + 2 = j * 3 + 2 + 3 from by omega]; simpa using e2
theorem FCells.append (h : FCells w G cs ks) (h' : FCells w G ds js) : FCells w G (cs ++ ds) (ks ++ js) := by
  refine ⟨by rw [List.length_append, List.length_append, h.1, h'.1]; omega, fun j k hk => ?_⟩
  have hl := h.1
  rcases Nat.lt_or_ge j ks.length with hj | hj
  · rw [List.getElem?_append_left hj] at hk
    obtain ⟨d0, d1, d2, e0, e1, e2, e3⟩ := h.2 j k hk
    refine ⟨d0, d1, d2, ?_, ?_, ?_, e3⟩ <;> rw [List.getElem?_append_left (by omega)] <;> assumption
  · rw [List.getElem?_append_right hj] at hk
    obtain ⟨d0, d1, d2, e0, e1, e2, e3⟩ := h'.2 _ k hk
    refine ⟨d0, d1, d2, ?_, ?_, ?_, e3⟩
    · rw [List.getElem?_append_right (by omega), show j * 3 - cs.length = (j - ks.length) * 3 from by omega]; exact e0
    · rw [List.getElem?_append_right (by omega), show j * 3 + 1 - cs.length = (j - ks.length) * 3 + 1 from by omega]; exact e1
    · rw [List.getElem?_append_right (by omega), show j * 3 + 2 - cs.length = (j - ks.length) * 3 + 2 from by omega]; exact e2
theorem FCells.keep (h : FCells w G cs ks) (hk : ∀ b, G b → b < w.heap.size → w'.heap[b]? = w.heap[b]?) (hG : ∀ b, G b → b < w.heap.size → G' b) : FCells w' G' cs ks :=
  ⟨h.1, fun j k hj => by obtain ⟨d0, d1, d2, e0, e1, e2, e3⟩ := h.2 j k hj; exact ⟨d0, d1, d2, e0, e1, e2, e3.keep hk hG⟩⟩
theorem FCells.below (h : FCells w G cs ks) (hb : Below w.heap.size w w') : FCells w' G cs ks := h.keep (fun b _ hl => hb.block b hl) (fun _ g _ => g)
theorem FieldsV.keep (h : FieldsV w G v ks) (hk : ∀ b, G b → b < w.heap.size → w'.heap[b]? = w.heap[b]?) : FieldsV w' G v ks := by
  obtain ⟨cs, h1, h2, h3⟩ := h
  exact ⟨cs, ownsRow_keep h1 (fun g hg => hk g (h2 g hg) (h1.lt g hg).2), h2, h3.keep hk (fun _ g _ => g)⟩
theorem FieldsV.below (h : FieldsV w G v ks) (hb : Below w.heap.size w w') : FieldsV w' G v ks := h.keep (fun b _ hl => hb.block b hl)
theorem FieldsV.form (h : FieldsV w G v ks) : ∃ a c, v = .slice a ks.length c := by
  obtain ⟨cs, h1, _⟩ := h
  exact own_slice h1
/-- Field j: where it lies. -/
theorem FieldsV.at_ (h : FieldsV w G v ks) {j : Nat} (hj : ks[j]? = some k) : ∃ g c c0 c1 c2, v = .slice (some ⟨g, 0, none⟩) ks.length c ∧ G g ∧ g < w.heap.size ∧ ks.length ≤ c ∧ c ≤ maxLen ∧
    w.cell? ⟨g, j * 3, none⟩ = some c0 ∧ w.cell? ⟨g, j * 3 + 1, none⟩ = some c1 ∧ w.cell? ⟨g, j * 3 + 2, none⟩ = some c2 ∧ FieldV w G k c0 c1 c2 := by
  obtain ⟨cs, ⟨hl, h1⟩, h2, h3⟩ := h
  obtain ⟨c0, c1, c2, e0, e1, e2, e3⟩ := h3.2 j k hj
  have hj' := (List.getElem?_eq_some_iff.1 hj).1
  rcases h1 with ⟨_, h0⟩ | ⟨g, cap, cur, rfl, _, hh, hnc, hcm, hcs, ht⟩
  · omega
  · have hc : ∀ i u, cs[i]? = some u → i < ks.length * 3 → w.cell? ⟨g, i, none⟩ = some u := fun i u hu hi => by
      rw [blk_cell hh, ← Array.getElem?_toList, ← List.getElem?_take_of_lt (l := cur.toList) hi, ht, hu]
    exact ⟨g, cap, c0, c1, c2, rfl, h2 g rfl, lt_of_heap hh, hnc, hcm, hc _ _ e0 (by omega), hc _ _ e1 (by omega), hc _ _ e2 (by omega), e3⟩
end
theorem FieldsV.tight {w : World} {G : Nat → Prop} {v : Value} {ks : List FK} (h : FieldsV w G v ks) : FieldsV w (fun b => G b ∧ b < w.heap.size) v ks := by
  obtain ⟨cs, h1, h2, h3⟩ := h
  exact ⟨cs, h1, fun g hg => ⟨h2 g hg, (h1.lt g hg).2⟩, h3.keep (fun _ _ _ => rfl) (fun b g hl => ⟨g, hl⟩)⟩
/-- A new list of fields. -/
def NewFields (w : World) (ks : List FK) (e : Ending) (w' : World) : Prop := ∃ v, e = .returned v ∧ FieldsV w' (fun b => w.heap.size ≤ b) v ks ∧ Below w.heap.size w w'
theorem own_laid {w : World} {base g n : Nat} {e : TypeId} {s : Nat} {xs : List Value} (hb : base ≤ g) (h : w.heap[g]? = some (.cells xs.toArray e (0, 0))) (hn : xs.length = n * s) (hm : n ≤ maxLen) : w.ownsRow base e s (.slice (some ⟨g, 0, none⟩) n n) n xs :=
  ⟨hn, Or.inr ⟨g, n, xs.toArray, rfl, hb, h, Nat.le_refl _, hm, by simp [hn], by rw [← hn]; exact List.take_of_length_le (Nat.le_refl _)⟩⟩
theorem fcells_one {w : World} {G : Nat → Prop} {cs : List Value} {ks : List FK} (h : FCells w G cs ks) : ∀ u ∈ cs, u.oneCell' = true := by
  intro u hu
  obtain ⟨i, hu2⟩ := List.getElem?_of_mem hu
  have hi := (List.getElem?_eq_some_iff.1 hu2).1
  have hl := h.1
  obtain ⟨j, r, hr, rfl⟩ : ∃ j r, r < 3 ∧ i = j * 3 + r := ⟨i / 3, i % 3, Nat.mod_lt _ (by omega), by omega⟩
  obtain ⟨k, hk⟩ : ∃ k, ks[j]? = some k := ⟨_, List.getElem?_eq_getElem (by omega)⟩
  obtain ⟨c0, c1, c2, e0, e1, e2, e3⟩ := h.2 j k hk
  obtain ⟨f0, a0, f1, a1, f2, a2, rfl, rfl, rfl⟩ := e3.form
  rcases (show r = 0 ∨ r = 1 ∨ r = 2 from by omega) with rfl | rfl | rfl
  · rw [Nat.add_zero, e0] at hu2; injection hu2 with hu2; rw [← hu2]; rfl
  · rw [e1] at hu2; injection hu2 with hu2; rw [← hu2]; rfl
  · rw [e2] at hu2; injection hu2 with hu2; rw [← hu2]; rfl

theorem asked3_any (w : World) : Calls Tryz.prog 63 #[.int .i64 3] w (NewFields w [.id]) := by
  go_enter Tryz.func63, Tryz.ntmps63
  go_wp2_with fail
  refine (counter_any .id _).mono ?_
  rintro e w1 ⟨c0, c1, c2, rfl, hn, hc, hb⟩
  have HF := Lib.hid (show FieldV w1 (fun b => w.heap.size ≤ b) .id c0 c1 c2 from ⟨hn, hc⟩)
  obtain ⟨f0, a0, f1, a1, f2, a2, rfl, rfl, rfl⟩ := HF.out.form
  have HB := Lib.hid hb
  clear hn hc hb
  go_wp2_with fail
  go_ret
  refine ⟨_, rfl, ⟨_, own_laid (xs := [.func (.func f0) #[] a0, .func (.func f1) #[] a1, .func (.func f2) #[] a2]) (Nat.zero_le _) (heap_at _ _ _ rfl) rfl (by decide), fun g hg => ?_, .cons (HF.out.below ((Below.refl _ _).alloc (Nat.le_refl _) _)) .nil⟩, HB.out.alloc HB.out.size _⟩
  obtain rfl : w1.heap.size = g := by simpa [Value.ownBlock] using hg
  exact HB.out.size
theorem asked0_any (w : World) : Calls Tryz.prog 63 #[.int .i64 0] w (NewFields w [.bad]) := by
  go_enter Tryz.func63, Tryz.ntmps63
  go_wp2_with fail
  go_ret
  refine ⟨_, rfl, ⟨_, own_laid (xs := [.func (.func 94) #[] #[], .func (.func 95) #[] #[], .func (.func 96) #[] #[]]) (Nat.zero_le _) (heap_at _ _ _ rfl) rfl (by decide), fun g hg => ?_, .cons ⟨rfl, rfl, rfl⟩ .nil⟩, (Below.refl _ _).alloc (Nat.le_refl _) _⟩
  obtain rfl : w.heap.size = g := by simpa [Value.ownBlock] using hg
  exact Nat.le_refl _
theorem own_zero {w : World} {base : Nat} {e : TypeId} {size n : Nat} {v : Value} {xs : List Value} (h : w.ownsRow base e size v n xs) : w.ownsRow 0 e size v n xs := by
  obtain ⟨h1, h2 | ⟨d, cap, cur, rfl, hb, r⟩⟩ := h
  · exact ⟨h1, .inl h2⟩
  · exact ⟨h1, .inr ⟨d, cap, cur, rfl, Nat.zero_le _, r⟩⟩
theorem head_row {w w4 w5 : World} {hd : List Value} {n : Nat} (hb4 : Below w.heap.size w w4) (hb5 : Below (w4.alloc (.cells hd.toArray 116)).heap.size (w4.alloc (.cells hd.toArray 116)) w5) (hl : hd.length = n * 3) (hn : n ≤ maxLen) :
    w5.ownsRow w.heap.size 116 3 (.slice (some ⟨w4.heap.size, 0, none⟩) n n) n hd :=
  ownsRow_keep (own_laid hb4.size (heap_at w4 _ _ rfl) hl hn) (fun g hg => by
    obtain rfl : w4.heap.size = g := by simpa [Value.ownBlock] using hg
    exact hb5.block _ (by simp))
/-- The end of fields: a head, and what is put behind it. -/
theorem fields_join {w w4 w5 w6 : World} {hd cs : List Value} {ks js : List FK} {g6 cap cap6 n m : Nat}
    (h4 : FCells w4 (fun b => w.heap.size ≤ b) hd ks) (hb4 : Below w.heap.size w w4) (hc5 : FCells w5 (fun b => (w4.alloc (.cells hd.toArray 116)).heap.size ≤ b) cs js) (hb5 : Below (w4.alloc (.cells hd.toArray 116)).heap.size (w4.alloc (.cells hd.toArray 116)) w5)
    (hn : n = ks.length) (hm : m = js.length) (hown : w6.ownsRow w.heap.size 116 3 (.slice (some ⟨g6, 0, none⟩) (n + m) cap6) (n + m) (hd ++ cs)) (hgrow : w5.grownBy w6 (Value.slice (some ⟨w4.heap.size, 0, none⟩) n cap).ownBlock) :
    FieldsV w6 (fun b => w.heap.size ≤ b) (.slice (some ⟨g6, 0, none⟩) (n + m) cap6) (ks ++ js) ∧ Below w.heap.size w w6 := by
  subst hn hm
  have hs4 := hb4.size
  have hs5 := hb5.size
  have ha : w4.heap.size + 1 = (w4.alloc (.cells hd.toArray 116)).heap.size := by simp
  have hB5 : Below w.heap.size w w5 := (hb4.alloc hs4 _).trans (hb5.mono (by omega))
  have hB6 : Below w.heap.size w w6 := hB5.grown hgrow hB5.size (fun k e => by
    obtain rfl : w4.heap.size = k := by simpa [Value.ownBlock] using e
    exact hs4)
  refine ⟨⟨_, by rw [List.length_append]; exact own_zero hown, fun g hg => ?_, (h4.keep (w' := w6) (fun b hb hl => ?_) (fun _ g _ => g)).append (hc5.keep (w' := w6) (fun b hb hl => ?_) (fun b hb _ => by omega))⟩, hB6⟩
  · exact (hown.lt g hg).1
  · refine (hgrow.block b (by omega) (fun e => ?_)).trans ((hb5.block b (by omega)).trans (heap_past w4 _ b hl))
    obtain rfl : b = w4.heap.size := by simpa [Value.ownBlock] using e
    omega
  · refine hgrow.block b hl (fun e => ?_)
    obtain rfl : b = w4.heap.size := by simpa [Value.ownBlock] using e
    omega
/-- The fields of a message, as far as they are known. -/
def kinds (m : Ms) : List FK := if m.kind = 1 then [.boot, .seq, .low, .verb] ++ (if m.verb = 3 then [.id] else [.bad]) else [.boot, .seq, .code] ++ [.id, .term, .stamp]
/-- The messages that are read and written: an Ask to release (its verb not yet read, perhaps), a Reply that is OK. -/
def Kn (m : Ms) : Prop := (m.kind = 1 ∧ (m.verb = 3 ∨ m.verb = 0)) ∨ (m.kind = 2 ∧ m.code = 0)

set_option maxRecDepth 100000 in
set_option maxHeartbeats 2000000 in
theorem fieldsAsk_any (pm : Nat) (m : Ms) (w : World) (hm : MsgAt w pm m) (h1 : m.kind = 1) (hv : m.verb = 3 ∨ m.verb = 0) :
    Calls Tryz.prog 42 #[.pointer (some ⟨pm, 0, none⟩)] w (NewFields w (kinds m)) := by
  obtain ⟨iF, hiF, hz0, hz1, hz2⟩ := info_parts Tryz.infoF
  have cm0 : w.cell? ⟨pm, 0, none⟩ = some (.int .i64 1) := by rw [← h1]; exact blk_cell hm 0
  have HM := Lib.hid hm
  clear hm
  go_enter Tryz.func42, Tryz.ntmps42
  go_wp2_with fail
  refine (counter_any .boot _).mono ?_
  rintro e w1 ⟨a0, a1, a2, rfl, hn, hc, hb1⟩
  have F1 := Lib.hid (show FieldV w1 (fun b => w.heap.size ≤ b) .boot a0 a1 a2 from ⟨hn, hc⟩)
  obtain ⟨f0, x0, f1, x1, f2, x2, rfl, rfl, rfl⟩ := F1.out.form
  have B1 := Lib.hid hb1
  clear hn hc hb1
  go_wp2_with fail
  refine (counter_any .seq _).mono ?_
  rintro e w2 ⟨b0, b1, b2, rfl, hn, hc, hb2⟩
  have F2 := Lib.hid (show FieldV w2 (fun b => w1.heap.size ≤ b) .seq b0 b1 b2 from ⟨hn, hc⟩)
  obtain ⟨f3, x3, f4, x4, f5, x5, rfl, rfl, rfl⟩ := F2.out.form
  have B2 := Lib.hid hb2
  clear hn hc hb2
  go_wp2_with fail
  refine (number_any .low _ _ _).mono ?_
  rintro e w3 ⟨c0, c1, rfl, hn, hb3⟩
  have F3 := Lib.hid (show FieldV w3 (fun b => w2.heap.size ≤ b) .low c0 c1 (.func (.func 54) #[] #[]) from ⟨hn, rfl⟩)
  obtain ⟨f6, x6, f7, x7, _, _, rfl, rfl, _⟩ := F3.out.form
  have B3 := Lib.hid hb3
  clear hn hb3
  go_wp2_with fail
  refine (castVerb_any _).mono ?_
  rintro e w4 ⟨d0, d1, d2, rfl, hn, hb4⟩
  have F4 := Lib.hid hn
  obtain ⟨f9, x9, f10, x10, f11, x11, rfl, rfl, rfl⟩ := F4.out.form
  have B4 := Lib.hid hb4
  have hs1 := B1.out.size
  have hs2 := B2.out.size
  have hs3 := B3.out.size
  have hs4 := hb4.size
  have BB := Lib.hid (below_step B1.out (below_step B2.out (below_step B3.out B4.out)))
  have HC : Hid (FCells w4 (fun b => w.heap.size ≤ b) [.func (.func f0) #[] x0, .func (.func f1) #[] x1, .func (.func f2) #[] x2, .func (.func f3) #[] x3, .func (.func f4) #[] x4, .func (.func f5) #[] x5, .func (.func f6) #[] x6, .func (.func f7) #[] x7, .func (.func 54) #[] #[], .func (.func f9) #[] x9, .func (.func f10) #[] x10, .func (.func f11) #[] x11] [.boot, .seq, .low, .verb]) :=
    Lib.hid (.cons (F1.out.keep (fun b _ hl => (below_step B2.out (below_step B3.out B4.out)).block b hl) (fun b g _ => g)) (.cons (F2.out.keep (fun b _ hl => (below_step B3.out B4.out).block b hl) (fun b g _ => by omega)) (.cons (F3.out.keep (fun b _ hl => B4.out.block b hl) (fun b g _ => by omega)) (.cons (F4.out.keep (fun b _ _ => rfl) (fun b g _ => by omega)) .nil))))
  have hm4 := HM.out.below BB.out
  have cm6 : w4.cell? ⟨pm, 6, none⟩ = some (.int .i64 m.verb) := blk_cell hm4 6
  have hpm : pm < w4.heap.size := hm4.lt
  clear hn hb4 hm4
  rcases hv with hv | hv
  · rw [hv] at cm6
    go_wp2_with fail
    refine (asked3_any _).mono ?_
    rintro e w5 ⟨va, rfl, ⟨cs5, ho5, hg5, hc5⟩, hb5⟩
    obtain ⟨g5, cap5, rfl, _, hlt5⟩ := ho5.form (by decide)
    have HO5 := Lib.hid ho5
    have HC5 := Lib.hid hc5
    have HB5 := Lib.hid hb5
    have HH := Lib.hid (head_row (n := 4) BB.out HB5.out rfl (by decide))
    have HL5 := Lib.hid HC5.out.1
    have HK5 := Lib.hid (HO5.out.cells (g := g5) rfl)
    have H15 := Lib.hid (fcells_one HC5.out)
    have hs5 : w4.heap.size + 1 ≤ w5.heap.size := by have := hb5.size; simpa using this
    clear ho5 hc5 hb5 hg5
    go_wp2_with (at_builtin; first | (refine wpList_append_lies _ rfl (.tmp 18) (.tmp 23) _ rfl w.heap.size 116 iF _ 3 24 Tryz.underlying109 hiF hz0 hz1 hz2 rfl (by omega) (.slice (some ⟨w4.heap.size, 0, none⟩) 4 4) 4 _ rfl HH.out ⟨g5, 0, none⟩ 1 cap5 cs5 rfl HL5.out HK5.out H15.out (by omega) (by decide) (by omega) (by omega) _ rfl ?_; intro g6 cap6 w6 hown6 hgrow6 hat6 hlt6; have HJ := Lib.hid (fields_join HC.out BB.out HC5.out HB5.out rfl rfl hown6 hgrow6); clear hown6 hgrow6 hat6 hlt6))
    go_ret
    refine ⟨_, rfl, ?_, HJ.out.2⟩
    have := HJ.out.1
    unfold kinds
    rw [if_pos h1, hv]
    exact this
  · rw [hv] at cm6
    go_wp2_with fail
    refine (asked0_any _).mono ?_
    rintro e w5 ⟨va, rfl, ⟨cs5, ho5, hg5, hc5⟩, hb5⟩
    obtain ⟨g5, cap5, rfl, _, hlt5⟩ := ho5.form (by decide)
    have HO5 := Lib.hid ho5
    have HC5 := Lib.hid hc5
    have HB5 := Lib.hid hb5
    have HH := Lib.hid (head_row (n := 4) BB.out HB5.out rfl (by decide))
    have HL5 := Lib.hid HC5.out.1
    have HK5 := Lib.hid (HO5.out.cells (g := g5) rfl)
    have H15 := Lib.hid (fcells_one HC5.out)
    have hs5 : w4.heap.size + 1 ≤ w5.heap.size := by have := hb5.size; simpa using this
    clear ho5 hc5 hb5 hg5
    go_wp2_with (at_builtin; first | (refine wpList_append_lies _ rfl (.tmp 18) (.tmp 23) _ rfl w.heap.size 116 iF _ 3 24 Tryz.underlying109 hiF hz0 hz1 hz2 rfl (by omega) (.slice (some ⟨w4.heap.size, 0, none⟩) 4 4) 4 _ rfl HH.out ⟨g5, 0, none⟩ 1 cap5 cs5 rfl HL5.out HK5.out H15.out (by omega) (by decide) (by omega) (by omega) _ rfl ?_; intro g6 cap6 w6 hown6 hgrow6 hat6 hlt6; have HJ := Lib.hid (fields_join HC.out BB.out HC5.out HB5.out rfl rfl hown6 hgrow6); clear hown6 hgrow6 hat6 hlt6))
    go_ret
    refine ⟨_, rfl, ?_, HJ.out.2⟩
    have := HJ.out.1
    unfold kinds
    rw [if_pos h1, hv]
    exact this
set_option maxRecDepth 100000 in
set_option maxHeartbeats 2000000 in
theorem fieldsReply_any (pm : Nat) (m : Ms) (w : World) (hm : MsgAt w pm m) (h1 : m.kind = 2) (hv : m.code = 0) :
    Calls Tryz.prog 42 #[.pointer (some ⟨pm, 0, none⟩)] w (NewFields w (kinds m)) := by
  obtain ⟨iF, hiF, hz0, hz1, hz2⟩ := info_parts Tryz.infoF
  have cm0 : w.cell? ⟨pm, 0, none⟩ = some (.int .i64 2) := by rw [← h1]; exact blk_cell hm 0
  have HM := Lib.hid hm
  clear hm
  go_enter Tryz.func42, Tryz.ntmps42
  go_wp2_with fail
  refine (counter_any .boot _).mono ?_
  rintro e w1 ⟨a0, a1, a2, rfl, hn, hc, hb1⟩
  have F1 := Lib.hid (show FieldV w1 (fun b => w.heap.size ≤ b) .boot a0 a1 a2 from ⟨hn, hc⟩)
  obtain ⟨f0, x0, f1, x1, f2, x2, rfl, rfl, rfl⟩ := F1.out.form
  have B1 := Lib.hid hb1
  clear hn hc hb1
  go_wp2_with fail
  refine (counter_any .seq _).mono ?_
  rintro e w2 ⟨b0, b1, b2, rfl, hn, hc, hb2⟩
  have F2 := Lib.hid (show FieldV w2 (fun b => w1.heap.size ≤ b) .seq b0 b1 b2 from ⟨hn, hc⟩)
  obtain ⟨f3, x3, f4, x4, f5, x5, rfl, rfl, rfl⟩ := F2.out.form
  have B2 := Lib.hid hb2
  clear hn hc hb2
  go_wp2_with fail
  refine (castCode_any _).mono ?_
  rintro e w4 ⟨d0, d1, d2, rfl, hn, hb4⟩
  have F4 := Lib.hid hn
  obtain ⟨f9, x9, f10, x10, f11, x11, rfl, rfl, rfl⟩ := F4.out.form
  have B4 := Lib.hid hb4
  have hs1 := B1.out.size
  have hs2 := B2.out.size
  have hs4 := hb4.size
  have BB := Lib.hid (below_step B1.out (below_step B2.out B4.out))
  have HC : Hid (FCells w4 (fun b => w.heap.size ≤ b) [.func (.func f0) #[] x0, .func (.func f1) #[] x1, .func (.func f2) #[] x2, .func (.func f3) #[] x3, .func (.func f4) #[] x4, .func (.func f5) #[] x5, .func (.func f9) #[] x9, .func (.func f10) #[] x10, .func (.func f11) #[] x11] [.boot, .seq, .code]) :=
    Lib.hid (.cons (F1.out.keep (fun b _ hl => (below_step B2.out B4.out).block b hl) (fun b g _ => g)) (.cons (F2.out.keep (fun b _ hl => B4.out.block b hl) (fun b g _ => by omega)) (.cons (F4.out.keep (fun b _ _ => rfl) (fun b g _ => by omega)) .nil)))
  have hm4 := HM.out.below BB.out
  have cm12 : w4.cell? ⟨pm, 12, none⟩ = some (.int .i64 0) := by rw [← hv]; exact blk_cell hm4 12
  have hpm : pm < w4.heap.size := hm4.lt
  clear hn hb4 hm4
  go_wp2_with fail
  refine (counter_any .id _).mono ?_
  rintro e w5 ⟨e0, e1, e2, rfl, hn, hc, hb5⟩
  have F5 := Lib.hid (show FieldV w5 _ .id e0 e1 e2 from ⟨hn, hc⟩)
  obtain ⟨g0, y0, g1, y1, g2, y2, rfl, rfl, rfl⟩ := F5.out.form
  have B5 := Lib.hid hb5
  clear hn hc hb5
  go_wp2_with fail
  refine (number_any .term _ _ _).mono ?_
  rintro e w6 ⟨c0, c1, rfl, hn, hb6⟩
  have F6 := Lib.hid (show FieldV w6 (fun b => w5.heap.size ≤ b) .term c0 c1 (.func (.func 69) #[] #[]) from ⟨hn, rfl⟩)
  obtain ⟨g3, y3, g4, y4, _, _, rfl, rfl, _⟩ := F6.out.form
  have B6 := Lib.hid hb6
  clear hn hb6
  go_wp2_with fail
  refine (stamp_any _).mono ?_
  rintro e w7 ⟨i0, i1, i2, rfl, hn, hb7⟩
  have F7 := Lib.hid hn
  obtain ⟨g6, y6, g7, y7, g8, y8, rfl, rfl, rfl⟩ := F7.out.form
  have B7 := Lib.hid hb7
  have hs5 : w4.heap.size + 1 ≤ w5.heap.size := by have := B5.out.size; simpa using this
  have hs6 := B6.out.size
  have hs7 := hb7.size
  have HA := Lib.hid (show (w4.alloc (.cells #[.func (.func f0) #[] x0, .func (.func f1) #[] x1, .func (.func f2) #[] x2, .func (.func f3) #[] x3, .func (.func f4) #[] x4, .func (.func f5) #[] x5, .func (.func f9) #[] x9, .func (.func f10) #[] x10, .func (.func f11) #[] x11] 116)).heap.size = w4.heap.size + 1 from by simp)
  have BT := Lib.hid (B5.out.trans ((below_step B6.out B7.out).mono B5.out.size))
  have HC7 : Hid (FCells w7 (fun b => (w4.alloc (.cells #[.func (.func f0) #[] x0, .func (.func f1) #[] x1, .func (.func f2) #[] x2, .func (.func f3) #[] x3, .func (.func f4) #[] x4, .func (.func f5) #[] x5, .func (.func f9) #[] x9, .func (.func f10) #[] x10, .func (.func f11) #[] x11] 116)).heap.size ≤ b) [.func (.func g0) #[] y0, .func (.func g1) #[] y1, .func (.func g2) #[] y2, .func (.func g3) #[] y3, .func (.func g4) #[] y4, .func (.func 69) #[] #[], .func (.func g6) #[] y6, .func (.func g7) #[] y7, .func (.func g8) #[] y8] [.id, .term, .stamp]) :=
    Lib.hid (.cons (F5.out.keep (fun b _ hl => (below_step B6.out B7.out).block b hl) (fun b g _ => g)) (.cons (F6.out.keep (fun b _ hl => B7.out.block b hl) (fun b g _ => by rw [HA.out]; omega)) (.cons (F7.out.keep (fun b _ _ => rfl) (fun b g _ => by rw [HA.out]; omega)) .nil)))
  have HC8 := Lib.hid (HC7.out.below (w' := w7.alloc (.cells #[.func (.func g0) #[] y0, .func (.func g1) #[] y1, .func (.func g2) #[] y2, .func (.func g3) #[] y3, .func (.func g4) #[] y4, .func (.func 69) #[] #[], .func (.func g6) #[] y6, .func (.func g7) #[] y7, .func (.func g8) #[] y8] 116)) ((Below.refl _ _).alloc (Nat.le_refl _) _))
  have BT8 := Lib.hid (BT.out.alloc BT.out.size (.cells #[.func (.func g0) #[] y0, .func (.func g1) #[] y1, .func (.func g2) #[] y2, .func (.func g3) #[] y3, .func (.func g4) #[] y4, .func (.func 69) #[] #[], .func (.func g6) #[] y6, .func (.func g7) #[] y7, .func (.func g8) #[] y8] 116))
  have HH := Lib.hid (head_row (n := 3) BB.out BT8.out rfl (by decide))
  have H18 := Lib.hid (fcells_one HC8.out)
  clear hn hb7
  go_wp2_with (at_builtin; first | (refine wpList_append_lies _ rfl (.tmp 37) (.tmp 41) _ rfl w.heap.size 116 iF _ 3 24 Tryz.underlying109 hiF hz0 hz1 hz2 rfl (by omega) (.slice (some ⟨w4.heap.size, 0, none⟩) 3 3) 3 _ rfl HH.out ⟨w7.heap.size, 0, none⟩ 3 3 [.func (.func g0) #[] y0, .func (.func g1) #[] y1, .func (.func g2) #[] y2, .func (.func g3) #[] y3, .func (.func g4) #[] y4, .func (.func 69) #[] #[], .func (.func g6) #[] y6, .func (.func g7) #[] y7, .func (.func g8) #[] y8] rfl rfl (World.news_of_block (heap_at _ _ _ rfl)) H18.out (by omega) (by decide) (by omega) (by simp; omega) _ rfl ?_; intro g9 cap6 w9 hown6 hgrow6 hat6 hlt6; have HJ := Lib.hid (fields_join HC.out BB.out HC8.out BT8.out rfl rfl hown6 hgrow6); clear hown6 hgrow6 hat6 hlt6))
  go_ret
  refine ⟨_, rfl, ?_, HJ.out.2⟩
  have := HJ.out.1
  unfold kinds
  rw [if_neg (by omega)]
  exact this
theorem fields_any (pm : Nat) (m : Ms) (w : World) (hm : MsgAt w pm m) (hk : Kn m) :
    Calls Tryz.prog 42 #[.pointer (some ⟨pm, 0, none⟩)] w (NewFields w (kinds m)) := by
  rcases hk with ⟨h1, h2⟩ | ⟨h1, h2⟩
  · exact fieldsAsk_any pm m w hm h1 h2
  · exact fieldsReply_any pm m w hm h1 h2
end Go.Proofs.YtaelbgjcoakdlaaGreat
