/- The open calls: the map's elements, the state, the plain law of the lowest.  Calls: Low, Get. -/
import Derived.Test.YtaelbgjcoakdlaaGreatCode
import Derived.Maps.RangeWalk
namespace Go.Proofs.YtaelbgjcoakdlaaGreat
open Go.RowKit Go.Maps

/-- A call of this law: to 0, Release, of the grant 9. -/
def callC (s n t : Int) : Array Value := #[.int .i64 s, .int .i64 0, .int .i64 3, .string estr, .int .i64 0, .int .i64 0, .int .i64 9, .bool false, .int .i64 n, .int .i64 t]
def callV (s : Int) : Value := .agg (callC s 5 1)
def zeroC : Array Value := #[.int .i64 0, .int .i64 0, .int .i64 0, .string estr, .int .i64 0, .int .i64 0, .int .i64 0, .bool false, .int .i64 0, .int .i64 0]
/-- How an open call reads: by its number. -/
def callElem : Value → Option (DataW Unit × List MemPlace)
  | .agg cs => match cs.toList with
    | [.int .i64 s, .int .i64 0, .int .i64 v, .string p, .int .i64 0, .int .i64 0, .int .i64 i, .bool false, .int .i64 n, .int .i64 t] =>
      if p.size = 0 ∧ ((s = 0 ∧ v = 0 ∧ i = 0 ∧ n = 0 ∧ t = 0) ∨ (s ≠ 0 ∧ v = 3 ∧ i = 9 ∧ n = 5 ∧ t = 1)) then some (.lit (.int .i64 s), []) else none
    | _ => none
  | _ => none
theorem callElem_call {s : Int} (h : s ≠ 0) : callElem (callV s) = some (.lit (.int .i64 s), []) := by
  simp [callElem, callV, callC, estr, h]
  rfl
theorem callElem_zero : callElem (.agg zeroC) = some (.lit (.int .i64 0), []) := by
  simp [callElem, zeroC, estr]
  rfl
theorem size0 {p : ByteArray} (h : p.size = 0) : p = estr := by
  obtain ⟨⟨l⟩⟩ := p
  have : l = [] := List.eq_nil_of_length_eq_zero h
  subst this
  rfl
theorem callElem_inv {v : Value} {z : DataW Unit × List MemPlace} (h : callElem v = some z) : ∃ s : Int, z = (.lit (.int .i64 s), []) ∧ ((s = 0 ∧ v = .agg zeroC) ∨ (s ≠ 0 ∧ v = callV s)) := by
  unfold callElem at h
  split at h
  · rename_i cs
    split at h
    · rename_i s v p i n t hcs
      split at h
      · rename_i hc
        obtain ⟨hp, hc⟩ := hc
        have e : cs = #[.int .i64 s, .int .i64 0, .int .i64 v, .string p, .int .i64 0, .int .i64 0, .int .i64 i, .bool false, .int .i64 n, .int .i64 t] := by
          apply Array.toList_inj.1; rw [hcs]
        rw [size0 hp] at e
        injection h with h
        refine ⟨s, h.symm, ?_⟩
        rcases hc with ⟨rfl, rfl, rfl, rfl, rfl⟩ | ⟨h0, rfl, rfl, rfl, rfl⟩
        · exact .inl ⟨rfl, by rw [e]; rfl⟩
        · exact .inr ⟨h0, by rw [e]; rfl⟩
      · cases h
    · cases h
  · cases h

structure Cl where
  boot : Nat
  next : Nat
  opn : List Nat
/-- The lowest number that is open. -/
def Cl.low (c : Cl) : Nat := c.opn.foldl min c.next
structure ClOK (c : Cl) : Prop where
  sorted : c.opn.Pairwise (· < ·)
  pos : ∀ k ∈ c.opn, 1 ≤ k ∧ k < c.next
theorem foldl_min_le (l : List Nat) : ∀ n, l.foldl min n ≤ n ∧ ∀ k ∈ l, l.foldl min n ≤ k := by
  induction l with
  | nil => intro n; exact ⟨Nat.le_refl _, fun k h => by cases h⟩
  | cons a l ih =>
    intro n
    obtain ⟨h1, h2⟩ := ih (min n a)
    refine ⟨Nat.le_trans h1 (Nat.min_le_left _ _), fun k hk => ?_⟩
    rcases List.mem_cons.1 hk with rfl | hk
    · exact Nat.le_trans h1 (Nat.min_le_right _ _)
    · exact h2 k hk
theorem foldl_min_mem (l : List Nat) : ∀ n, l.foldl min n = n ∨ l.foldl min n ∈ l := by
  induction l with
  | nil => intro n; exact .inl rfl
  | cons a l ih =>
    intro n
    rcases ih (min n a) with h | h
    · rw [List.foldl_cons, h]
      rcases Nat.le_total n a with h' | h'
      · rw [Nat.min_eq_left h']; exact .inl rfl
      · rw [Nat.min_eq_right h']; exact .inr List.mem_cons_self
    · exact .inr (List.mem_cons_of_mem _ h)
theorem Cl.low_le (c : Cl) : c.low ≤ c.next := (foldl_min_le c.opn c.next).1
theorem Cl.low_mem (c : Cl) {k : Nat} (h : k ∈ c.opn) : c.low ≤ k := (foldl_min_le c.opn c.next).2 k h
theorem Cl.low_eq {c : Cl} {x : Nat} (h1 : x ≤ c.next) (h2 : ∀ k ∈ c.opn, x ≤ k) (h3 : x = c.next ∨ x ∈ c.opn) : c.low = x := by
  apply Nat.le_antisymm
  · rcases h3 with rfl | h3
    · exact c.low_le
    · exact c.low_mem h3
  · rcases foldl_min_mem c.opn c.next with h | h
    · show x ≤ c.opn.foldl min c.next
      rw [h]; exact h1
    · exact h2 _ h

abbrev nkey (k : Int) : Lit := .int .i64 k
/-- The map as read holds these calls. -/
structure Opn (D : DataW Unit) (l : List Nat) : Prop where
  has : ∀ s : Int, Maps.has D (nkey s) = decide (∃ k ∈ l, (k : Int) = s)
  at_ : ∀ k ∈ l, ∀ z, D.atKey (nkey k) z = .lit (.int .i64 k)
  size : Maps.size D = l.length
structure CallsAt (G : Nat → Prop) (w : World) (p : Nat) (c : Cl) : Prop where
  head : ∃ b D, w.heap[p]? = some (.cells #[.int .i64 c.boot, .int .i64 c.next, .map (some b)] 58 (0, 0)) ∧ w.ownsMap Tryz.prog 3 callElem b c.next D ∧ Opn D c.opn ∧ G p ∧ G b
theorem CallsAt.keep {G : Nat → Prop} {w w' : World} {p : Nat} {c : Cl} (h : CallsAt G w p c) (hk : ∀ b, b < w.heap.size → G b → w'.heap[b]? = w.heap[b]?) : CallsAt G w' p c := by
  obtain ⟨b, D, h1, h2, h3, h4, h5⟩ := h.head
  have hb := h2.lt
  obtain ⟨es, clock, e1, e2⟩ := h2
  exact ⟨⟨b, D, (hk p (lt_of_heap h1) h4).trans h1, ⟨es, clock, (hk b hb h5).trans e1, e2⟩, h3, h4, h5⟩⟩
theorem CallsAt.below {G : Nat → Prop} {w w' : World} {p : Nat} {c : Cl} (h : CallsAt G w p c) (hb : Below w.heap.size w w') : CallsAt G w' p c := h.keep (fun b hl _ => hb.block b hl)
theorem CallsAt.mono {G G' : Nat → Prop} {w : World} {p : Nat} {c : Cl} (h : CallsAt G w p c) (hG : ∀ b, b < w.heap.size → G b → G' b) : CallsAt G' w p c := by
  obtain ⟨b, D, h1, h2, h3, h4, h5⟩ := h.head
  exact ⟨⟨b, D, h1, h2, h3, hG p (lt_of_heap h1) h4, hG b h2.lt h5⟩⟩
theorem CallsAt.tight {G : Nat → Prop} {w : World} {p : Nat} {c : Cl} (h : CallsAt G w p c) : CallsAt (fun b => G b ∧ b < w.heap.size) w p c := h.mono (fun _ hl hg => ⟨hg, hl⟩)
theorem below_grown {w w' : World} (h : w.grownBy w' none) : Below w.heap.size w w' := ⟨h.os, h.tape, h.output, h.size, fun k hk => h.block k hk (by simp)⟩

theorem keyN (x : Int) (h : (Lit.int .i64 x).wf = true) : keyOf Tryz.prog 3 (.int .i64 x) = some (nkey x) := keyOf_int_mk Tryz.underlying3 h
end Go.Proofs.YtaelbgjcoakdlaaGreat
namespace Go.Proofs.YtaelbgjcoakdlaaGreat
open Go.RowKit Go.Maps

theorem wf64 {x : Int} (h : -9223372036854775808 ≤ x ∧ x ≤ 9223372036854775807) : (Lit.int .i64 x).wf = true := WalkArith.wf_i64 h
theorem nkey_inj {a b : Int} (h : nkey a = nkey b) : a = b := by injection h
theorem same_nkey (a b : Int) : (nkey a).sameKey (nkey b) = decide (a = b) := by
  simp [nkey, Lit.sameKey]
/-- What the loop of Low keeps. -/
structure LowInv (c : Cl) (D : DataW Unit) (left : Lit → Bool) (x : Nat) : Prop where
  d : Opn D c.opn
  le : x ≤ c.next
  mem : x = c.next ∨ x ∈ c.opn
  seen : ∀ k ∈ c.opn, left (nkey k) = false → x ≤ k
  has : ∀ kl, left kl = true → Maps.has D kl = true
theorem LowInv.start (c : Cl) (D : DataW Unit) (h : Opn D c.opn) : LowInv c D (Maps.has D) c.next :=
  ⟨h, Nat.le_refl _, .inl rfl, fun k hk hl => by rw [h.has] at hl; simp at hl; exact absurd rfl (hl k hk), fun _ h => h⟩
theorem LowInv.done {c : Cl} {D : DataW Unit} {left : Lit → Bool} {x : Nat} (h : LowInv c D left x) (hl : ∀ kl, left kl = false) : c.low = x := Cl.low_eq h.le (fun k hk => h.seen k hk (hl _)) h.mem
theorem LowInv.key {c : Cl} {D : DataW Unit} {left : Lit → Bool} {x : Nat} (h : LowInv c D left x) {k : Int} (hl : left (nkey k) = true) : ∃ n : Nat, n ∈ c.opn ∧ (n : Int) = k := by
  have := h.has _ hl
  rw [h.d.has] at this
  simpa using this
theorem LowInv.step {c : Cl} {D : DataW Unit} {left : Lit → Bool} {x n : Nat} (h : LowInv c D left x) (hn : n ∈ c.opn) : LowInv c D (fun z => left z && !z.sameKey (nkey n)) (min x n) := by
  refine ⟨h.d, Nat.le_trans (Nat.min_le_left _ _) h.le, ?_, fun k hk hl => ?_, fun kl hl => h.has kl (by simp at hl; exact hl.1)⟩
  · rcases Nat.le_total x n with h' | h'
    · rw [Nat.min_eq_left h']; exact h.mem
    · rw [Nat.min_eq_right h']; exact .inr hn
  · simp only [same_nkey] at hl
    by_cases e : k = n
    · subst e; exact Nat.min_le_right _ _
    · have : left (nkey k) = false := by
        cases hk' : left (nkey k)
        · rfl
        · rw [hk'] at hl; simp at hl; omega
      exact Nat.le_trans (Nat.min_le_left _ _) (h.seen k hk this)
def LowPost (G : Nat → Prop) (p : Nat) (c : Cl) (w : World) (e : Ending) (w' : World) : Prop := e = .returned (.int .i64 c.low) ∧ CallsAt G w' p c ∧ Below w.heap.size w w'
set_option maxRecDepth 100000 in
set_option maxHeartbeats 2000000 in
theorem low_any' (G : Nat → Prop) (p : Nat) (c : Cl) (w : World) (h : CallsAt G w p c) (ho : ClOK c) (hn : c.next ≤ 1000) : Calls Tryz.prog 25 #[.pointer (some ⟨p, 0, none⟩)] w (LowPost G p c w) := by
  have HC := Lib.hid h
  have HO := Lib.hid ho
  obtain ⟨b, D, h1, h2, h3, h4, h5⟩ := h.head
  obtain ⟨c0, c1, c2, _, _, _⟩ := blk3 h1
  have HOWN := Lib.hid h2
  have HD := Lib.hid h3
  clear h h1 h2 h3 ho
  go_enter Tryz.func25, Tryz.ntmps25
  go_wp2_with (first | (at_range; refine wpList_range_own _ rfl _ 56 rfl 3 75 (int_keyed Tryz.underlying3) Tryz.underlying56 _ b c.next D rfl HOWN.out ?_; intro w0 hrg0 hg0 hs0))
  go_frame
  have HG0 := Lib.hid (below_grown hg0)
  have HR0 := Lib.hid hrg0
  clear hg0 hrg0 hs0
  go_loopw [3] (fun t wr => ∃ (left : Lit → Bool) (cnt x : Nat), t = .int .i64 x ∧ wr.ranges Tryz.prog 3 callElem b w.heap.size c.next D left cnt ∧ LowInv c D left x ∧ Below w.heap.size w wr) (fun _ wr => wr.rangeLeft b w.heap.size)
  case atStart => exact ⟨_, _, c.next, rfl, HR0.out, LowInv.start c D HD.out, HG0.out⟩
  case round =>
    obtain ⟨left, cnt, x, rfl, hrg, hinv, hB⟩ := hrel
    have HRG := Lib.hid hrg
    have HI := Lib.hid hinv
    have HB := Lib.hid hB
    have hxn : (x : Int) ≤ 1000 := by have := hinv.le; omega
    have hx0 : (0 : Int) ≤ (x : Int) := by omega
    clear hrg hinv hB
    go_wp2_with (first | (at_next; refine wpList_next_ranges _ rfl _ rfl 3 (int_keyed Tryz.underlying3) callElem (Value.int .i64) id (fun key kl hk => by obtain ⟨x, hx, _⟩ := Maps.keyOf_int_inv Tryz.underlying3 hk; exact ⟨x, hx⟩) (fun v _ _ => ⟨v, rfl⟩) b w.heap.size c.next _ _ _ rfl HRG.out ?_ ?_))
    · intro hc0 hl0
      have HE := Lib.hid (HI.out.done hl0)
      clear hc0 hl0
      go_wp2_with fail
      go_ret
      exact ⟨by rw [HE.out]; rfl, HC.out.below HB.out, HB.out⟩
    · intro k v kl yd yp w2 cnt2 hkey hlk hv hat hrg2 hlt hg2 hs2 hen
      obtain ⟨k', hk1, rfl, _⟩ := Maps.keyOf_int_inv Tryz.underlying3 hkey
      obtain rfl : k = k' := by injection hk1
      obtain ⟨n, hn, rfl⟩ := HI.out.key hlk
      have hn1 := (HO.out.pos n hn).2
      have HS := Lib.hid (HI.out.step hn)
      have HR2 := Lib.hid hrg2
      have HLT := Lib.hid hlt
      have HB2 := Lib.hid (HB.out.grown hg2 HB.out.size (fun j e => by cases e; exact Nat.le_refl _))
      have hn2 : (n : Int) ≤ 1000 := by omega
      have hn0 : (0 : Int) ≤ (n : Int) := by omega
      clear hkey hlk hv hat hrg2 hlt hg2 hs2 hk1
      go_wp2_with fail
      refine ⟨⟨_, cnt2, min x n, ?_, HR2.out, HS.out, HB2.out⟩, ?_⟩
      · congr 1
        split <;> omega
      · rw [HR2.out.left_eq, HRG.out.left_eq]; exact HLT.out
theorem Tryz.zeroCall (w : World) : (zeroValue 75).run Tryz.prog w = .ok (.agg zeroC) w := by kernel_rfl
def GetPost (v : Value) (b : Bool) (w : World) (e : Ending) (w' : World) : Prop := e = .returned (.tuple #[v, .bool b]) ∧ Below w.heap.size w w'
theorem Opn.look {D : DataW Unit} {l : List Nat} {s : Int} {v : Value} {ps : List MemPlace} (h : Opn D l) (hl : ∀ k ∈ l, 1 ≤ k) (hv : callElem v = some (D.atKey (nkey s) (.lit (.int .i64 0)), ps)) :
    (v = .agg zeroC ∧ Maps.has D (nkey s) = false ∧ ∀ k ∈ l, (k : Int) ≠ s) ∨ (∃ k ∈ l, (k : Int) = s ∧ v = callV s ∧ Maps.has D (nkey s) = true) := by
  obtain ⟨x, e1, e2⟩ := callElem_inv hv
  have e3 : D.atKey (nkey s) (.lit (.int .i64 0)) = .lit (.int .i64 x) := congrArg Prod.fst e1
  by_cases hk : ∃ k ∈ l, (k : Int) = s
  · obtain ⟨k, hk1, rfl⟩ := hk
    rw [h.at_ k hk1] at e3
    injection e3 with e3
    injection e3 with _ e3
    have := hl k hk1
    refine .inr ⟨k, hk1, rfl, ?_, by rw [h.has]; exact decide_eq_true ⟨k, hk1, rfl⟩⟩
    rcases e2 with ⟨e4, _⟩ | ⟨_, e4⟩
    · omega
    · rw [e4, e3]
  · have h0 : Maps.has D (nkey s) = false := by rw [h.has]; exact decide_eq_false hk
    rw [atKey_of_not_has h0] at e3
    injection e3 with e3
    injection e3 with _ e3
    refine .inl ⟨?_, h0, fun k hk1 e => hk ⟨k, hk1, e⟩⟩
    rcases e2 with ⟨_, e4⟩ | ⟨e4, _⟩
    · exact e4
    · omega
theorem Opn.look_in {D : DataW Unit} {l : List Nat} {k : Nat} {v : Value} {ps : List MemPlace} (h : Opn D l) (hl : ∀ k ∈ l, 1 ≤ k) (hk : k ∈ l) (hv : callElem v = some (D.atKey (nkey k) (.lit (.int .i64 0)), ps)) : v = .agg (callC k 5 1) ∧ Maps.has D (nkey k) = true := by
  rcases h.look hl hv with ⟨_, _, h1⟩ | ⟨_, _, _, h1, h2⟩
  · exact absurd rfl (h1 k hk)
  · exact ⟨h1, h2⟩
theorem Opn.look_out {D : DataW Unit} {l : List Nat} {s : Int} {v : Value} {ps : List MemPlace} (h : Opn D l) (hl : ∀ k ∈ l, 1 ≤ k) (hk : ∀ j ∈ l, (j : Int) ≠ s) (hv : callElem v = some (D.atKey (nkey s) (.lit (.int .i64 0)), ps)) : v = .agg zeroC ∧ Maps.has D (nkey s) = false := by
  rcases h.look hl hv with ⟨h1, h2, _⟩ | ⟨k, h1, h2, _⟩
  · exact ⟨h1, h2⟩
  · exact absurd h2 (hk k h1)
theorem callC_one (s n t : Int) : (callC s n t).all (·.oneCell') = true := by simp [callC, Value.oneCell']
theorem zeroC_one : zeroC.all (·.oneCell') = true := by simp [zeroC, Value.oneCell']
theorem setRow_alloc_at (w : World) (g : Nat) (c c' : Array Value) (t : TypeId) (h : g = w.heap.size) : (w.alloc (.cells c t)).setRow g c' = w.alloc (.cells c' t) := by subst h; exact World.setRow_alloc_new w c c' t
set_option maxRecDepth 100000 in
set_option maxHeartbeats 2000000 in
theorem get_in (G : Nat → Prop) (p : Nat) (c : Cl) (k : Nat) (w : World) (h : CallsAt G w p c) (ho : ClOK c) (hn : c.next ≤ 1000) (hk : k ∈ c.opn) : Calls Tryz.prog 22 #[.pointer (some ⟨p, 0, none⟩), .int .i64 k] w (GetPost (.agg (callC k 5 1)) true w) := by
  have HO := Lib.hid ho
  obtain ⟨b, D, h1, h2, h3, h4, h5⟩ := h.head
  have hpl : p < w.heap.size := lt_of_heap h1
  have HB := Lib.hid (show Below w.heap.size w (w.alloc (.cells zeroC 75)) from (Below.refl _ _).alloc (Nat.le_refl _) _)
  obtain ⟨c0, c1, c2, _, _, _⟩ := blk3 h1
  have HK := Lib.hid hk
  have HOWN := Lib.hid (h2.alloc (.cells zeroC 75))
  have HD := Lib.hid h3
  have HW := Lib.hid (wf64 (x := (k : Int)) (by have := (ho.pos k hk).2; omega))
  clear h h1 h2 h3 ho hk
  go_enter Tryz.func22, Tryz.ntmps22
  go_wp2_with (first
    | (at_lookup; refine wpList_lookup_own_ok _ rfl _ _ 56 rfl 3 75 (int_keyed Tryz.underlying3) Tryz.underlying56 callElem (Tryz.zeroCall _) (.lit (.int .i64 0)) [] callElem_zero b c.next D rfl HOWN.out _ _ rfl (keyN _ HW.out) ?_; intro v ps hv; (obtain ⟨hve, hhas⟩ := HD.out.look_in (fun j hj => (HO.out.pos j hj).1) HK.out hv); subst hve; rw [hhas]; clear hhas hv)
    | (refine wpList_store_row rfl 75 (.tmp 6) (.tmp 18) rfl (w.heap.size + 1) (callC k 5 1) rfl rfl 75 _ (heap_at _ _ _ (by simp)) (by kernel_rfl) rfl (callC_one _ _ _) ?_; rw [setRow_alloc_at _ _ _ _ _ (by simp)])
    | (refine wpList_load_row rfl 75 (.tmp 6) rfl (w.heap.size + 1) rfl 75 (callC k 5 1) (0, 0) _ (heap_at _ _ _ (by simp)) Tryz.underlying75 rfl (by kernel_rfl) ?_)
    | (refine wpList_store_row rfl 75 (.tmp 4) (.tmp 20) rfl w.heap.size (callC k 5 1) rfl rfl 75 _ (blk_alloc (heap_at w _ _ rfl) _) (by kernel_rfl) rfl (callC_one _ _ _) ?_))
  exact bodyPost_ret (v := .tuple #[.agg (callC k 5 1), .bool true]) (results_cell_tmp2 (fn := Tryz.f22) rfl _ _ w.heap.size 75 (callC k 5 1) (0, 0) _ _ rfl rfl (setRow_heap _ _ _ _ _ _ (blk_alloc (heap_at w _ _ rfl) _)) Tryz.underlying75 rfl (by kernel_rfl)) rfl ⟨rfl, below_row (HB.out.alloc HB.out.size _) (Nat.le_refl _) _⟩
set_option maxRecDepth 100000 in
set_option maxHeartbeats 2000000 in
theorem get_out (G : Nat → Prop) (p : Nat) (c : Cl) (k : Int) (w : World) (h : CallsAt G w p c) (ho : ClOK c) (hi : -9223372036854775808 ≤ k ∧ k ≤ 9223372036854775807) (hk : ∀ j ∈ c.opn, (j : Int) ≠ k) : Calls Tryz.prog 22 #[.pointer (some ⟨p, 0, none⟩), .int .i64 k] w (GetPost (.agg (zeroC)) false w) := by
  have HO := Lib.hid ho
  obtain ⟨b, D, h1, h2, h3, h4, h5⟩ := h.head
  have hpl : p < w.heap.size := lt_of_heap h1
  have HB := Lib.hid (show Below w.heap.size w (w.alloc (.cells zeroC 75)) from (Below.refl _ _).alloc (Nat.le_refl _) _)
  obtain ⟨c0, c1, c2, _, _, _⟩ := blk3 h1
  have HK := Lib.hid hk
  have HOWN := Lib.hid (h2.alloc (.cells zeroC 75))
  have HD := Lib.hid h3
  have HW := Lib.hid (wf64 hi)
  clear h h1 h2 h3 ho hk
  go_enter Tryz.func22, Tryz.ntmps22
  go_wp2_with (first
    | (at_lookup; refine wpList_lookup_own_ok _ rfl _ _ 56 rfl 3 75 (int_keyed Tryz.underlying3) Tryz.underlying56 callElem (Tryz.zeroCall _) (.lit (.int .i64 0)) [] callElem_zero b c.next D rfl HOWN.out _ _ rfl (keyN _ HW.out) ?_; intro v ps hv; (obtain ⟨hve, hhas⟩ := HD.out.look_out (fun j hj => (HO.out.pos j hj).1) HK.out hv); subst hve; rw [hhas]; clear hhas hv)
    | (refine wpList_store_row rfl 75 (.tmp 6) (.tmp 18) rfl (w.heap.size + 1) (zeroC) rfl rfl 75 _ (heap_at _ _ _ (by simp)) (by kernel_rfl) rfl (zeroC_one) ?_; rw [setRow_alloc_at _ _ _ _ _ (by simp)])
    | (refine wpList_load_row rfl 75 (.tmp 6) rfl (w.heap.size + 1) rfl 75 (zeroC) (0, 0) _ (heap_at _ _ _ (by simp)) Tryz.underlying75 rfl (by kernel_rfl) ?_)
    | (refine wpList_store_row rfl 75 (.tmp 4) (.tmp 20) rfl w.heap.size (zeroC) rfl rfl 75 _ (blk_alloc (heap_at w _ _ rfl) _) (by kernel_rfl) rfl (zeroC_one) ?_))
  exact bodyPost_ret (v := .tuple #[.agg (zeroC), .bool false]) (results_cell_tmp2 (fn := Tryz.f22) rfl _ _ w.heap.size 75 (zeroC) (0, 0) _ _ rfl rfl (setRow_heap _ _ _ _ _ _ (blk_alloc (heap_at w _ _ rfl) _)) Tryz.underlying75 rfl (by kernel_rfl)) rfl ⟨rfl, below_row (HB.out.alloc HB.out.size _) (Nat.le_refl _) _⟩
end Go.Proofs.YtaelbgjcoakdlaaGreat
