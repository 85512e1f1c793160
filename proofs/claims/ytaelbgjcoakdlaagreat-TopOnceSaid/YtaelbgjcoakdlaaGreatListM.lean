/- slices.Sorted(maps.Keys(m)) at the open calls' map.  Calls: List. -/
import Derived.Test.YtaelbgjcoakdlaaGreatCallse
import Derived.Test.YtaelbgjcoakdlaaGreatLay
import Derived.Shelf.SortG.Plain
namespace Go.Proofs.YtaelbgjcoakdlaaGreat
open Go.RowKit Go.Maps Go.Sort Go.Shelf

theorem laySorts (m : Nat) : AnyZI.SortsIn Tryz.prog renZ Fence.wide m :=
  ⟨fun blk off cap ss W hH hblk hsz => callsIn_wide.2 (AnyG.slices_Sort_int laySort blk off cap ss W hH hblk hsz),
   fun p cap W => callsIn_wide.2 (AnyG.slices_Sort_int_none laySort p cap W)⟩
def KeysPost (b : Nat) (w : World) (e : Ending) (w' : World) : Prop := e = .returned (.func (.func 52) #[] #[.pointer (some ⟨w.heap.size, 0, none⟩)]) ∧ w' = w.alloc (.cells #[.map (some b)] 56)
theorem keys_any (b : Nat) (w : World) : Calls Tryz.prog 39 #[.map (some b)] w (KeysPost b w) :=
  callsIn_wide.1 (AnyZI.keys_in layKeys Fence.wide 5 trivial rfl (some b) w)
theorem nodup_sub : ∀ (l s : List Int), l.Nodup → (∀ x ∈ l, x ∈ s) → l.length ≤ s.length
  | [], _, _, _ => Nat.zero_le _
  | a :: l, s, hn, h => by
    obtain ⟨h1, h2⟩ := List.nodup_cons.1 hn
    have ha := h a List.mem_cons_self
    have := nodup_sub l (s.erase a) h2 (fun x hx => (List.mem_erase_of_ne (fun e => h1 (by rw [← e]; exact hx))).2 (h x (List.mem_cons_of_mem _ hx)))
    rw [List.length_erase_of_mem ha] at this
    have hp : 0 < s.length := List.length_pos_of_mem ha
    simp only [List.length_cons]
    omega
theorem sorted_unique : ∀ (l s : List Int), l.Pairwise (· < ·) → s.Pairwise (· ≤ ·) → s.length = l.length → (∀ x ∈ l, x ∈ s) → s = l
  | [], s, _, _, hl, _ => List.eq_nil_of_length_eq_zero hl
  | a :: l, [], _, _, hl, _ => by simp at hl
  | a :: l, b :: s, h1, h2, hl, h => by
    obtain ⟨p1, p2⟩ := List.pairwise_cons.1 h1
    obtain ⟨q1, q2⟩ := List.pairwise_cons.1 h2
    have hnd : (a :: l).Nodup := h1.imp (fun hlt e => by omega)
    have hb : b ∈ a :: l := by
      by_cases hb : b ∈ a :: l
      · exact hb
      · exfalso
        have := nodup_sub (a :: l) s hnd (fun x hx => by
          rcases List.mem_cons.1 (h x hx) with rfl | h'
          · exact absurd hx hb
          · exact h')
        simp only [List.length_cons] at this hl
        omega
    have hab : b = a := by
      have h3 : b ≤ a := by
        rcases List.mem_cons.1 (h a List.mem_cons_self) with rfl | h'
        · exact Int.le_refl _
        · exact q1 a h'
      have h4 : a ≤ b := by
        rcases List.mem_cons.1 hb with rfl | h'
        · exact Int.le_refl _
        · have := p1 b h'; omega
      omega
    subst hab
    rw [sorted_unique l s p2 q2 (by simpa using hl) (fun x hx => by
      rcases List.mem_cons.1 (h x (List.mem_cons_of_mem _ hx)) with rfl | h'
      · have := p1 x hx; omega
      · exact h')]
theorem keys_sorted {D : DataW Unit} {l : List Nat} {ss : List Int} (h : Opn D l) (hs : l.Pairwise (· < ·)) (hp : ss.Perm (intKeys D)) (ht : Tidy D) : ss.mergeSort (fun x y => decide (x ≤ y)) = l.map (fun k : Nat => (k : Int)) := by
  obtain ⟨es, rfl, _⟩ := ht
  refine sorted_unique _ _ (List.pairwise_map.2 (hs.imp (fun h => by omega))) ?_ ?_ ?_
  · have := List.pairwise_mergeSort (le := fun x y : Int => decide (x ≤ y)) (fun a b c h1 h2 => by simp at *; omega) (fun a b => by simp; omega) ss
    exact this.imp (fun h => by simpa using h)
  · rw [List.length_mergeSort, hp.length_eq, List.length_map, ← h.size]
    simp [intKeys, Maps.size]
  · intro x hx
    obtain ⟨k, hk, rfl⟩ := List.mem_map.1 hx
    refine List.mem_mergeSort.2 (hp.mem_iff.2 ?_)
    have hh := h.has k
    rw [decide_eq_true ⟨k, hk, rfl⟩] at hh
    obtain ⟨p, hp1, hp2⟩ := List.any_eq_true.1 hh
    refine List.mem_map.2 ⟨p, hp1, ?_⟩
    rw [WideAt.sameKey_eq hp2]
    rfl
def SortedPost (l : List Nat) (w : World) (e : Ending) (w' : World) : Prop := ∃ v, e = .returned v ∧ w'.ownsRow w.heap.size 3 1 v l.length (l.map fun k : Nat => Value.int .i64 (k : Int)) ∧ Below w.heap.size w w'
set_option maxHeartbeats 1000000 in
theorem sorted_any (b nn : Nat) (D : DataW Unit) (l : List Nat) (w : World) (hown : w.ownsMap Tryz.prog 3 callElem b nn D) (hd : Opn D l) (hs : l.Pairwise (· < ·)) (hl : l.length ≤ 1000) :
    Calls Tryz.prog 38 #[.func (.func 52) #[] #[.pointer (some ⟨w.heap.size, 0, none⟩)]] (w.alloc (.cells #[.map (some b)] 56)) (SortedPost l (w.alloc (.cells #[.map (some b)] 56))) := by
  have hbl := hown.lt
  have hseq : SeqGives Fence.wide 2 Tryz.prog 52 #[.pointer (some ⟨w.heap.size, 0, none⟩)] encZ (fun ss => ss.Perm (intKeys D)) (Maps.size D) (w.alloc (.cells #[.map (some b)] 56)) :=
    AnyZI.keys_gives (ρ := renZ) { layKeys with } Fence.wide _ trivial rfl (by omega) w.heap.size b nn D _ (by simp) (by simp) (by
      obtain ⟨es, clock, hb, Ft, hs, hD⟩ := hown
      exact ⟨es, clock, (Below.heap_alloc _ _ b hbl).trans hb, Ft, hs, hD⟩)
  have hsz := hd.size
  have cS := AnyZI.sorted_in laySorted Fence.wide 5 trivial trivial trivial trivial rfl (by omega) (laySorts _) (enters_of Tryz.func51 (by kernel_rfl) rfl) 52 #[.pointer (some ⟨w.heap.size, 0, none⟩)] trivial (enters_of Tryz.func52 (by kernel_rfl) rfl) _ _ (by unfold maxLen; omega) (by omega) _ hseq
  change CallsIn _ _ Tryz.prog 38 _ _ _ at cS
  refine (callsIn_wide.1 cS).mono ?_
  rintro e w' ⟨v, ss, rfl, hS, hrow, _, hb⟩
  refine ⟨v, rfl, ?_, hb⟩
  have hlen : ss.length = l.length := by rw [hS.length_eq, ← hd.size]; obtain ⟨es, rfl, _⟩ := hown.tidy (int_keyed Tryz.underlying3); simp [intKeys, Maps.size]
  rw [keys_sorted hd hs hS (hown.tidy (int_keyed Tryz.underlying3)), hlen, List.map_map] at hrow
  exact hrow
end Go.Proofs.YtaelbgjcoakdlaaGreat
namespace Go.Proofs.YtaelbgjcoakdlaaGreat
open Go.RowKit Go.Maps

theorem Tryz.infoC : (Tryz.prog.info? 75).map (fun i => (i.zero, i.size, i.bytes)) = some (some (.agg zeroC), 10, 88) := by kernel_rfl
def callCells (l : List Nat) : List Value := l.flatMap fun k : Nat => (callC k 5 1).toList
theorem callCells_len (l : List Nat) : (callCells l).length = l.length * 10 := by
  induction l with
  | nil => rfl
  | cons a l ih => simp only [callCells, List.flatMap_cons, List.length_append, List.length_cons] at ih ⊢; simp only [callC]; simp only [List.length_cons, List.length_nil, callC] at ih ⊢; omega
theorem callCells_snoc {l : List Nat} {j k : Nat} (h : l[j]? = some k) : callCells (l.take (j + 1)) = callCells (l.take j) ++ (callC k 5 1).toList := by unfold callCells; rw [List.take_add_one, h]; simp
def ListPost (G : Nat → Prop) (p : Nat) (c : Cl) (w : World) (e : Ending) (w' : World) : Prop := ∃ v, e = .returned v ∧ w'.ownsRow w.heap.size 75 10 v c.opn.length (callCells c.opn) ∧ CallsAt G w' p c ∧ Below w.heap.size w w'
theorem own_at {w : World} {base n j : Nat} {v : Value} {xs : List Value} {e : TypeId} (h : w.ownsRow base e 1 v n xs) (hj : j < n) : ∃ g c, v = .slice (some ⟨g, 0, none⟩) n c ∧ base ≤ g ∧ g < w.heap.size ∧ w.cell? ⟨g, j, none⟩ = xs[j]? := by
  obtain ⟨hl, h1⟩ := h
  rcases h1 with ⟨_, h0⟩ | ⟨g, cap, cur, rfl, hb, hh, hnc, hcm, hcs, ht⟩
  · omega
  · refine ⟨g, cap, rfl, hb, lt_of_heap hh, ?_⟩
    rw [blk_cell hh, ← Array.getElem?_toList, ← ht, List.getElem?_take_of_lt (by omega)]
theorem own_caps {w : World} {base n : Nat} {a : Option Addr} {c m : Nat} {xs : List Value} {e : TypeId} {s : Nat} (h : w.ownsRow base e s (.slice a n c) m xs) : n ≤ c ∧ c ≤ maxLen := by
  obtain ⟨hl, h1⟩ := h
  rcases h1 with ⟨h2, h0⟩ | ⟨g, cap, cur, h2, hb, hh, hnc, hcm, hcs, ht⟩
  · injection h2 with _ h3 h4; subst h3 h4; exact ⟨Nat.le_refl _, by decide⟩
  · injection h2 with _ h3 h4; subst h3 h4; exact ⟨hnc, hcm⟩
/-- What the loop of List keeps. -/
structure ListInv (w : World) (kb : Nat) (G : Nat → Prop) (p : Nat) (c : Cl) (kv ov : Value) (j : Nat) (wt : World) : Prop where
  keys : wt.ownsRow kb 3 1 kv c.opn.length (c.opn.map fun k : Nat => Value.int .i64 (k : Int))
  calls : CallsAt G wt p c
  out : wt.ownsRow w.heap.size 75 10 ov j (callCells (c.opn.take j))
  below : Below w.heap.size w wt
theorem ListInv.step {w : World} {kb : Nat} {G : Nat → Prop} {p : Nat} {c : Cl} {kv ov ov' : Value} {j k : Nat} {wr w6 : World} (h : ListInv w kb (fun b => G b ∧ b < w.heap.size) p c kv ov j wr) (hk : c.opn[j]? = some k)
    (hown : w6.ownsRow w.heap.size 75 10 ov' (j + 1) (callCells (c.opn.take j) ++ (callC k 5 1).toList)) (hg : (wr.alloc (.cells (callC k 5 1) 75)).grownBy w6 ov.ownBlock) : ListInv w kb (fun b => G b ∧ b < w.heap.size) p c kv ov' (j + 1) w6 := by
  have ha : (wr.alloc (.cells (callC k 5 1) 75)).heap.size = wr.heap.size + 1 := by simp
  have hs := h.below.size
  refine ⟨ownsRow_keep h.keys (fun g hg' => ?_), h.calls.keep (fun b hl hG => ?_), by rw [callCells_snoc hk]; exact hown, ?_⟩
  · have hl := (h.keys.lt g hg').2
    refine (hg.block g (by omega) (fun e => ?_)).trans (heap_past _ _ _ hl)
    obtain ⟨_, h1 | ⟨g', cap, cur, h1, hb, hh, _⟩⟩ := h.keys
    · rw [h1.1] at hg'; cases hg'
    · rw [h1] at hg'
      have : g' = g := by simpa [Value.ownBlock] using hg'
      subst this
      exact own_ne h.out hh (by decide) e.symm
  · refine (hg.block b (by omega) (fun e => ?_)).trans (heap_past _ _ _ hl)
    have := (h.out.lt b e.symm).1
    have := hG.2
    omega
  · exact (h.below.alloc hs _).grown hg (by omega) (fun g e => (h.out.lt g e).1)
set_option maxRecDepth 100000 in
set_option maxHeartbeats 1000000 in
theorem list_any (G : Nat → Prop) (p : Nat) (c : Cl) (w : World) (h : CallsAt G w p c) (ho : ClOK c) (hn : c.opn.length ≤ 1000) (hn2 : c.next ≤ 1000) : Calls Tryz.prog 28 #[.pointer (some ⟨p, 0, none⟩)] w (ListPost G p c w) := by
  obtain ⟨iC, hiC, hz0, hz1, hz2⟩ := info_parts Tryz.infoC
  have HO := Lib.hid ho
  have HC := Lib.hid h.tight
  obtain ⟨b, D, h1, h2, h3, h4, h5⟩ := h.tight.head
  obtain ⟨c0, c1, c2, _, _, _⟩ := blk3 h1
  have HOWN := Lib.hid h2
  have HD := Lib.hid h3
  clear h h1 h2 h3 h4 h5 ho
  go_enter Tryz.func28, Tryz.ntmps28
  go_wp2_with fail
  refine (keys_any b _).mono ?_
  rintro e w1 ⟨rfl, hw1⟩
  go_wp2_with fail
  subst hw1
  refine (sorted_any b c.next D c.opn _ HOWN.out HD.out HO.out.sorted hn).mono ?_
  rintro e w2 ⟨v, rfl, hrow, hb2⟩
  have HROW := Lib.hid hrow
  obtain ⟨va, vc, rfl⟩ := own_slice hrow
  have HB2 := Lib.hid (((Below.refl w.heap.size w).alloc (Nat.le_refl _) _).trans (hb2.mono (by simp)))
  have hs2 := hb2.size
  clear hrow hb2
  go_wp2_with fail
  go_loopw [3, 15] (fun ov i wt => ∃ j : Nat, j ≤ c.opn.length ∧ i = .int .i64 j ∧ ListInv w (w.alloc (.cells #[.map (some b)] 56)).heap.size (fun b => G b ∧ b < w.heap.size) p c (.slice va c.opn.length vc) ov j wt) (fun _ i _ => c.opn.length - (intOf i).toNat)
  case atStart =>
    exact ⟨0, by omega, rfl, ⟨HROW.out, HC.out.below HB2.out, World.ownsRow_nil _ _ _ _, HB2.out⟩⟩
  case round =>
    obtain ⟨j, hj, rfl, hinv⟩ := hrel
    have HI := Lib.hid hinv
    obtain ⟨oa, oc, rfl⟩ := own_slice hinv.out
    by_cases hlt : j < c.opn.length
    · obtain ⟨k, hk⟩ : ∃ k, c.opn[j]? = some k := ⟨_, List.getElem?_eq_getElem hlt⟩
      have HK := Lib.hid hk
      obtain ⟨g, kc, e1, hg, hgl, hcap⟩ := own_at hinv.keys (j := j) (by simpa using hlt)
      obtain ⟨rfl, rfl⟩ : va = some ⟨g, 0, none⟩ ∧ vc = kc := by simpa using e1
      have hkc : wr.cell? ⟨g, j, none⟩ = some (.int .i64 (k : Int)) := by rw [hcap]; simp [hk]
      have hkc2 := own_caps hinv.keys
      obtain ⟨b', D', p1, p2, p3, _, _⟩ := hinv.calls.head
      have cp2 : wr.cell? ⟨p, 2, none⟩ = some (.map (some b')) := blk_cell p1 2
      have hkm := List.mem_of_getElem? hk
      obtain ⟨v, ps, hrun, hv⟩ := p2.lookup (int_keyed Tryz.underlying3) Tryz.underlying56 (Tryz.zeroCall _) callElem_zero (keyN (k : Int) (wf64 (by have := (HO.out.pos k hkm).2; omega)))
      obtain ⟨hve, _⟩ := p3.look_in (fun i hi => (HO.out.pos i hi).1) hkm hv
      subst hve
      unfold callC at hrun
      have k0 : (0 : Int) ≤ (j : Int) := by omega
      have k1 : (j : Int) < (c.opn.length : Int) := by omega
      have k2 : (j : Int) ≤ 1000 := by omega
      have hpl : p < wr.heap.size := lt_of_heap p1
      have hgl2 : g < wr.heap.size := hgl
      have HOUT := Lib.hid (hinv.out.alloc (.cells (callC k 5 1) 75))
      have hs0 := hinv.below.size
      unfold callC at HOUT
      clear hinv e1 hg hgl hcap p1 p2 p3 hv hk hkm
      go_wp2_with (at_builtin; first | (refine wpList_append_lies _ rfl (.tmp 19) (.tmp 26) _ rfl w.heap.size 75 iC _ 10 88 Tryz.underlying89 hiC hz0 hz1 hz2 rfl (by omega) (.slice oa j oc) j (callCells (c.opn.take j)) rfl HOUT.out ⟨wr.heap.size, 0, none⟩ 1 1 (callC k 5 1).toList rfl rfl (World.news_of_block (heap_at _ _ _ rfl)) (fun u hu => by have := callC_one k 5 1; rw [Array.all_eq_true_iff_forall_mem] at this; exact this u (by simpa using hu)) (by omega) (by unfold maxLen; omega) (by omega) (by simp; omega) _ rfl ?_; intro g6 cap6 w6 hown6 hgrow6 hat6 hlt6; have HJ := Lib.hid (ListInv.step HI.out HK.out hown6 hgrow6); clear hown6 hgrow6 hat6 hlt6))
      exact ⟨⟨j + 1, by omega, by push_cast; rfl, HJ.out⟩, by simp only [intOf]; omega⟩
    · obtain rfl : j = c.opn.length := by omega
      clear hinv
      go_wp2_with fail
      go_ret
      have := HI.out.out
      rw [List.take_of_length_le (Nat.le_refl _)] at this
      exact ⟨_, rfl, this, HI.out.calls.mono (fun _ _ h => h.1), HI.out.below⟩
end Go.Proofs.YtaelbgjcoakdlaaGreat
