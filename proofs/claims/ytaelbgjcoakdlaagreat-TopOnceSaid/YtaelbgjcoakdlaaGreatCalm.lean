/- calm: what is under way is lost; what is open is sent once more. -/
import Derived.Test.YtaelbgjcoakdlaaGreatArrive
import Derived.Test.YtaelbgjcoakdlaaGreatCalmp
import Derived.Deep.LoopGhost
namespace Go.Proofs.YtaelbgjcoakdlaaGreat
open Go.RowKit Go.Maps

/-- What the rounds read. -/
structure CS (boot k base q : Nat) (h : Hd) (w : World) (ms : List Mg) (opn : List Nat) (x : Nat → Option Obj) (own : Nat → Nat) (a : Ak) (u : World) : Prop where
  ak : AkAt own base u q h a
  inv : Inv boot k a ms
  opn : a.c.opn = opn
  x : a.x = x
  low : Below base w u
def CSx (boot k base q : Nat) (h : Hd) (w : World) (ms : List Mg) (opn : List Nat) (x : Nat → Option Obj) (u : World) : Prop := ∃ own a, CS boot k base q h w ms opn x own a u
theorem CS.below {boot k base q : Nat} {h : Hd} {w u u' : World} {ms : List Mg} {opn : List Nat} {x : Nat → Option Obj} {own : Nat → Nat} {a : Ak} (H : CS boot k base q h w ms opn x own a u) (hB : base ≤ w.heap.size) (hb : Below u.heap.size u u') : CS boot k base q h w ms opn x own a u' :=
  ⟨H.ak.below hb, H.inv, H.opn, H.x, H.low.trans (hb.mono (Nat.le_trans hB H.low.size))⟩
theorem CS.as {boot k base q : Nat} {h : Hd} {w u : World} {ms : List Mg} {opn : List Nat} {x : Nat → Option Obj} {own : Nat → Nat} {a : Ak} (H : CS boot k base q h w ms opn x own a u) : AS own base q h a w u := ⟨H.ak, H.low⟩
theorem AkAt.datalen {own : Nat → Nat} {base q : Nat} {h : Hd} {a : Ak} {u : World} (H : AkAt own base u q h a) (k : Int) : ∀ p, a.b.at_ k = some p → p.data.length ≤ 1000 := by
  intro p hp
  obtain ⟨i, _, hi⟩ := Bg7.Bg.at_some hp
  have := H.bag.data p (List.mem_of_getElem? hi)
  omega
/-- With a block of nobody's. -/
structure AB (own : Nat → Nat) (base q : Nat) (h : Hd) (a : Ak) (w : World) (g : Nat) (o : Obj) (u : World) : Prop where
  st : AS own base q h a w u
  blk : u.heap[g]? = some o
  free : own g = 0
theorem AB.below {own : Nat → Nat} {base q : Nat} {h : Hd} {a : Ak} {w u u' : World} {g : Nat} {o : Obj} (H : AB own base q h a w g o u) (hB : base ≤ w.heap.size) (hb : Below u.heap.size u u') : AB own base q h a w g o u' :=
  ⟨H.st.below hB hb, (hb.block _ (lt_of_heap H.blk)).trans H.blk, H.free⟩
theorem AB.fresh {own : Nat → Nat} {base q : Nat} {h : Hd} {a : Ak} {w u : World} {g : Nat} {o : Obj} (H : AB own base q h a w g o u) (hB : base ≤ w.heap.size) {r : Nat} (hr : u.heap.size ≤ r) : own r = 0 ∧ base ≤ r ∧ g ≠ r :=
  ⟨(H.st.fresh hB hr).1, (H.st.fresh hB hr).2, by have := lt_of_heap H.blk; omega⟩
theorem AB.stored {own : Nat → Nat} {base q : Nat} {h : Hd} {a : Ak} {w u : World} {g : Nat} {o : Obj} (H : AB own base q h a w g o u) {r : Nat} {old xs : Array Value} {ty : TypeId} (hr : u.heap[r]? = some (.cells old ty (0, 0))) (hsz : old.size = xs.size) (hi : (Tryz.prog.info? ty).map (·.size) = some xs.size) (h1 : xs.all (·.oneCell') = true) (ho : own r = 0) (hb : base ≤ r) (hne : g ≠ r) :
    (storeCells ⟨r, 0, none⟩ xs.toList 0).run Tryz.prog u = .ok () (u.setRow r xs) ∧ AB own base q h a w g o (u.setRow r xs) ∧ (u.setRow r xs).heap[r]? = some (.cells xs ty (0, 0)) := by
  obtain ⟨h1, h2, h3⟩ := H.st.stored hr hsz hi h1 ho hb
  exact ⟨h1, ⟨h2, (setRow_other _ _ _ _ hne).trans H.blk, H.free⟩, h3⟩
/-- Blocks that stay are told apart. -/
theorem AkAt.mark {own : Nat → Nat} {base q : Nat} {h : Hd} {a : Ak} {u : World} (H : AkAt own base u q h a) (hx : a.x = fun _ => none) (b : Option Nat) (hb : ∀ g, b = some g → own g = 0 ∧ base ≤ g ∧ g < u.heap.size) :
    AkAt (fun k => if b = some k then 8 else own k) base u q h { a with x := fun k => if b = some k then u.heap[k]? else none } := by
  have hm : ∀ k i, own k = i → i ≠ 0 → (if b = some k then 8 else own k) = i := by
    intro k i e hi
    rw [if_neg (fun e1 => hi ((hb k e1).1 ▸ e.symm)), e]
  have hr : ∀ {i v l}, Row own i base u v l → i ≠ 0 → Row (fun k => if b = some k then 8 else own k) i base u v l := fun hrow hi => ⟨hrow.1, fun g hg => hm g _ (hrow.2 g hg) hi⟩
  refine ⟨H.head, hm _ _ H.hq (by decide), H.calls.mono (fun k _ e => hm k _ e (by decide)), H.rep, hm _ _ H.hr (by decide), H.bag.mono (fun k _ e => hm k _ e (by decide)), hr H.done (by decide), hr H.told (by decide), hr H.seen (by decide), fun k e => ?_, fun k o e => ?_⟩
  · by_cases e1 : b = some k
    · exact ⟨(hb k e1).2.1, (hb k e1).2.2⟩
    · rw [if_neg e1] at e
      exact H.back k e
  · have e' : (if b = some k then u.heap[k]? else none) = some o := e
    by_cases e1 : b = some k
    · rw [if_pos e1] at e'
      exact ⟨if_pos e1, e'⟩
    · rw [if_neg e1] at e'
      cases e'
theorem callCells_at : ∀ (l : List Nat) (j i s : Nat), l[j]? = some s → i < 10 → (callCells l)[j * 10 + i]? = (callC s 5 1)[i]?
  | [], _, _, _, h, _ => by simp at h
  | x :: l, 0, i, s, h, hi => by
    simp only [List.getElem?_cons_zero, Option.some.injEq] at h
    subst h
    rw [show callCells (x :: l) = (callC x 5 1).toList ++ callCells l from rfl, Nat.zero_mul, Nat.zero_add, List.getElem?_append_left (by show i < 10; exact hi), Array.getElem?_toList]
  | x :: l, j + 1, i, s, h, hi => by
    rw [show callCells (x :: l) = (callC x 5 1).toList ++ callCells l from rfl, List.getElem?_append_right (by show 10 ≤ _; omega), show (j + 1) * 10 + i - (callC x 5 1).toList.length = j * 10 + i from by show (j + 1) * 10 + i - 10 = _; omega]
    exact callCells_at l j i s (by simpa using h) hi
/-- An element of the list of calls. -/
theorem list_at {w : World} {base n j s : Nat} {v : Value} {l : List Nat} (h : w.ownsRow base 75 10 v n (callCells l)) (hn : l.length = n) (hj : l[j]? = some s) : ∃ g c, v = .slice (some ⟨g, 0, none⟩) n c ∧ n ≤ c ∧ c ≤ maxLen ∧ g < w.heap.size ∧ ∀ u : World, u.heap[g]? = w.heap[g]? → u.rangeAt g (j * 10) (callC s 5 1).toList := by
  have hlt := (List.getElem?_eq_some_iff.1 hj).1
  obtain ⟨h0, ⟨rfl, h2⟩ | ⟨g, cap, cur, rfl, hg, hh, hnc, hcm, hcs, ht⟩⟩ := h
  · omega
  · refine ⟨g, cap, rfl, hnc, hcm, lt_of_heap hh, fun u hu i x hx => ?_⟩
    have hi : i < 10 := (List.getElem?_eq_some_iff.1 hx).1
    rw [blk_cell (hu.trans hh), ← Array.getElem?_toList, ← List.getElem?_take_of_lt (l := cur.toList) (show j * 10 + i < n * 10 by omega), ht, callCells_at l j i s hj hi, ← Array.getElem?_toList]
    exact hx
set_option maxRecDepth 100000 in
set_option maxHeartbeats 4000000 in
theorem calm_any {own : Nat → Nat} {base q boot k : Nat} {h : Hd} {a : Ak} {ms : List Mg} (w : World) (H : AkAt own base w q h a) (hB : base ≤ w.heap.size) (hI : Inv boot k a ms) (hk : k ≤ 800) (hx0 : a.x = fun _ => none) :
    Calls Tryz.prog 15 #[.pointer (some ⟨q, 0, none⟩)] w (fun e w' => e = .returned (.bool true) ∧ Below base w w') := by
  obtain ⟨pc, pr, pb, vd, vt, vs⟩ := h
  have HC := Lib.hid (show CSx boot k base q ⟨pc, pr, pb, vd, vt, vs⟩ w ms a.c.opn (fun _ => none) w from ⟨own, a, H, hI, rfl, hx0, Below.refl _ _⟩)
  clear H hI hx0
  obtain ⟨opn0, ho0⟩ : ∃ l, l = a.c.opn := ⟨_, rfl⟩
  rw [← ho0] at HC
  clear ho0
  go_enter Tryz.func15, Tryz.ntmps15
  go_wp2_with fail
  go_loopg [3] ms.length (fun g s3 wr => ∃ ms', g = ms'.length ∧ CSx boot k base q ⟨pc, pr, pb, vd, vt, vs⟩ w ms' opn0 (fun _ => none) wr)
  case atStart => exact ⟨ms, rfl, HC.out⟩
  case round =>
    obtain ⟨ms1, rfl, own1, a1, h1⟩ := hrel
    have HS := Lib.hid h1
    clear h1 HC
    have q2 : wr.cell? ⟨q, 2, none⟩ = some (.pointer (some ⟨pb, 0, none⟩)) := HS.out.as.cells 2
    cases ms1 with
    | cons m ms2 =>
      obtain ⟨p, hp⟩ : ∃ p, p = ms2.length := ⟨_, rfl⟩
      have hn : a1.b.l.length = p + 1 := by rw [HS.out.inv.bag, hp]; simp
      have HP := Lib.hid hp
      have hsm : p + 1 ≤ 48 := by rw [← hn]; exact HS.out.ak.bag.small
      have d1 : decide (0 < p + 1) = true := decide_eq_true (by omega)
      clear hp
      go_wp2_with fail
      refine (Bg7.len_any (fun k => own1 k = 3) pb a1.b _ HS.out.ak.bag).mono ?_
      rintro e w' ⟨rfl, rfl⟩
      rw [hn]
      have hsub : IntKind.i64.wrap (((p + 1 : Nat) : Int) - 1) = (p : Int) := by rw [IntWalk.i64_in _ (by omega)]; omega
      go_wp2_with fail
      refine (Bg7.len_any (fun k => own1 k = 3) pb a1.b _ HS.out.ak.bag).mono ?_
      rintro e w' ⟨rfl, rfl⟩
      rw [hn]
      go_wp2_with fail
      refine (drop_ak (h := ⟨pc, pr, pb, vd, vt, vs⟩) 0 _ HS.out.ak (Nat.le_trans hB HS.out.low.size)).mono ?_
      rintro e w2 ⟨rfl, own2, hk2, hb2⟩
      have hI2 := HS.out.inv.popped rfl
      have HS2 := Lib.hid (show CS boot k base q ⟨pc, pr, pb, vd, vt, vs⟩ w ms2 opn0 (fun _ => none) own2 { a1 with b := a1.b.drop 0 } w2 from ⟨hk2, hI2, HS.out.opn, HS.out.x, HS.out.low.trans hb2⟩)
      have hn2 : (a1.b.drop 0).l.length = p := by
        have e1 : (a1.b.drop 0).l = ms2.map fun m => pkt (m.ms boot) := hI2.bag
        rw [e1, HP.out]; simp
      clear hk2 hb2 hI2 q2
      have q2 : w2.cell? ⟨q, 2, none⟩ = some (.pointer (some ⟨pb, 0, none⟩)) := HS2.out.as.cells 2
      go_wp2_with fail
      refine (Bg7.len_any (fun k => own2 k = 3) pb (a1.b.drop 0) _ HS2.out.ak.bag).mono ?_
      rintro e w' ⟨rfl, rfl⟩
      rw [hn2]
      go_wp2_with fail
      go_roundg p
      case measure => simp [HP.out]
      case rel => exact ⟨ms2, HP.out, own2, _, HS2.out⟩
    | nil =>
      have hn : a1.b.l.length = 0 := by rw [HS.out.inv.bag]; rfl
      go_wp2_with fail
      refine (Bg7.len_any (fun k => own1 k = 3) pb a1.b _ HS.out.ak.bag).mono ?_
      rintro e w' ⟨rfl, rfl⟩
      rw [hn]
      have q0 : wr.cell? ⟨q, 0, none⟩ = some (.pointer (some ⟨pc, 0, none⟩)) := HS.out.as.cells 0
      go_wp2_with fail
      have hfo := HS.out.inv.few_open
      have hnx := HS.out.inv.next
      have hfw := HS.out.inv.few.1
      refine (list_any (fun k => own1 k = 1) pc a1.c _ HS.out.ak.calls HS.out.inv.cok (by omega) (by omega)).mono ?_
      rintro e w2 ⟨v, rfl, hown, _, hb2⟩
      rw [HS.out.opn] at hown hfo
      obtain ⟨n, hn0⟩ : ∃ n, n = opn0.length := ⟨_, rfl⟩
      rw [← hn0] at hown hfo
      have HN := Lib.hid hn0
      have HOWN := Lib.hid hown
      have hS2 := HS.out.below hB hb2
      have hmark := hS2.ak.mark hS2.x v.ownBlock (fun g hg => ⟨Classical.byContradiction fun e => by
        have := (HS.out.ak.back g e).2
        have := (hown.lt g hg).1
        omega, by
        have := (hown.lt g hg).1
        have := HS.out.low.size
        omega, (hown.lt g hg).2⟩)
      obtain ⟨X, hX⟩ : ∃ X, X = fun k => if v.ownBlock = some k then w2.heap[k]? else none := ⟨_, rfl⟩
      have HX := Lib.hid hX
      have HS2 := Lib.hid (show CSx boot k base q ⟨pc, pr, pb, vd, vt, vs⟩ w [] opn0 X w2 from ⟨_, _, hmark, { hS2.inv with }, hS2.opn, hX.symm, hS2.low⟩)
      clear hmark hX hS2 hb2 hn0 hnx hfw
      obtain ⟨ga, gc, rfl⟩ := Bg8.own_slice hown
      clear hown
      go_wp2_with fail
      go_loopg [43] n (fun g s43 wt => ∃ j : Nat, j ≤ n ∧ g = n - j ∧ s43 = .int .i64 j ∧ CSx boot (k + 3 * j) base q ⟨pc, pr, pb, vd, vt, vs⟩ w [] (opn0.drop j) X wt)
      case atStart => exact ⟨0, by omega, rfl, rfl, HS2.out⟩
      case round =>
        obtain ⟨j, hj, rfl, rfl, own3, a3, h3⟩ := hrel
        have HT := Lib.hid h3
        clear h3
        by_cases hlt : j < n
        · obtain ⟨s, hs⟩ : ∃ s, opn0[j]? = some s := ⟨_, List.getElem?_eq_getElem (by have := HN.out; omega)⟩
          obtain ⟨g, c, e1, hc1, hc2, hgl, hcells⟩ := list_at HOWN.out HN.out.symm hs
          obtain ⟨rfl, rfl⟩ : ga = some ⟨g, 0, none⟩ ∧ gc = c := by simpa using e1
          have hxg : wr.heap[g]? = w2.heap[g]? := by
            have e2 : a3.x g = w2.heap[g]? := by
              rw [HT.out.x, HX.out]
              exact if_pos rfl
            rw [Array.getElem?_eq_getElem hgl] at e2
            rw [(HT.out.ak.ext g _ e2).2, Array.getElem?_eq_getElem hgl]
          have hrg : wr.rangeAt g (j * 10) [.int .i64 (s : Int), .int .i64 0, .int .i64 3, .string estr, .int .i64 0, .int .i64 0, .int .i64 9, .bool false, .int .i64 5, .int .i64 1] := hcells wr hxg
          have HRG := Lib.hid hrg
          have hdrop : opn0.drop j = s :: opn0.drop (j + 1) := by
            obtain ⟨h1, h2⟩ := List.getElem?_eq_some_iff.1 hs
            rw [List.drop_eq_getElem_cons h1, h2]
          have HD := Lib.hid hdrop
          have k0 : (0 : Int) ≤ (j : Int) := by omega
          have k1 : (j : Int) < (n : Int) := by omega
          have k2 : (j : Int) ≤ 1000 := by omega
          clear hrg hcells hxg hs hdrop e1
          go_wp2_with (first
            | (refine wpList_load_mid rfl 75 (.tmp 46) rfl g (j * 10) (by first | rfl | simp) _ _ HRG.out Tryz.underlying75 rfl (by kernel_rfl) ?_)
            | (refine wpList_store_row rfl 75 (.tmp 5) (.tmp 47) rfl wr.heap.size #[.int .i64 (s : Int), .int .i64 0, .int .i64 3, .string estr, .int .i64 0, .int .i64 0, .int .i64 9, .bool false, .int .i64 5, .int .i64 1] rfl rfl 75 _ (heap_at _ _ _ rfl) (by kernel_rfl) rfl (callC_one s 5 1) ?_; rw [World.setRow_alloc_new]))
          refine world_out (fun u => CS boot (k + 3 * j) base q ⟨pc, pr, pb, vd, vt, vs⟩ w [] (opn0.drop j) X own3 a3 u ∧ u.heap[wr.heap.size]? = some (Obj.cells #[.int .i64 (s : Int), .int .i64 0, .int .i64 3, .string estr, .int .i64 0, .int .i64 0, .int .i64 9, .bool false, .int .i64 5, .int .i64 1] 75 (0, 0))) ⟨HT.out.below hB ((Below.refl _ _).alloc (Nat.le_refl _) _), heap_at wr _ _ rfl⟩ ?_
          rintro w3 ⟨h3, hb3⟩
          have HS3 := Lib.hid h3
          have hsin : s ∈ a3.c.opn := by rw [h3.opn, HD.out]; exact List.mem_cons_self
          have HSI := Lib.hid hsin
          have hok := h3.inv.ask_ok hsin
          have HOK := Lib.hid hok
          obtain ⟨m, hm⟩ : ∃ m, m = askM 1 boot s a3.c.low := ⟨_, rfl⟩
          have HM := Lib.hid hm
          have HF := Lib.hid (show Fine m from hm ▸ Mg.fine h3.inv (by have := HN.out; omega) hok)
          have hnx := h3.inv.next
          have hfw := h3.inv.few.1
          have HAS := Lib.hid (fun (W : World) (hW : CallsAt (fun k => own3 k = 1) W pc a3.c) => (asked_in (fun k => own3 k = 1) pc a3.c s W hW h3.inv.cok (by omega) hsin).mono (R' := fun e w' => e = .returned (.tuple #[.agg m.cells, .bool true]) ∧ Below W.heap.size W w') (fun e w' hp => ⟨by rw [hm, ← h3.inv.cboot]; exact hp.1, hp.2.2⟩))
          have hs16 : m.cells.size = 16 := rfl
          have hz1 : m.cells.all (·.oneCell') = true := Ms.one _
          have hzi : (Tryz.prog.info? 51).map (·.size) = some m.cells.size := by rw [hs16]; kernel_rfl
          have q0 : w3.cell? ⟨q, 0, none⟩ = some (.pointer (some ⟨pc, 0, none⟩)) := h3.as.cells 0
          have x0 : w3.cell? ⟨wr.heap.size, 0, none⟩ = some (.int .i64 (s : Int)) := blk_cell hb3 0
          have HSD := Lib.hid (show AB own3 base q ⟨pc, pr, pb, vd, vt, vs⟩ a3 w wr.heap.size _ w3.drew from ⟨(h3.below hB (below_drew w3)).as, hb3, (HT.out.as.fresh hB (Nat.le_refl _)).1⟩)
          clear h3 hb3 hm hok hsin
          go_wp2_with fail
          go_region_held_law (fun u => u.cell? ⟨q, 0, none⟩ = some (.pointer (some ⟨pc, 0, none⟩)) ∧ u.cell? ⟨wr.heap.size, 0, none⟩ = some (.int .i64 (s : Int))) (first | (go_split_ands; exact ⟨by assumption, by assumption⟩) | go_keep) (first
            | (go_at_call 13; (refine (HAS.out _ (by first | exact HSD.out.st.ak.calls | exact (HSD.out.below hB ((Below.refl _ _).alloc (Nat.le_refl _) _)).st.ak.calls)).mono ?_); rintro e w4 ⟨rfl, hb4⟩;
                first
                | (have hz := HSD.out.below hB hb4; have hy := hz.below hB ((Below.refl _ _).alloc (Nat.le_refl _) (.cells #[.int .i64 0, .int .i64 0, .int .i64 0, .int .i64 0, .int .i64 0, .int .i64 0, .int .i64 0, .string ⟨#[]⟩, .int .i64 0, .int .i64 0, .int .i64 0, .bool false, .int .i64 0, .slice none 0 0, .int .i64 0, .int .i64 0] 51)); (obtain ⟨hf1, hf2, hf3⟩ := hz.fresh hB (Nat.le_refl _)); (obtain ⟨hst, hx, hxx⟩ := hy.stored (heap_at w4 _ _ rfl) (xs := m.cells) rfl hzi hz1 hf1 hf2 hf3); have hz0 := hz.st.cells 0; have hz4 := blk_cell hz.blk 0; have hy0 := hy.st.cells 0; have hy4 := blk_cell hy.blk 0; have hx0 := hx.st.cells 0; have hx4 := blk_cell hx.blk 0)
                | (have hz := (HSD.out.below hB ((Below.refl _ _).alloc (Nat.le_refl _) _)).below hB hb4; (obtain ⟨hf1, hf2, hf3⟩ := HSD.out.fresh hB (Nat.le_refl _)); have hbx := ((hb4.block w3.heap.size (by simp)).trans (heap_at _ (.cells #[.int .i64 0, .int .i64 0, .int .i64 0, .int .i64 0, .int .i64 0, .int .i64 0, .int .i64 0, .string ⟨#[]⟩, .int .i64 0, .int .i64 0, .int .i64 0, .bool false, .int .i64 0, .slice none 0 0, .int .i64 0, .int .i64 0] 51) _ rfl)); (obtain ⟨hst, hx, hxx⟩ := hz.stored (r := w3.heap.size) hbx (xs := m.cells) rfl hzi hz1 hf1 hf2 hf3); have hz0 := hz.st.cells 0; have hz4 := blk_cell hz.blk 0; have hx0 := hx.st.cells 0; have hx4 := blk_cell hx.blk 0)))
          all_goals
            first
            | refine world_out (fun u => AS own3 base q ⟨pc, pr, pb, vd, vt, vs⟩ a3 w u ∧ u.heap[w4.heap.size]? = some (Obj.cells m.cells 51 (0, 0))) ⟨hx.st, hxx⟩ ?_
            | refine world_out (fun u => AS own3 base q ⟨pc, pr, pb, vd, vt, vs⟩ a3 w u ∧ u.heap[w3.heap.size]? = some (Obj.cells m.cells 51 (0, 0))) ⟨hx.st, hxx⟩ ?_
            clear hz hf1 hf2 hf3 hst hx hxx hz0 hz4 hx0 hx4 hb4
            rintro w5 ⟨h5, hb5⟩
            have HS5 := Lib.hid h5
            have HB5 := Lib.hid hb5
            clear h5 hb5
            go_wp2_with (refine wpList_load_row rfl 51 (.tmp 6) rfl _ rfl 51 m.cells (0, 0) _ HB5.out Tryz.underlying51 rfl (by kernel_rfl) ?_)
            refine (sends_ak m HS5.out.ak (Nat.le_trans hB HS5.out.low.size) HF.out (by have := HS3.out.inv.few; omega) (by have := HS3.out.inv.few; omega)).mono ?_
            rintro e w6 ⟨rfl, own6, hk6, hb6⟩
            obtain ⟨ms6, hi6, hms6⟩ := HS3.out.inv.send (by omega) HOK.out
            rw [hms6 rfl] at hi6
            have HI6 := Lib.hid (show Inv boot (k + 3 * j + 1) { a3 with b := a3.b.send (pkt m) } [Mg.ask s a3.c.low] from HM.out ▸ hi6)
            have HS6 := Lib.hid (show AS own6 base q ⟨pc, pr, pb, vd, vt, vs⟩ { a3 with b := a3.b.send (pkt m) } w w6 from ⟨hk6, HS5.out.low.trans hb6⟩)
            clear hk6 hb6 hi6 hms6
            have q2 : w6.cell? ⟨q, 2, none⟩ = some (.pointer (some ⟨pb, 0, none⟩)) := HS6.out.cells 2
            go_wp2_with fail
            refine (take_ak (h := ⟨pc, pr, pb, vd, vt, vs⟩) 0 _ HS6.out.ak (Nat.le_trans hB HS6.out.low.size) (HS6.out.ak.datalen 0)).mono ?_
            rintro e w7 ⟨hk7, hb7, hcase⟩
            have hat := ((at_zero HI6.out.bag).2 _ _ rfl).1
            rcases hcase with ⟨h0, _⟩ | ⟨p, dv, h0, rfl, hdv⟩
            · rw [h0] at hat; cases hat
            rw [h0] at hat
            injection hat with hp
            have HP := Lib.hid hp
            have HI7 := Lib.hid (HI6.out.popped rfl)
            have HS7 := Lib.hid (AS.below (show AS own6 base q ⟨pc, pr, pb, vd, vt, vs⟩ { { a3 with b := a3.b.send (pkt m) } with b := (a3.b.send (pkt m)).drop 0 } w w7 from ⟨hk7, HS6.out.low.trans hb7⟩) hB ((Below.refl _ _).alloc (Nat.le_refl _) (.cells #[.int .i64 p.src, .int .i64 p.dst, dv] 41)))
            have HDV := Lib.hid (hdv.below ((Below.refl _ _).alloc (Nat.le_refl _) (.cells #[.int .i64 p.src, .int .i64 p.dst, dv] 41)))
            obtain ⟨da, dc, rfl, _⟩ := hdv
            have hadd : IntKind.i64.wrap ((j : Int) + 5000) = ((j + 5000 : Nat) : Int) := by rw [IntWalk.i64_in _ (by omega)]; omega
            clear hk7 hb7 h0 hp q2
            go_wp2_with (refine wpList_store_row rfl 41 (.tmp 8) (.tmp 67) rfl w7.heap.size #[.int .i64 p.src, .int .i64 p.dst, .slice da p.data.length dc] rfl rfl 41 _ (heap_at _ _ _ rfl) (by kernel_rfl) rfl rfl ?_; rw [World.setRow_alloc_new])
            refine (arrives_any (h := ⟨pc, pr, pb, vd, vt, vs⟩) (boot := boot) (k := k + 3 * j + 1) (fun b => w6.heap.size ≤ b) (j + 5000) (Mg.ask s a3.c.low) p.src p.dst _ _ HS7.out.ak (Nat.le_trans hB HS7.out.low.size) HI7.out (by omega) (HI7.out.ask_ok HSI.out) (fun _ _ _ => by omega) (by have := HDV.out; rw [HP.out] at this ⊢; exact this)).mono ?_
            rintro e w8 ⟨rfl, a8, own8, harr, hk8, hb8⟩
            obtain ⟨id, hi8, hc8, hx8⟩ := Arr.answered HI7.out (by omega) (by omega) HSI.out harr
            have HI8 := Lib.hid hi8
            have HC8 := Lib.hid hc8
            have HX8 := Lib.hid hx8
            have HS8 := Lib.hid (show AS own8 base q ⟨pc, pr, pb, vd, vt, vs⟩ a8 w w8 from ⟨hk8, HS7.out.low.trans hb8⟩)
            clear hk8 hb8 hi8 hc8 hx8 harr
            have q2 : w8.cell? ⟨q, 2, none⟩ = some (.pointer (some ⟨pb, 0, none⟩)) := HS8.out.cells 2
            go_wp2_with fail
            refine (take_ak (h := ⟨pc, pr, pb, vd, vt, vs⟩) 0 _ HS8.out.ak (Nat.le_trans hB HS8.out.low.size) (HS8.out.ak.datalen 0)).mono ?_
            rintro e w9 ⟨hk9, hb9, hcase⟩
            have hat := ((at_zero HI8.out.bag).2 _ _ rfl).1
            rcases hcase with ⟨h0, _⟩ | ⟨p2, dv, h0, rfl, hdv⟩
            · rw [h0] at hat; cases hat
            rw [h0] at hat
            injection hat with hp
            have HP2 := Lib.hid hp
            have HI9 := Lib.hid (HI8.out.popped rfl)
            have HS9 := Lib.hid (AS.below (show AS own8 base q ⟨pc, pr, pb, vd, vt, vs⟩ { a8 with b := a8.b.drop 0 } w w9 from ⟨hk9, HS8.out.low.trans hb9⟩) hB ((Below.refl _ _).alloc (Nat.le_refl _) (.cells #[.int .i64 p2.src, .int .i64 p2.dst, dv] 41)))
            have HDV2 := Lib.hid (hdv.below ((Below.refl _ _).alloc (Nat.le_refl _) (.cells #[.int .i64 p2.src, .int .i64 p2.dst, dv] 41)))
            obtain ⟨ea, ec, rfl, _⟩ := hdv
            have hmk8 := HI8.out.msgs _ List.mem_cons_self
            have hsin9 : s ∈ a8.c.opn := by rw [HC8.out]; exact HSI.out
            clear hk9 hb9 h0 hp q2
            go_wp2_with (refine wpList_store_row rfl 41 (.tmp 10) (.tmp 89) rfl w9.heap.size #[.int .i64 p2.src, .int .i64 p2.dst, .slice ea p2.data.length ec] rfl rfl 41 _ (heap_at _ _ _ rfl) (by kernel_rfl) rfl rfl ?_; rw [World.setRow_alloc_new])
            have hok9 : (Mg.rep s id).ok { a8 with b := a8.b.drop 0 } := hmk8
            refine (arrives_any (h := ⟨pc, pr, pb, vd, vt, vs⟩) (boot := boot) (k := k + 3 * j + 1 + 1) (fun b => w8.heap.size ≤ b) 0 (Mg.rep s id) p2.src p2.dst _ _ HS9.out.ak (Nat.le_trans hB HS9.out.low.size) HI9.out (by omega) hok9 (fun _ _ e => by cases e) (by have := HDV2.out; rw [HP2.out] at this ⊢; exact this)).mono ?_
            rintro e w10 ⟨rfl, a10, own10, harr, hk10, hb10⟩
            obtain ⟨hi10, hc10, hx10⟩ := Arr.closed HI9.out hok9 hsin9 harr
            have hopn10 : a10.c.opn = opn0.drop (j + 1) := by
              rw [hc10]
              show a8.c.opn.filter (· ≠ s) = _
              rw [HC8.out]
              exact close_head (HS3.out.opn.trans HD.out) HS3.out.inv.cok.sorted
            have HE := Lib.hid (show CSx boot (k + 3 * (j + 1)) base q ⟨pc, pr, pb, vd, vt, vs⟩ w [] (opn0.drop (j + 1)) X w10 from ⟨own10, a10, hk10, hi10.more (by omega), hopn10, hx10.trans (HX8.out.trans HS3.out.x), HS9.out.low.trans hb10⟩)
            clear hi10 hc10 hx10 hopn10 hk10 hb10 harr hok9 hmk8 hsin9
            go_wp2_with fail
            go_roundg (n - (j + 1))
            case measure => omega
            case rel => exact ⟨j + 1, by omega, rfl, by push_cast; rfl, HE.out⟩
        · obtain rfl : j = n := by omega
          have hd0 : opn0.drop j = [] := List.drop_of_length_le (by have := HN.out; omega)
          rw [hd0] at HT
          clear hd0
          obtain ⟨wo, rfl⟩ : ∃ wo : World, wo = wr := ⟨_, rfl⟩
          obtain ⟨xd, cd, hvd⟩ : ∃ x c, vd = .slice x a3.done.length c := HT.out.ak.done.slice
          subst hvd
          obtain ⟨nd, hnd⟩ : ∃ nd, nd = a3.done.length := ⟨_, rfl⟩
          rw [← hnd] at HT
          have HND := Lib.hid hnd
          have q3 : wo.cell? ⟨q, 3, none⟩ = some (.slice xd nd cd) := HT.out.as.cells 3
          have hnd9 : nd ≤ 900 := by have := HT.out.inv.few.1; have := HN.out; omega
          clear hnd
          go_wp2_with fail
          go_loopg [105] nd (fun g s105 wt => ∃ i : Nat, i ≤ nd ∧ g = nd - i ∧ s105 = .int .i64 i ∧ Below wo.heap.size wo wt)
          case atStart => exact ⟨0, by omega, rfl, rfl, Below.refl _ _⟩
          case round =>
            obtain ⟨i, hi, rfl, rfl, hbt⟩ := hrel
            have HT3 := Lib.hid (HT.out.below hB hbt)
            have HBT := Lib.hid hbt
            clear hbt
            by_cases hlt : i < nd
            · obtain ⟨id, i1, d1, t1, s1⟩ := HT.out.inv.rest HT.out.opn (j := i) (by have := HND.out; omega)
              have hl1 := HT.out.inv.lent
              have hl2 := HT.out.inv.lens
              obtain ⟨gd, cd', e1, -⟩ := HT3.out.ak.done.at_ (j := i) (by have := HND.out; omega)
              obtain ⟨gt, ct, e2, -⟩ := HT3.out.ak.told.at_ (j := i) (by have := HND.out; omega)
              obtain ⟨gs, cs, e3, -⟩ := HT3.out.ak.seen.at_ (j := i) (by have := HND.out; omega)
              dsimp only at e1 e2 e3
              obtain ⟨rfl, rfl⟩ : xd = some ⟨gd, 0, none⟩ ∧ cd = cd' := by
                injection e1 with e1 _ e2
                exact ⟨e1, e2⟩
              rw [hl1, ← HND.out] at e2
              rw [hl2, ← HND.out] at e3
              have q3 : wr.cell? ⟨q, 3, none⟩ = some (.slice (some ⟨gd, 0, none⟩) nd cd) := HT3.out.as.cells 3
              have q4 : wr.cell? ⟨q, 4, none⟩ = some (.slice (some ⟨gt, 0, none⟩) nd ct) := by
                have : wr.cell? ⟨q, 4, none⟩ = some vt := HT3.out.as.cells 4
                rw [this, e2]
              have q5 : wr.cell? ⟨q, 5, none⟩ = some (.slice (some ⟨gs, 0, none⟩) nd cs) := by
                have : wr.cell? ⟨q, 5, none⟩ = some vs := HT3.out.as.cells 5
                rw [this, e3]
              obtain ⟨c3, _⟩ := HT3.out.ak.done.cellAt rfl d1
              obtain ⟨c4, _⟩ := HT3.out.ak.told.cellAt e2 t1
              obtain ⟨c5, _⟩ := HT3.out.ak.seen.cellAt e3 s1
              have k0 : (0 : Int) ≤ (i : Int) := by omega
              have k1 : (i : Int) < (nd : Int) := by omega
              have z0 : decide ((id : Int) = 0) = false := decide_eq_false (by omega)
              have z1 : decide (id = 0) = false := decide_eq_false (by omega)
              have n1 : ((1 : Int) != 1) = false := rfl
              have n2 : ((id : Int) != (id : Int)) = false := by simp
              have n3 : ((id : Int) == 0) = false := by simp; omega
              clear e1 e2 e3 d1 t1 s1 hl1 hl2 i1
              go_wp2_with fail
              go_quiet (fail)
              go_wp2_with fail
              go_roundg (nd - (i + 1))
              case measure => omega
              case rel => exact ⟨i + 1, by omega, rfl, by push_cast; rfl, HBT.out.trans ((below_drewN wr nq).mono HBT.out.size)⟩
            · obtain rfl : i = nd := by omega
              have q0 : wr.cell? ⟨q, 0, none⟩ = some (.pointer (some ⟨pc, 0, none⟩)) := HT3.out.as.cells 0
              have hnx := HT3.out.inv.next
              have ho := HT3.out.opn
              have hnd := HND.out
              go_wp2_with fail
              refine (list_any (fun k => own3 k = 1) pc a3.c _ HT3.out.ak.calls HT3.out.inv.cok (by rw [ho]; simp) (by omega)).mono ?_
              rintro e w11 ⟨v, rfl, hown, _, hb11⟩
              rw [ho] at hown
              have HE := Lib.hid (HT3.out.low.trans (hb11.mono (Nat.le_trans hB HT3.out.low.size)))
              obtain ⟨ga, gc, hv⟩ := Bg8.own_slice hown
              have hv' : v = .slice ga 0 gc := hv
              subst hv'
              clear hown hv hb11 hnx ho hnd
              go_wp2_with fail
              go_ret
              exact ⟨rfl, HE.out⟩
end Go.Proofs.YtaelbgjcoakdlaaGreat
