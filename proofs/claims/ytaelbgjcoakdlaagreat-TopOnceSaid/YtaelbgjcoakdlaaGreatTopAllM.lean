/- THE WALK of TopOnce.  TopOnce, for any boot. -/
import Derived.Test.YtaelbgjcoakdlaaGreatTopsM
namespace Go.Proofs.YtaelbgjcoakdlaaGreat
open Go.RowKit Go.Maps

theorem topOnce_bad (boot : Int) (v : Value) (w : World) (hb : boot < 1 ∨ 1099511627776 < boot) :
    Calls Tryz.prog 3 #[.int .i64 boot, v] w (fun e w' => e = .returned (.bool true) ∧ Below w.heap.size w w') := by
  have HB := Lib.hid hb
  clear hb
  go_enter Tryz.func3, Tryz.ntmps3
  go_wp2_with fail
  refine (newCalls_bad boot _ HB.out).mono ?_
  rintro e w1 ⟨rfl, rfl⟩
  by_cases h1 : boot < 1
  · have d1 : decide (boot < 1) = true := decide_eq_true h1
    clear h1
    go_wp2_with fail
    go_ret
    exact ⟨rfl, Below.refl _ _⟩
  · have d1 : decide (boot < 1) = false := decide_eq_false h1
    have d2 : decide (1099511627776 < boot) = true := decide_eq_true (by have := HB.out; omega)
    clear h1
    go_wp2_with fail
    go_ret
    exact ⟨rfl, Below.refl _ _⟩
theorem inv_start {boot : Nat} (hb : 1 ≤ boot ∧ boot ≤ 1099511627776) : Inv boot 0 ⟨⟨boot, 1, []⟩, Rep.first 1, ⟨[], 0, 0⟩, [], [], [], fun _ => none⟩ [] := by
  refine ⟨⟨List.Pairwise.nil, fun k hk => (by cases hk)⟩, rfl, hb, rfl, rfl, rfl, ?_, rfl, fun m hm => (by cases hm), ⟨Nat.le_refl _, Nat.le_refl _, Nat.le_refl _⟩, fun j hj => ?_, fun j hj => ?_, Nat.zero_le _, Nat.le_refl _, fun j hj => ?_, fun j hj => ?_, fun i => Nat.le_refl _⟩
  · show 1 ≤ 1 + 8
    omega
  · exact absurd hj (Nat.not_lt_zero _)
  · exact absurd hj (Nat.not_lt_zero _)
  · exact absurd hj (Nat.not_lt_zero _)
  · exact absurd hj (Nat.not_lt_zero _)
/-- The asker, as it is made. -/
theorem ak_start {w w1 w2 w3 : World} {p boot : Nat} (hc : CallsAt (fun b => w.heap.size ≤ b) w1 p ⟨boot, 1, []⟩) (h1 : Below w.heap.size w w1) (hr : RepAt w2 w1.heap.size (Rep.first 1)) (h2 : Below w1.heap.size w1 w2) (hb : Bg7.BagAt (fun k => k = w2.heap.size) w3 w2.heap.size ⟨[], 0, 0⟩) (h3 : Below w2.heap.size w2 w3) :
    ∃ own, AkAt own w.heap.size (w3.alloc (.cells #[.pointer (some ⟨p, 0, none⟩), .pointer (some ⟨w1.heap.size, 0, none⟩), .pointer (some ⟨w2.heap.size, 0, none⟩), .slice none 0 0, .slice none 0 0, .slice none 0 0] 34)) w3.heap.size ⟨p, w1.heap.size, w2.heap.size, .slice none 0 0, .slice none 0 0, .slice none 0 0⟩ ⟨⟨boot, 1, []⟩, Rep.first 1, ⟨[], 0, 0⟩, [], [], [], fun _ => none⟩ := by
  have hr1 := hr.lt
  have hb1 := hb.head.2
  have hs1 := h1.size
  have hs2 := h2.size
  have hs3 := h3.size
  have hA : Below w3.heap.size w3 (w3.alloc (.cells #[.pointer (some ⟨p, 0, none⟩), .pointer (some ⟨w1.heap.size, 0, none⟩), .pointer (some ⟨w2.heap.size, 0, none⟩), .slice none 0 0, .slice none 0 0, .slice none 0 0] 34)) := (Below.refl _ _).alloc (Nat.le_refl _) _
  obtain ⟨own, hown⟩ : ∃ own : Nat → Nat, own = fun k => if k = w3.heap.size then 7 else if k = w2.heap.size then 3 else if k = w1.heap.size then 2 else if w.heap.size ≤ k ∧ k < w1.heap.size then 1 else 0 := ⟨_, rfl⟩
  have hcs : CallsAt (fun k => own k = 1) w1 p ⟨boot, 1, []⟩ := hc.tight.mono (fun k hk h => by
    rw [hown]; dsimp only
    rw [if_neg (by omega), if_neg (by omega), if_neg (by omega), if_pos h])
  refine ⟨own, heap_at w3 _ _ rfl, by rw [hown]; exact if_pos rfl, ((hcs.below h2).below h3).below hA, ((hr.below h3).below hA), ?_, (hb.mono (fun k _ e => ?_)).below hA, ⟨World.ownsRow_nil _ _ _ _, fun g hg => by cases hg⟩, ⟨World.ownsRow_nil _ _ _ _, fun g hg => by cases hg⟩, ⟨World.ownsRow_nil _ _ _ _, fun g hg => by cases hg⟩, fun k hk => ?_, fun k o hk => by cases hk⟩
  · rw [hown]; dsimp only
    rw [if_neg (by omega), if_neg (by omega), if_pos rfl]
  · subst e
    rw [hown]; dsimp only
    rw [if_neg (by omega), if_pos rfl]
  · rw [hown] at hk
    dsimp only at hk
    have hsz : (w3.alloc (.cells #[.pointer (some ⟨p, 0, none⟩), .pointer (some ⟨w1.heap.size, 0, none⟩), .pointer (some ⟨w2.heap.size, 0, none⟩), .slice none 0 0, .slice none 0 0, .slice none 0 0] 34)).heap.size = w3.heap.size + 1 := by simp
    rw [hsz]
    split at hk
    · omega
    · split at hk
      · omega
      · split at hk
        · omega
        · split at hk
          · omega
          · exact absurd rfl hk
set_option maxRecDepth 100000 in
set_option maxHeartbeats 4000000 in
theorem topOnce_any (b : Nat) (hb : 1 ≤ b ∧ b ≤ 1099511627776) (l : List (Int × Int)) (v : Value) (w : World) (hv : ActsIn w v l) :
    Calls Tryz.prog 3 #[.int .i64 (b : Int), v] w (fun e w' => e = .returned (.bool true) ∧ Below w.heap.size w w') := by
  have HV := Lib.hid hv
  obtain ⟨va, vc, rfl, _⟩ := hv
  obtain ⟨n, hn⟩ : ∃ n, n = l.length := ⟨_, rfl⟩
  have HN := Lib.hid hn
  rw [← hn] at HV ⊢
  clear hn
  go_enter Tryz.func3, Tryz.ntmps3
  go_wp2_with fail
  refine (newCalls_any b w hb.1 hb.2).mono ?_
  rintro e w1 ⟨p, rfl, hc1, hb1⟩
  have HC1 := Lib.hid hc1
  have HB1 := Lib.hid hb1
  clear hc1 hb1
  go_wp2_with fail
  refine (reps_any _).mono ?_
  rintro e w2 ⟨rfl, hr2, hb2⟩
  go_wp2_with fail
  refine (Bg7.new_any _).mono ?_
  rintro e w3 ⟨rfl, hg3, hb3⟩
  obtain ⟨own0, hk0⟩ := ak_start HC1.out HB1.out hr2 hb2 hg3 hb3
  have HK0 := Lib.hid (show TS b 0 w.heap.size w3.heap.size p w1.heap.size w2.heap.size w own0 ⟨p, w1.heap.size, w2.heap.size, .slice none 0 0, .slice none 0 0, .slice none 0 0⟩ _ [] _ from ⟨⟨hk0, (HB1.out.trans (hb2.mono HB1.out.size)).trans (((hb3.mono (Nat.le_trans HB1.out.size hb2.size))).trans ((Below.refl _ _).alloc (Nat.le_trans HB1.out.size (Nat.le_trans hb2.size hb3.size)) _))⟩, inv_start hb, rfl, rfl, rfl, rfl⟩)
  clear hr2 hb2 hg3 hb3 hk0
  have q1 := blk_cell HK0.out.st.ak.head 1
  have q2 := blk_cell HK0.out.st.ak.head 2
  go_wp2_with fail
  refine (opens_inv HK0.out (Nat.le_refl _) (by omega)).mono ?_
  rintro e w4 ⟨rfl, own4, h4, a4, ms4, H4, hlen4⟩
  obtain ⟨q, hq⟩ : ∃ q, q = w3.heap.size := ⟨_, rfl⟩
  obtain ⟨pc, hpc⟩ : ∃ pc, pc = p := ⟨_, rfl⟩
  obtain ⟨pr, hpr⟩ : ∃ pr, pr = w1.heap.size := ⟨_, rfl⟩
  obtain ⟨pb, hpb⟩ : ∃ pb, pb = w2.heap.size := ⟨_, rfl⟩
  rw [← hq, ← hpc, ← hpr, ← hpb] at H4
  rw [← hq, ← hpc]
  have HT4 := Lib.hid H4
  have hl4 : a4.b.l.length = 1 := by
    rw [H4.inv.bag, List.length_map]
    refine hlen4 rfl ?_
    unfold Cl.busy
    show ¬ (4 ≤ 0 ∨ 8 ≤ 1 - 1)
    omega
  obtain ⟨e1, e2, e3⟩ := H4.hd
  have q2 : w4.cell? ⟨q, 2, none⟩ = some (.pointer (some ⟨pb, 0, none⟩)) := by rw [← e3]; exact H4.st.cells 2
  have HE3 := Lib.hid e3
  clear H4 hlen4 q1 HK0 e1 e2 e3 hpc hpr hpb hq
  go_wp2_with fail
  refine (Bg7.len_any (fun k => own4 k = 3) pb a4.b _ (by rw [← HE3.out]; exact HT4.out.st.ak.bag)).mono ?_
  rintro e w' ⟨rfl, rfl⟩
  rw [hl4]
  have HX4 := Lib.hid (show TSx b 2 w.heap.size q pc pr pb w w4 from ⟨_, _, _, _, HT4.out⟩)
  clear HT4 hl4
  go_wp2_with fail
  go_loopg [68] n (fun g s68 wt => ∃ j : Nat, j ≤ n ∧ j ≤ 301 ∧ g = n - j ∧ s68 = .int .i64 j ∧ TSx b (2 + 2 * j) w.heap.size q pc pr pb w wt)
  case atStart => exact ⟨0, by omega, by omega, rfl, rfl, HX4.out⟩
  case round =>
    obtain ⟨j, hj, hj3, rfl, rfl, own5, h5, a5, ms5, H5⟩ := hrel
    clear HX4
    obtain ⟨e1, e2, e3⟩ := H5.hd
    have HT5 := Lib.hid H5
    by_cases hlt : j < n
    · obtain ⟨x, hx⟩ : ∃ x, l[j]? = some x := ⟨_, List.getElem?_eq_getElem (by have := HN.out; omega)⟩
      obtain ⟨g, o, c, he, hc1, hc2, hgl, c0, c1, cb⟩ := HV.out.at_ hx
      rw [← HN.out] at he hc1
      obtain ⟨rfl, rfl⟩ : va = some ⟨g, o, none⟩ ∧ vc = c := by
        injection he with e1 _ e2
        exact ⟨e1, e2⟩
      have p0 := (H5.st.low.cell (p := ⟨g, o + j * 2, none⟩) hgl).trans c0
      have p1 := (H5.st.low.cell (p := ⟨g, o + j * 2 + 1, none⟩) hgl).trans c1
      have HRG := Lib.hid (show wr.rangeAt g (o + j * 2) [.int .i64 x.1, .int .i64 x.2] from fun i v hv => by
        match i, hv with
        | 0, hv => simp at hv; rw [← hv]; exact p0
        | 1, hv => simp at hv; rw [← hv]; exact p1)
      have k0 : (0 : Int) ≤ (j : Int) := by omega
      have k1 : (j : Int) < (n : Int) := by omega
      have k2 : (j : Int) ≤ 1000 := by omega
      clear p0 p1 c0 c1 hx he H5 hgl e1 e2 e3
      obtain ⟨kd, kk⟩ := x
      dsimp only at HRG cb
      obtain ⟨e1, e2, e3⟩ := HT5.out.hd
      have HE123 := Lib.hid (And.intro e1 (And.intro e2 e3))
      clear e1 e2 e3
      by_cases h301 : j = 301
      · have d3 : decide (300 < j) = true := decide_eq_true (by omega)
        have d4 : decide ((300 : Int) < (j : Int)) = true := decide_eq_true (by omega)
        clear h301
        go_wp2_with (first
          | (refine wpList_load_mid rfl 38 (.tmp 71) rfl g (o + j * 2) (by first | rfl | simp) _ _ HRG.out Tryz.underlying38 rfl (by kernel_rfl) ?_)
          | (refine wpList_store_row rfl 38 (.tmp 9) (.tmp 72) rfl wr.heap.size #[.int .i64 kd, .int .i64 kk] rfl rfl 38 _ (heap_at _ _ _ rfl) (by kernel_rfl) rfl rfl ?_; rw [World.setRow_alloc_new]))
        refine (calm_any (h := h5) (own := own5) _ (HT5.out.st.below (Nat.le_refl _) ((Below.refl _ _).alloc (Nat.le_refl _) _)).ak (Nat.le_trans HT5.out.st.low.size (by simp)) HT5.out.inv (by omega) HT5.out.x).mono ?_
        rintro e w7 ⟨rfl, hb7⟩
        have HL := Lib.hid (((HT5.out.st.below (Nat.le_refl _) ((Below.refl _ _).alloc (Nat.le_refl _) _)).low).trans hb7)
        clear hb7
        go_wp2_with fail
        go_ret
        exact ⟨rfl, HL.out⟩
      have d3 : decide (300 < j) = false := decide_eq_false (by omega)
      have d4 : decide ((300 : Int) < (j : Int)) = false := decide_eq_false (by omega)
      by_cases hk1 : kd = 1
      · subst hk1
        cases hat : a5.b.at_ kk with
        | none =>
          obtain ⟨zz, hzz⟩ : ∃ zz : Array Value, zz = #[.int .i64 0, .int .i64 0, .slice none 0 0] := ⟨_, rfl⟩
          have hs3 : zz.size = 3 := by rw [hzz]; rfl
          have hz1 : zz.all (·.oneCell') = true := by rw [hzz]; simp [Value.oneCell']
          have hzi : (Tryz.prog.info? 41).map (·.size) = some zz.size := by rw [hs3]; kernel_rfl
          have HTK := Lib.hid (fun (W : World) (hW : AB own5 w.heap.size q h5 a5 w wr.heap.size (Obj.cells #[.int .i64 1, .int .i64 kk] 38 (0, 0)) W) => (take_ab0 hW (Nat.le_refl _) kk hat).mono (R' := fun e W' => e = .returned (.tuple #[.agg zz, .bool false]) ∧ AB own5 w.heap.size q h5 { a5 with b := a5.b.drop kk } w wr.heap.size (Obj.cells #[.int .i64 1, .int .i64 kk] 38 (0, 0)) W' ∧ Mod (fun k => own5 k = 3) W W') (fun e W' hp => ⟨by rw [hzz]; exact hp.1, hp.2⟩))
          clear hzz
          go_wp2_with (first
            | (refine wpList_load_mid rfl 38 (.tmp 71) rfl g (o + j * 2) (by first | rfl | simp) _ _ HRG.out Tryz.underlying38 rfl (by kernel_rfl) ?_)
            | (refine wpList_store_row rfl 38 (.tmp 9) (.tmp 72) rfl wr.heap.size #[.int .i64 1, .int .i64 kk] rfl rfl 38 _ (heap_at _ _ _ rfl) (by kernel_rfl) rfl rfl ?_; rw [World.setRow_alloc_new]))
          refine world_out (fun u => AB own5 w.heap.size q h5 a5 w wr.heap.size (Obj.cells #[.int .i64 1, .int .i64 kk] 38 (0, 0)) u) ⟨HT5.out.st.below (Nat.le_refl _) ((Below.refl _ _).alloc (Nat.le_refl _) _), heap_at wr _ _ rfl, (HT5.out.st.fresh (Nat.le_refl _) (Nat.le_refl _)).1⟩ ?_
          intro w6 h6
          have HS6 := Lib.hid h6
          have HSD := Lib.hid (h6.below (Nat.le_refl _) (below_drew w6))
          have x1 : w6.cell? ⟨wr.heap.size, 1, none⟩ = some (.int .i64 kk) := blk_cell h6.blk 1
          have q2 : w6.cell? ⟨q, 2, none⟩ = some (.pointer (some ⟨h5.pb, 0, none⟩)) := h6.st.cells 2
          clear h6
          go_region_held_law (fun u => u.cell? ⟨q, 2, none⟩ = some (.pointer (some ⟨h5.pb, 0, none⟩)) ∧ u.cell? ⟨wr.heap.size, 1, none⟩ = some (.int .i64 kk)) (first | (go_split_ands; exact ⟨by assumption, by assumption⟩) | go_keep) (first
            | (go_at_call 9; (refine (HTK.out _ (by first | exact HSD.out | exact (HSD.out.below (Nat.le_refl _) ((Below.refl _ _).alloc (Nat.le_refl _) _)))).mono ?_); rintro e w7 ⟨rfl, hz, hm7⟩;
                first
                | (have hchk : Mod (fun k => own5 k = 3) w6.drew w7 := hm7; have hy := hz.below (Nat.le_refl _) ((Below.refl _ _).alloc (Nat.le_refl _) (.cells #[.int .i64 0, .int .i64 0, .slice none 0 0] 41)); (obtain ⟨hf1, hf2, hf3⟩ := hz.fresh (Nat.le_refl _) (Nat.le_refl _)); (obtain ⟨hst, hx, hxx⟩ := hy.stored (heap_at w7 _ _ rfl) (xs := zz) (by rw [hs3]; rfl) hzi hz1 hf1 hf2 hf3); have hz0 := hz.st.cells 2; have hz4 := blk_cell hz.blk 1; have hy0 := hy.st.cells 2; have hy4 := blk_cell hy.blk 1; have hx0 := hx.st.cells 2; have hx4 := blk_cell hx.blk 1)
                | ((obtain ⟨hf1, hf2, hf3⟩ := HSD.out.fresh (Nat.le_refl _) (Nat.le_refl _)); have hbx := (((hm7.block w6.heap.size (by simp) (fun e => absurd (hf1.symm.trans e) (by decide))).trans (heap_at _ (.cells #[.int .i64 0, .int .i64 0, .slice none 0 0] 41) _ rfl))); (obtain ⟨hst, hx, hxx⟩ := hz.stored (r := w6.heap.size) hbx (xs := zz) (by rw [hs3]; rfl) hzi hz1 hf1 hf2 hf3); have hz0 := hz.st.cells 2; have hz4 := blk_cell hz.blk 1; have hx0 := hx.st.cells 2; have hx4 := blk_cell hx.blk 1)))
          all_goals
            refine world_out (fun u => AS own5 w.heap.size q h5 { a5 with b := a5.b.drop kk } w u) hx.st ?_
            clear hf1 hf2 hf3 hst hx hxx hz0 hz4 hx0 hx4 hz hm7
            intro w8 h8
            obtain ⟨ms8, hi8⟩ := HT5.out.inv.drop kk
            have HE := Lib.hid (show TSx b (2 + 2 * (j + 1)) w.heap.size q pc pr pb w w8 from ⟨own5, h5, _, ms8, h8, hi8.more (by omega), HT5.out.x, HE123.out⟩)
            clear h8 hi8
            go_wp2_with fail
            go_roundg (n - (j + 1))
            case measure => omega
            case rel => exact ⟨j + 1, by omega, by omega, rfl, by push_cast; rfl, HE.out⟩
        | some p =>
          have HTK := Lib.hid (fun (W : World) (hW : AB own5 w.heap.size q h5 a5 w wr.heap.size (Obj.cells #[.int .i64 1, .int .i64 kk] 38 (0, 0)) W) => take_ab hW (Nat.le_refl _) kk hat)
          obtain ⟨m, _, hmok, hpm⟩ := HT5.out.inv.at_ hat
          have HM := Lib.hid hmok
          have HP := Lib.hid hpm
          obtain ⟨ms8, hi8⟩ := HT5.out.inv.drop kk
          have HI8 := Lib.hid hi8
          have hadd : IntKind.i64.wrap ((j : Int) + 1000) = ((j + 1000 : Nat) : Int) := by rw [IntWalk.i64_in _ (by omega)]; omega
          clear hat hmok hpm hi8
          go_wp2_with (first
            | (refine wpList_load_mid rfl 38 (.tmp 71) rfl g (o + j * 2) (by first | rfl | simp) _ _ HRG.out Tryz.underlying38 rfl (by kernel_rfl) ?_)
            | (refine wpList_store_row rfl 38 (.tmp 9) (.tmp 72) rfl wr.heap.size #[.int .i64 1, .int .i64 kk] rfl rfl 38 _ (heap_at _ _ _ rfl) (by kernel_rfl) rfl rfl ?_; rw [World.setRow_alloc_new]))
          refine world_out (fun u => AB own5 w.heap.size q h5 a5 w wr.heap.size (Obj.cells #[.int .i64 1, .int .i64 kk] 38 (0, 0)) u) ⟨HT5.out.st.below (Nat.le_refl _) ((Below.refl _ _).alloc (Nat.le_refl _) _), heap_at wr _ _ rfl, (HT5.out.st.fresh (Nat.le_refl _) (Nat.le_refl _)).1⟩ ?_
          intro w6 h6
          have HS6 := Lib.hid h6
          have HSD := Lib.hid (h6.below (Nat.le_refl _) (below_drew w6))
          have x1 : w6.cell? ⟨wr.heap.size, 1, none⟩ = some (.int .i64 kk) := blk_cell h6.blk 1
          have q2 : w6.cell? ⟨q, 2, none⟩ = some (.pointer (some ⟨h5.pb, 0, none⟩)) := h6.st.cells 2
          clear h6
          go_region_held_law (fun u => u.cell? ⟨q, 2, none⟩ = some (.pointer (some ⟨h5.pb, 0, none⟩)) ∧ u.cell? ⟨wr.heap.size, 1, none⟩ = some (.int .i64 kk)) (first | (go_split_ands; exact ⟨by assumption, by assumption⟩) | go_keep) (first
            | (go_at_call 9; (refine (HTK.out _ (by first | exact HSD.out | exact (HSD.out.below (Nat.le_refl _) ((Below.refl _ _).alloc (Nat.le_refl _) _)))).mono ?_); rintro e w7 ⟨zz, da, dc, hzz, rfl, hz, hd7, hm7⟩; (have hs3 : zz.size = 3 := by rw [hzz.out]; rfl); (have hz1 : zz.all (·.oneCell') = true := by rw [hzz.out]; simp [Value.oneCell']); (have hzi : (Tryz.prog.info? 41).map (·.size) = some zz.size := by rw [hs3]; kernel_rfl);
                first
                | (have hchk : Mod (fun k => own5 k = 3) w6.drew w7 := hm7; have hy := hz.below (Nat.le_refl _) ((Below.refl _ _).alloc (Nat.le_refl _) (.cells #[.int .i64 0, .int .i64 0, .slice none 0 0] 41)); (obtain ⟨hf1, hf2, hf3⟩ := hz.fresh (Nat.le_refl _) (Nat.le_refl _)); (obtain ⟨hst, hx, hxx⟩ := hy.stored (heap_at w7 _ _ rfl) (xs := zz) (by rw [hs3]; rfl) hzi hz1 hf1 hf2 hf3); have hd8 := (hd7.below ((Below.refl _ _).alloc (Nat.le_refl _) (.cells #[.int .i64 0, .int .i64 0, .slice none 0 0] 41))).setRow (r := w7.heap.size) (fun k _ hD => by have := hD.2; omega) zz; have hz0 := hz.st.cells 2; have hz4 := blk_cell hz.blk 1; have hy0 := hy.st.cells 2; have hy4 := blk_cell hy.blk 1; have hx0 := hx.st.cells 2; have hx4 := blk_cell hx.blk 1)
                | ((obtain ⟨hf1, hf2, hf3⟩ := HSD.out.fresh (Nat.le_refl _) (Nat.le_refl _)); have hbx := (((hm7.block w6.heap.size (by simp) (fun e => absurd (hf1.symm.trans e) (by decide))).trans (heap_at _ (.cells #[.int .i64 0, .int .i64 0, .slice none 0 0] 41) _ rfl))); (obtain ⟨hst, hx, hxx⟩ := hz.stored (r := w6.heap.size) hbx (xs := zz) (by rw [hs3]; rfl) hzi hz1 hf1 hf2 hf3); have hd8 := hd7.setRow (r := w6.heap.size) (fun k _ hD => by have := hD.1; simp at this; omega) zz; have hz0 := hz.st.cells 2; have hz4 := blk_cell hz.blk 1; have hx0 := hx.st.cells 2; have hx4 := blk_cell hx.blk 1)))
          all_goals
            first
            | refine world_out (fun u => AB own5 w.heap.size q h5 { a5 with b := a5.b.drop kk } w wr.heap.size (Obj.cells #[.int .i64 1, .int .i64 kk] 38 (0, 0)) u ∧ u.heap[w7.heap.size]? = some (Obj.cells zz 41 (0, 0)) ∧ ∃ D, BytesV D u (.slice da p.data.length dc) p.data) ⟨hx, hxx, _, hd8⟩ ?_
            | refine world_out (fun u => AB own5 w.heap.size q h5 { a5 with b := a5.b.drop kk } w wr.heap.size (Obj.cells #[.int .i64 1, .int .i64 kk] 38 (0, 0)) u ∧ u.heap[w6.heap.size]? = some (Obj.cells zz 41 (0, 0)) ∧ ∃ D, BytesV D u (.slice da p.data.length dc) p.data) ⟨hx, hxx, _, hd8⟩ ?_
            clear hf1 hf2 hf3 hst hx hxx hz0 hz4 hx0 hx4 hz hm7 hd7 hd8
            rintro w8 ⟨h8, hb8, D, hd8⟩
            rw [hzz.out] at hb8
            have HS8 := Lib.hid h8.st
            have HD8 := Lib.hid hd8
            have y0 := blk_cell hb8 0
            have y1 := blk_cell hb8 1
            have y2 := blk_cell hb8 2
            clear h8 hb8 hd8
            go_wp2_with fail
            refine (arrives_any (boot := b) (k := 2 + 2 * j) D (j + 1000) m p.src p.dst _ _ HS8.out.ak (Nat.le_trans (Nat.le_refl _) HS8.out.low.size) HI8.out (by omega) (Mg.ok_bag HM.out _) (fun _ _ _ => by omega) (by have := HD8.out; rw [HP.out] at this ⊢; exact this)).mono ?_
            rintro e w9 ⟨rfl, a9, own9, harr, hk9, hb9⟩
            obtain ⟨ms9, hi9⟩ := harr.inv HI8.out (by omega) (by omega) (Mg.ok_bag HM.out _)
            have hx9 := harr.x
            have HE := Lib.hid (show TSx b (2 + 2 * (j + 1)) w.heap.size q pc pr pb w w9 from ⟨own9, h5, a9, ms9, ⟨hk9, HS8.out.low.trans hb9⟩, hi9.more (by omega), hx9.trans HT5.out.x, HE123.out⟩)
            clear harr hk9 hb9 hi9 hx9
            go_wp2_with fail
            go_roundg (n - (j + 1))
            case measure => omega
            case rel => exact ⟨j + 1, by omega, by omega, rfl, by push_cast; rfl, HE.out⟩
      by_cases hk2 : kd = 2
      · subst hk2
        go_wp2_with (first
          | (refine wpList_load_mid rfl 38 (.tmp 71) rfl g (o + j * 2) (by first | rfl | simp) _ _ HRG.out Tryz.underlying38 rfl (by kernel_rfl) ?_)
          | (refine wpList_store_row rfl 38 (.tmp 9) (.tmp 72) rfl wr.heap.size #[.int .i64 2, .int .i64 kk] rfl rfl 38 _ (heap_at _ _ _ rfl) (by kernel_rfl) rfl rfl ?_; rw [World.setRow_alloc_new]))
        refine world_out (fun u => AB own5 w.heap.size q h5 a5 w wr.heap.size (Obj.cells #[.int .i64 2, .int .i64 kk] 38 (0, 0)) u) ⟨HT5.out.st.below (Nat.le_refl _) ((Below.refl _ _).alloc (Nat.le_refl _) _), heap_at wr _ _ rfl, (HT5.out.st.fresh (Nat.le_refl _) (Nat.le_refl _)).1⟩ ?_
        intro w6 h6
        have HS6 := Lib.hid h6
        have HSD := Lib.hid (h6.below (Nat.le_refl _) (below_drew w6))
        have x1 : w6.cell? ⟨wr.heap.size, 1, none⟩ = some (.int .i64 kk) := blk_cell h6.blk 1
        have q2 : w6.cell? ⟨q, 2, none⟩ = some (.pointer (some ⟨h5.pb, 0, none⟩)) := h6.st.cells 2
        clear h6
        go_region_held_law (fun u => u.cell? ⟨q, 2, none⟩ = some (.pointer (some ⟨h5.pb, 0, none⟩)) ∧ u.cell? ⟨wr.heap.size, 1, none⟩ = some (.int .i64 kk)) (first | (go_split_ands; exact ⟨by assumption, by assumption⟩) | go_keep) (first
          | (go_at_call 11; (refine (drop_ab HSD.out (Nat.le_refl _) kk).mono ?_); rintro e w7 ⟨rfl, own7, hz⟩; have hz0 := hz.st.cells 2; have hz4 := blk_cell hz.blk 1))
        obtain ⟨ms7, hi7⟩ := HT5.out.inv.drop kk
        have HE := Lib.hid (show TSx b (2 + 2 * (j + 1)) w.heap.size q pc pr pb w w7 from ⟨own7, h5, _, ms7, hz.st, hi7.more (by omega), HT5.out.x, HE123.out⟩)
        clear hz hz0 hz4 hi7
        go_wp2_with fail
        go_roundg (n - (j + 1))
        case measure => omega
        case rel => exact ⟨j + 1, by omega, by omega, rfl, by push_cast; rfl, HE.out⟩
      by_cases hk3 : kd = 3
      · subst hk3
        go_wp2_with (first
          | (refine wpList_load_mid rfl 38 (.tmp 71) rfl g (o + j * 2) (by first | rfl | simp) _ _ HRG.out Tryz.underlying38 rfl (by kernel_rfl) ?_)
          | (refine wpList_store_row rfl 38 (.tmp 9) (.tmp 72) rfl wr.heap.size #[.int .i64 3, .int .i64 kk] rfl rfl 38 _ (heap_at _ _ _ rfl) (by kernel_rfl) rfl rfl ?_; rw [World.setRow_alloc_new]))
        refine world_out (fun u => AB own5 w.heap.size q h5 a5 w wr.heap.size (Obj.cells #[.int .i64 3, .int .i64 kk] 38 (0, 0)) u) ⟨HT5.out.st.below (Nat.le_refl _) ((Below.refl _ _).alloc (Nat.le_refl _) _), heap_at wr _ _ rfl, (HT5.out.st.fresh (Nat.le_refl _) (Nat.le_refl _)).1⟩ ?_
        intro w6 h6
        have HS6 := Lib.hid h6
        have HSD := Lib.hid (h6.below (Nat.le_refl _) (below_drew w6))
        have x1 : w6.cell? ⟨wr.heap.size, 1, none⟩ = some (.int .i64 kk) := blk_cell h6.blk 1
        have q2 : w6.cell? ⟨q, 2, none⟩ = some (.pointer (some ⟨h5.pb, 0, none⟩)) := h6.st.cells 2
        clear h6
        go_region_held_law (fun u => u.cell? ⟨q, 2, none⟩ = some (.pointer (some ⟨h5.pb, 0, none⟩)) ∧ u.cell? ⟨wr.heap.size, 1, none⟩ = some (.int .i64 kk)) (first | (go_split_ands; exact ⟨by assumption, by assumption⟩) | go_keep) (first
          | (go_at_call 12; (refine (double_ab HSD.out (Nat.le_refl _) kk).mono ?_); rintro e w7 ⟨rfl, own7, hz⟩; have hz0 := hz.st.cells 2; have hz4 := blk_cell hz.blk 1))
        obtain ⟨ms7, hi7⟩ := HT5.out.inv.double kk
        have HE := Lib.hid (show TSx b (2 + 2 * (j + 1)) w.heap.size q pc pr pb w w7 from ⟨own7, h5, _, ms7, hz.st, hi7.more (by omega), HT5.out.x, HE123.out⟩)
        clear hz hz0 hz4 hi7
        go_wp2_with fail
        go_roundg (n - (j + 1))
        case measure => omega
        case rel => exact ⟨j + 1, by omega, by omega, rfl, by push_cast; rfl, HE.out⟩
      by_cases hk4 : kd = 4
      · subst hk4
        have hcok := HT5.out.inv.cok
        have hnx := HT5.out.inv.next
        have hfw := HT5.out.inv.few
        by_cases hin : ∃ s, s ∈ a5.c.opn ∧ (s : Int) = kk
        · obtain ⟨s, hs, rfl⟩ := hin
          have hok := HT5.out.inv.ask_ok hs
          obtain ⟨m, hm⟩ : ∃ m, m = askM 1 b s a5.c.low := ⟨_, rfl⟩
          have HF := Lib.hid (show Fine m from hm ▸ Mg.fine HT5.out.inv (by omega) hok)
          have HTK := Lib.hid (fun (W : World) (hW : AB own5 w.heap.size q h5 a5 w wr.heap.size (Obj.cells #[.int .i64 4, .int .i64 (s : Int)] 38 (0, 0)) W) => (asked_in (fun k => own5 k = 1) h5.pc a5.c s W hW.st.ak.calls hcok (by omega) hs).mono (R' := fun e W' => e = .returned (.tuple #[.agg m.cells, .bool true]) ∧ AB own5 w.heap.size q h5 a5 w wr.heap.size (Obj.cells #[.int .i64 4, .int .i64 (s : Int)] 38 (0, 0)) W' ∧ Below W.heap.size W W') (fun e W' hp => ⟨by rw [hm, ← HT5.out.inv.cboot]; exact hp.1, hW.below (Nat.le_refl _) hp.2.2, hp.2.2⟩))
          have hs16 : m.cells.size = 16 := rfl
          have hz1 : m.cells.all (·.oneCell') = true := Ms.one _
          have hzi : (Tryz.prog.info? 51).map (·.size) = some m.cells.size := by rw [hs16]; kernel_rfl
          obtain ⟨ms8, hi8, _⟩ := HT5.out.inv.send (by omega) hok
          have HI8 := Lib.hid (show Inv b (2 + 2 * j + 1) { a5 with b := a5.b.send (pkt m) } ms8 from hm ▸ hi8)
          clear hm hok hs hi8 hcok hnx
          go_wp2_with (first
            | (refine wpList_load_mid rfl 38 (.tmp 71) rfl g (o + j * 2) (by first | rfl | simp) _ _ HRG.out Tryz.underlying38 rfl (by kernel_rfl) ?_)
            | (refine wpList_store_row rfl 38 (.tmp 9) (.tmp 72) rfl wr.heap.size #[.int .i64 4, .int .i64 (s : Int)] rfl rfl 38 _ (heap_at _ _ _ rfl) (by kernel_rfl) rfl rfl ?_; rw [World.setRow_alloc_new]))
          refine world_out (fun u => AB own5 w.heap.size q h5 a5 w wr.heap.size (Obj.cells #[.int .i64 4, .int .i64 (s : Int)] 38 (0, 0)) u) ⟨HT5.out.st.below (Nat.le_refl _) ((Below.refl _ _).alloc (Nat.le_refl _) _), heap_at wr _ _ rfl, (HT5.out.st.fresh (Nat.le_refl _) (Nat.le_refl _)).1⟩ ?_
          intro w6 h6
          have HS6 := Lib.hid h6
          have HSD := Lib.hid (h6.below (Nat.le_refl _) (below_drew w6))
          have x1 : w6.cell? ⟨wr.heap.size, 1, none⟩ = some (.int .i64 (s : Int)) := blk_cell h6.blk 1
          have q0 : w6.cell? ⟨q, 0, none⟩ = some (.pointer (some ⟨h5.pc, 0, none⟩)) := h6.st.cells 0
          clear h6
          go_region_held_law (fun u => u.cell? ⟨q, 0, none⟩ = some (.pointer (some ⟨h5.pc, 0, none⟩)) ∧ u.cell? ⟨wr.heap.size, 1, none⟩ = some (.int .i64 (s : Int))) (first | (go_split_ands; exact ⟨by assumption, by assumption⟩) | go_keep) (first
            | (go_at_call 13; (refine (HTK.out _ (by first | exact HSD.out | exact (HSD.out.below (Nat.le_refl _) ((Below.refl _ _).alloc (Nat.le_refl _) _)))).mono ?_); rintro e w7 ⟨rfl, hz, hb7⟩;
                first
                | (have hchk : Below w6.drew.heap.size w6.drew w7 := hb7; have hy := hz.below (Nat.le_refl _) ((Below.refl _ _).alloc (Nat.le_refl _) (.cells #[.int .i64 0, .int .i64 0, .int .i64 0, .int .i64 0, .int .i64 0, .int .i64 0, .int .i64 0, .string ⟨#[]⟩, .int .i64 0, .int .i64 0, .int .i64 0, .bool false, .int .i64 0, .slice none 0 0, .int .i64 0, .int .i64 0] 51)); (obtain ⟨hf1, hf2, hf3⟩ := hz.fresh (Nat.le_refl _) (Nat.le_refl _)); (obtain ⟨hst, hx, hxx⟩ := hy.stored (heap_at w7 _ _ rfl) (xs := m.cells) rfl hzi hz1 hf1 hf2 hf3); have hz0 := hz.st.cells 0; have hz4 := blk_cell hz.blk 1; have hy0 := hy.st.cells 0; have hy4 := blk_cell hy.blk 1; have hx0 := hx.st.cells 0; have hx4 := blk_cell hx.blk 1)
                | ((obtain ⟨hf1, hf2, hf3⟩ := HSD.out.fresh (Nat.le_refl _) (Nat.le_refl _)); have hbx := (((hb7.block w6.heap.size (by simp)).trans (heap_at _ (.cells #[.int .i64 0, .int .i64 0, .int .i64 0, .int .i64 0, .int .i64 0, .int .i64 0, .int .i64 0, .string ⟨#[]⟩, .int .i64 0, .int .i64 0, .int .i64 0, .bool false, .int .i64 0, .slice none 0 0, .int .i64 0, .int .i64 0] 51) _ rfl))); (obtain ⟨hst, hx, hxx⟩ := hz.stored (r := w6.heap.size) hbx (xs := m.cells) rfl hzi hz1 hf1 hf2 hf3); have hz0 := hz.st.cells 0; have hz4 := blk_cell hz.blk 1; have hx0 := hx.st.cells 0; have hx4 := blk_cell hx.blk 1)))
          all_goals
            first
            | refine world_out (fun u => AS own5 w.heap.size q h5 a5 w u ∧ u.heap[w7.heap.size]? = some (Obj.cells m.cells 51 (0, 0))) ⟨hx.st, hxx⟩ ?_
            | refine world_out (fun u => AS own5 w.heap.size q h5 a5 w u ∧ u.heap[w6.heap.size]? = some (Obj.cells m.cells 51 (0, 0))) ⟨hx.st, hxx⟩ ?_
            clear hf1 hf2 hf3 hst hx hxx hz0 hz4 hx0 hx4 hz hb7
            rintro w8 ⟨h8, hb8⟩
            have HS8 := Lib.hid h8
            have HB8 := Lib.hid hb8
            clear h8 hb8
            go_wp2_with (refine wpList_load_row rfl 51 (.tmp 13) rfl _ rfl 51 m.cells (0, 0) _ HB8.out Tryz.underlying51 rfl (by kernel_rfl) ?_)
            refine (sends_ak m HS8.out.ak HS8.out.low.size HF.out (by omega) (by omega)).mono ?_
            rintro e w9 ⟨rfl, own9, hk9, hb9⟩
            have HE := Lib.hid (show TSx b (2 + 2 * (j + 1)) w.heap.size q pc pr pb w w9 from ⟨own9, h5, _, ms8, ⟨hk9, HS8.out.low.trans hb9⟩, HI8.out.more (by omega), HT5.out.x, HE123.out⟩)
            clear hk9 hb9
            go_wp2_with fail
            go_roundg (n - (j + 1))
            case measure => omega
            case rel => exact ⟨j + 1, by omega, by omega, rfl, by push_cast; rfl, HE.out⟩
        · have hne : ∀ i ∈ a5.c.opn, (i : Int) ≠ kk := fun i hi e => hin ⟨i, hi, e⟩
          obtain ⟨zz, hzz⟩ : ∃ zz, zz = zeroM.cells := ⟨_, rfl⟩
          have hs16 : zz.size = 16 := by rw [hzz]; rfl
          have hz1 : zz.all (·.oneCell') = true := by rw [hzz]; exact Ms.one _
          have hzi : (Tryz.prog.info? 51).map (·.size) = some zz.size := by rw [hs16]; kernel_rfl
          have HTK := Lib.hid (fun (W : World) (hW : AB own5 w.heap.size q h5 a5 w wr.heap.size (Obj.cells #[.int .i64 4, .int .i64 kk] 38 (0, 0)) W) => (asked_out (fun k => own5 k = 1) h5.pc a5.c kk W hW.st.ak.calls hcok cb hne).mono (R' := fun e W' => e = .returned (.tuple #[.agg zz, .bool false]) ∧ AB own5 w.heap.size q h5 a5 w wr.heap.size (Obj.cells #[.int .i64 4, .int .i64 kk] 38 (0, 0)) W' ∧ Below W.heap.size W W') (fun e W' hp => ⟨by rw [hzz]; exact hp.1, hW.below (Nat.le_refl _) hp.2.2, hp.2.2⟩))
          clear hzz hin hne hcok hnx hfw
          go_wp2_with (first
            | (refine wpList_load_mid rfl 38 (.tmp 71) rfl g (o + j * 2) (by first | rfl | simp) _ _ HRG.out Tryz.underlying38 rfl (by kernel_rfl) ?_)
            | (refine wpList_store_row rfl 38 (.tmp 9) (.tmp 72) rfl wr.heap.size #[.int .i64 4, .int .i64 kk] rfl rfl 38 _ (heap_at _ _ _ rfl) (by kernel_rfl) rfl rfl ?_; rw [World.setRow_alloc_new]))
          refine world_out (fun u => AB own5 w.heap.size q h5 a5 w wr.heap.size (Obj.cells #[.int .i64 4, .int .i64 kk] 38 (0, 0)) u) ⟨HT5.out.st.below (Nat.le_refl _) ((Below.refl _ _).alloc (Nat.le_refl _) _), heap_at wr _ _ rfl, (HT5.out.st.fresh (Nat.le_refl _) (Nat.le_refl _)).1⟩ ?_
          intro w6 h6
          have HS6 := Lib.hid h6
          have HSD := Lib.hid (h6.below (Nat.le_refl _) (below_drew w6))
          have x1 : w6.cell? ⟨wr.heap.size, 1, none⟩ = some (.int .i64 kk) := blk_cell h6.blk 1
          have q0 : w6.cell? ⟨q, 0, none⟩ = some (.pointer (some ⟨h5.pc, 0, none⟩)) := h6.st.cells 0
          clear h6
          go_region_held_law (fun u => u.cell? ⟨q, 0, none⟩ = some (.pointer (some ⟨h5.pc, 0, none⟩)) ∧ u.cell? ⟨wr.heap.size, 1, none⟩ = some (.int .i64 kk)) (first | (go_split_ands; exact ⟨by assumption, by assumption⟩) | go_keep) (first
            | (go_at_call 13; (refine (HTK.out _ (by first | exact HSD.out | exact (HSD.out.below (Nat.le_refl _) ((Below.refl _ _).alloc (Nat.le_refl _) _)))).mono ?_); rintro e w7 ⟨rfl, hz, hb7⟩;
                first
                | (have hchk : Below w6.drew.heap.size w6.drew w7 := hb7; have hy := hz.below (Nat.le_refl _) ((Below.refl _ _).alloc (Nat.le_refl _) (.cells #[.int .i64 0, .int .i64 0, .int .i64 0, .int .i64 0, .int .i64 0, .int .i64 0, .int .i64 0, .string ⟨#[]⟩, .int .i64 0, .int .i64 0, .int .i64 0, .bool false, .int .i64 0, .slice none 0 0, .int .i64 0, .int .i64 0] 51)); (obtain ⟨hf1, hf2, hf3⟩ := hz.fresh (Nat.le_refl _) (Nat.le_refl _)); (obtain ⟨hst, hx, hxx⟩ := hy.stored (heap_at w7 _ _ rfl) (xs := zz) (by rw [hs16]; rfl) hzi hz1 hf1 hf2 hf3); have hz0 := hz.st.cells 0; have hz4 := blk_cell hz.blk 1; have hy0 := hy.st.cells 0; have hy4 := blk_cell hy.blk 1; have hx0 := hx.st.cells 0; have hx4 := blk_cell hx.blk 1)
                | ((obtain ⟨hf1, hf2, hf3⟩ := HSD.out.fresh (Nat.le_refl _) (Nat.le_refl _)); have hbx := (((hb7.block w6.heap.size (by simp)).trans (heap_at _ (.cells #[.int .i64 0, .int .i64 0, .int .i64 0, .int .i64 0, .int .i64 0, .int .i64 0, .int .i64 0, .string ⟨#[]⟩, .int .i64 0, .int .i64 0, .int .i64 0, .bool false, .int .i64 0, .slice none 0 0, .int .i64 0, .int .i64 0] 51) _ rfl))); (obtain ⟨hst, hx, hxx⟩ := hz.stored (r := w6.heap.size) hbx (xs := zz) (by rw [hs16]; rfl) hzi hz1 hf1 hf2 hf3); have hz0 := hz.st.cells 0; have hz4 := blk_cell hz.blk 1; have hx0 := hx.st.cells 0; have hx4 := blk_cell hx.blk 1)))
          all_goals
            refine world_out (fun u => AS own5 w.heap.size q h5 a5 w u) hx.st ?_
            clear hf1 hf2 hf3 hst hx hxx hz0 hz4 hx0 hx4 hz hb7
            intro w8 h8
            have HE := Lib.hid (show TSx b (2 + 2 * (j + 1)) w.heap.size q pc pr pb w w8 from ⟨own5, h5, a5, ms5, h8, HT5.out.inv.more (by omega), HT5.out.x, HE123.out⟩)
            clear h8
            go_wp2_with fail
            go_roundg (n - (j + 1))
            case measure => omega
            case rel => exact ⟨j + 1, by omega, by omega, rfl, by push_cast; rfl, HE.out⟩
      · have n1 : (kd == 1) = false := by simpa using hk1
        have n2 : (kd == 2) = false := by simpa using hk2
        have n3 : (kd == 3) = false := by simpa using hk3
        have n4 : (kd == 4) = false := by simpa using hk4
        have m1 : decide (kd = 1) = false := decide_eq_false hk1
        have m2 : decide (kd = 2) = false := decide_eq_false hk2
        have m3 : decide (kd = 3) = false := decide_eq_false hk3
        have m4 : decide (kd = 4) = false := decide_eq_false hk4
        clear hk1 hk2 hk3 hk4
        go_wp2_with (first
          | (refine wpList_load_mid rfl 38 (.tmp 71) rfl g (o + j * 2) (by first | rfl | simp) _ _ HRG.out Tryz.underlying38 rfl (by kernel_rfl) ?_)
          | (refine wpList_store_row rfl 38 (.tmp 9) (.tmp 72) rfl wr.heap.size #[.int .i64 kd, .int .i64 kk] rfl rfl 38 _ (heap_at _ _ _ rfl) (by kernel_rfl) rfl rfl ?_; rw [World.setRow_alloc_new]))
        refine (opens_inv (HT5.out.below (Nat.le_refl _) ((Below.refl _ _).alloc (Nat.le_refl _) _)) (Nat.le_refl _) (by omega)).mono ?_
        rintro e w7 ⟨rfl, own7, h7, a7, ms7, H7, _⟩
        have HE := Lib.hid (show TSx b (2 + 2 * (j + 1)) w.heap.size q pc pr pb w w7 from ⟨own7, h7, a7, ms7, H7.st, H7.inv.more (by omega), H7.x, H7.hd⟩)
        clear H7
        go_wp2_with fail
        go_roundg (n - (j + 1))
        case measure => omega
        case rel => exact ⟨j + 1, by omega, by omega, rfl, by push_cast; rfl, HE.out⟩
    · obtain rfl : j = n := by omega
      clear H5 e1 e2 e3
      go_wp2_with fail
      refine (calm_any (h := h5) (own := own5) _ HT5.out.st.ak HT5.out.st.low.size HT5.out.inv (by omega) HT5.out.x).mono ?_
      rintro e w7 ⟨rfl, hb7⟩
      have HL := Lib.hid (HT5.out.st.low.trans hb7)
      clear hb7
      go_wp2_with fail
      go_ret
      exact ⟨rfl, HL.out⟩
end Go.Proofs.YtaelbgjcoakdlaaGreat
namespace Go.Proofs.YtaelbgjcoakdlaaGreat
open Go.RowKit Go.Maps

theorem topOnce_all (n : Int) (l : List (Int × Int)) (v : Value) (w : World) (hv : ActsIn w v l) :
    Calls Tryz.prog 3 #[.int .i64 n, v] w (fun e w' => e = .returned (.bool true) ∧ Below w.heap.size w w') := by
  by_cases h : n < 1 ∨ 1099511627776 < n
  · exact topOnce_bad n v w h
  · have := topOnce_any n.toNat (by omega) l v w hv
    rwa [Int.toNat_of_nonneg (by omega)] at this
end Go.Proofs.YtaelbgjcoakdlaaGreat
