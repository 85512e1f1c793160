/- THE WALK of BagOnce. -/
import Derived.Test.YtdjgmgppghipkaaOnce
import Derived.BigQuiet
import Derived.Deep.QuietTactic
import Derived.Deep.DeepCutAuto
namespace Go.Proofs.Ytdjgmgppghipkaa
open Go.RowKit

def nameV (x : Nat × Bool) : Value := .string (strOf (nameOf x.1))
def outV (x : Nat × Bool) : Value := .bool x.2
/-- The bag that goes with a list of what was sent. -/
def bagOf (S : Sent) (n lost : Nat) : Bg := ⟨live S, n, lost⟩
theorem bagOf_len (S : Sent) (n lost : Nat) : (bagOf S n lost).l = live S := rfl
theorem Try.infoS : (Try.prog.info? 9).map (fun i => (i.zero, i.size, i.bytes)) = some (some (.string ⟨#[]⟩), 1, 16) := by kernel_rfl
theorem Try.infoB : (Try.prog.info? 4).map (fun i => (i.zero, i.size, i.bytes)) = some (some (.bool false), 1, 1) := by kernel_rfl
theorem bagOf_send (S : Sent) (j lost : Nat) : (bagOf S S.length lost).send (pktOf j) = if 48 ≤ (live S).length then bagOf S S.length (lost + 1) else bagOf (S ++ [(j, false)]) (S ++ [(j, false)]).length lost := by
  unfold Bg.send bagOf
  rw [if_neg (by simp [pktOf, nameOf])]
  split
  · rfl
  · rw [live_snoc]; simp
theorem bagOf_sendE (S : Sent) (j lost : Nat) : (bagOf S S.length lost).sendE (pktOf j) = if 48 ≤ (live S).length then 51 else 0 := by
  unfold Bg.sendE bagOf
  rw [if_neg (by simp [pktOf, nameOf])]

theorem nameV_at {S : Sent} {k : Nat} {x : Nat × Bool} (h : S[k]? = some x) : (S.map nameV)[k]? = some (nameV x) := by simp [h]
theorem outV_at {S : Sent} {k : Nat} {x : Nat × Bool} (h : S[k]? = some x) : (S.map outV)[k]? = some (outV x) := by simp [h]
theorem str_ne {x y : Nat} (hx : x < 1048577) (hy : y < 1048577) (h : y ≠ x) : ((strOf (nameOf y)).toList == (strOf (nameOf x)).toList) = false := by
  have h1 : ¬ nameOf y = nameOf x := fun e => h (nameOf_inj hy hx e)
  rw [ByteArray.toList_eq, ByteArray.toList_eq]
  simpa [strOf] using h1
theorem bagOf_head {S : Sent} {k y n lost : Nat} (h : S[k]? = some (y, false)) : (bagOf (S.drop k) n lost).at_ 0 = some (pktOf y) ∧ (bagOf (S.drop k) n lost).drop 0 = bagOf (S.drop (k + 1)) n lost := by
  have e := live_drop_in h
  have h1 : (bagOf (S.drop k) n lost).at_ 0 = some (pktOf y) := by unfold Bg.at_ bagOf; simp [e]
  refine ⟨h1, ?_⟩
  unfold Bg.drop
  rw [h1]
  simp [bagOf, e]
theorem bagOf_none {S : Sent} {n lost : Nat} : (bagOf (S.drop S.length) n lost).at_ 0 = none ∧ (bagOf (S.drop S.length) n lost).drop 0 = bagOf (S.drop S.length) n lost := by
  have h1 : (bagOf (S.drop S.length) n lost).at_ 0 = none := by unfold Bg.at_ bagOf; simp [live]
  refine ⟨h1, ?_⟩
  unfold Bg.drop
  rw [h1]
theorem outV_set {S : Sent} {m x : Nat} : (S.set m (x, true)).map outV = (S.map outV).set m (.bool true) := by rw [List.map_set]; rfl
theorem nameV_set {S : Sent} {m x : Nat} {o : Bool} (h : S[m]? = some (x, o)) : (S.set m (x, true)).map nameV = S.map nameV := by
  rw [List.map_set]
  apply List.ext_getElem?
  intro i
  rw [List.getElem?_set]
  split
  · subst_vars
    obtain ⟨l1, e1⟩ := List.getElem?_eq_some_iff.1 h
    simp [l1, e1, nameV]
  · rfl

/-- What the search for a name knows at its k-th step. -/
def Found (w0 : World) (p : Nat) (b : Bg) (S : Sent) (m x : Nat) (sv ov : Value) (ks : List (Nat × Obj)) (k : Nat) (f : Value) (wr : World) : Prop :=
  (k ≤ m ∧ f = .bool false ∧ On w0 p b (S.map nameV) (S.map outV) sv ov ks wr) ∨ (m < k ∧ f = .bool true ∧ On w0 p b (S.map nameV) ((S.map outV).set m (.bool true)) sv ov ks wr)

set_option maxRecDepth 100000 in
set_option maxHeartbeats 1500000 in
theorem bagOnce_any (l : List Opn) (v : Value) (w : World) (hv : OpsIn w v l) (hl : l.length ≤ 1048576) :
    Calls Try.prog 3 #[v] w fun e w' => e = .returned (.bool true) ∧ Below w.heap.size w w' := by
  have HV := Lib.hid hv
  obtain ⟨a, c, rfl, _⟩ := hv
  obtain ⟨iS, hiS, hzS0, hzS1, hzS2⟩ := info_parts Try.infoS
  obtain ⟨iB, hiB, hzB0, hzB1, hzB2⟩ := info_parts Try.infoB
  have ISx := Lib.hid (And.intro hiS (And.intro hzS0 (And.intro hzS1 hzS2)))
  have IBx := Lib.hid (And.intro hiB (And.intro hzB0 (And.intro hzB1 hzB2)))
  clear hiS hzS0 hzS1 hzS2 hiB hzB0 hzB1 hzB2
  go_enter Try.func3, Try.ntmps3
  go_wp2_with fail
  refine (awake_any _).mono ?_
  rintro e w1 ⟨rfl, hb1⟩
  go_wp2_with fail
  refine (new_s w1).mono ?_
  rintro e w2 ⟨rfl, s2⟩
  go_wp2_with fail
  go_loopw [4, 5, 6, 24] (fun sv ov n i wr => ∃ (j lost : Nat) (S : Sent), j ≤ l.length ∧ i = .int .i64 j ∧ n = .int .i64 (gone S) ∧ S.length ≤ j ∧ lost ≤ j ∧ Rise S j ∧ On w1 w1.heap.size (bagOf S S.length lost) (S.map nameV) (S.map outV) sv ov [] wr) (fun _ _ _ i _ => l.length - (intOf i).toNat)
  case atStart => exact ⟨0, 0, [], by omega, rfl, rfl, Nat.le_refl _, Nat.le_refl _, Rise.nil, On.start s2⟩
  case round =>
    obtain ⟨j, lost, S, hj, rfl, rfl, hSl, hlost, hR, T⟩ := hrel
    have hB : Below w.heap.size w wr := hb1.trans (T.out.mono hb1.size)
    have hp1 : w1.heap.size < wr.heap.size := by obtain ⟨G, h⟩ := T; exact h.bag.head.2
    have TT := Lib.hid T
    have HR := Lib.hid hR
    clear T hR
    by_cases hlt : j < l.length
    · obtain ⟨q, hq⟩ : ∃ q, l[j]? = some q := ⟨_, List.getElem?_eq_getElem hlt⟩
      obtain ⟨b', o, c1, dv, e1, hc, hm, hbs, a0, a1, a2, a3, a4, ad, hqr⟩ := HV.out.at_ hq
      injection e1 with e1 _ e2
      subst e1 e2
      have p0 := (hB.cell (p := ⟨b', o + j * 5, none⟩) hbs).trans a0
      have p1 := (hB.cell (p := ⟨b', o + j * 5 + 1, none⟩) hbs).trans a1
      have p2 := (hB.cell (p := ⟨b', o + j * 5 + 2, none⟩) hbs).trans a2
      have p3 := (hB.cell (p := ⟨b', o + j * 5 + 3, none⟩) hbs).trans a3
      have p4 := (hB.cell (p := ⟨b', o + j * 5 + 4, none⟩) hbs).trans a4
      obtain ⟨x1, x2, rfl, _⟩ := ad
      have k0 : (0 : Int) ≤ (j : Int) := by omega
      have k1 : (j : Int) < (l.length : Int) := by omega
      clear a0 a1 a2 a3 a4
      by_cases h0 : q.kind = 0
      · have e1 : (q.kind == 0) = true := by rw [h0]; rfl
        clear h0
        have hW4 : ((wr.alloc (.cells #[.int .i64 q.kind, .int .i64 q.k, .int .i64 q.p.src, .int .i64 q.p.dst, .slice x1 q.p.data.length x2] 32)).alloc (.cells #[.int .u8 ((j : Int) % 256), .int .u8 ((j : Int) / 256 % 256), .int .u8 ((j : Int) / 65536), .int .u8 ((j : Int) / 16777216)] 5)).heap[wr.heap.size + 1]? = some (.cells ((nameOf j).map B8).toArray 5 (0, 0)) := by
          rw [← name_cells j (by omega)]; exact heap_at _ _ _ (by simp)
        have hcb := name_back _ _ j hW4
        obtain ⟨cc, hcs, hbv, hbw⟩ := bytes_of_string ((wr.alloc (.cells #[.int .i64 q.kind, .int .i64 q.k, .int .i64 q.p.src, .int .i64 q.p.dst, .slice x1 q.p.data.length x2] 32)).alloc (.cells #[.int .u8 ((j : Int) % 256), .int .u8 ((j : Int) / 256 % 256), .int .u8 ((j : Int) / 65536), .int .u8 ((j : Int) / 16777216)] 5)) (nameOf j) (by simp [nameOf])
        have T4 := (((TT.out.box (.cells #[.int .i64 q.kind, .int .i64 q.k, .int .i64 q.p.src, .int .i64 q.p.dst, .slice x1 q.p.data.length x2] 32)).box (.cells #[.int .u8 ((j : Int) % 256), .int .u8 ((j : Int) / 256 % 256), .int .u8 ((j : Int) / 65536), .int .u8 ((j : Int) / 16777216)] 5)).keep hbw)
        simp only [nameOf_length] at hcs hbv
        have hz4 : ((wr.alloc (.cells #[.int .i64 q.kind, .int .i64 q.k, .int .i64 q.p.src, .int .i64 q.p.dst, .slice x1 q.p.data.length x2] 32)).alloc (.cells #[.int .u8 ((j : Int) % 256), .int .u8 ((j : Int) / 256 % 256), .int .u8 ((j : Int) / 65536), .int .u8 ((j : Int) / 16777216)] 5)).heap.size = wr.heap.size + 1 + 1 := by simp
        rw [hz4] at hcs hbv
        clear hz4
        have HBV := Lib.hid hbv
        have HT4 := Lib.hid T4
        clear hbv hbw T4 hW4
        go_wp2_with fail
        refine (send_o HT4.out _ (pktOf j) _ HBV.out (fun k _ hk e => by subst hk; omega) (by show S.length + 1 < _; omega) (by show lost + 1 < _; omega)).mono ?_
        rintro e w5 ⟨rfl, T5⟩
        rw [bagOf_send] at T5
        by_cases hf : 48 ≤ (live S).length
        · rw [if_pos hf] at T5
          have he : (bagOf S S.length lost).sendE (pktOf j) = 51 := by rw [bagOf_sendE, if_pos hf]
          rw [he]
          clear he
          go_wp2_with fail
          exact ⟨⟨j + 1, lost + 1, S, by omega, by push_cast; rfl, rfl, by omega, by omega, HR.out.mono (by omega), T5.weaken⟩, by simp only [intOf]; omega⟩
        · rw [if_neg hf] at T5
          have he : (bagOf S S.length lost).sendE (pktOf j) = 0 := by rw [bagOf_sendE, if_neg hf]
          rw [he]
          clear he
          have HT5 := Lib.hid T5
          have hb5 := T5.out.size
          have hn := T5.names_row
          rw [List.length_map] at hn
          have HN := Lib.hid hn
          clear hn
          clear T5
          go_wp2_with (first
            | (at_builtin; (refine wpList_append_lies _ rfl (.tmp 52) (.tmp 54) _ rfl w1.heap.size 9 iS _ 1 16 Try.underlying26 ISx.out.1 ISx.out.2.1 ISx.out.2.2.1 ISx.out.2.2.2 rfl (by omega) u4 S.length (S.map nameV) rfl (HN.out.alloc _) ⟨w5.heap.size, 0, none⟩ 1 1 [.string (strOf (nameOf j))] rfl rfl (World.news_of_block (cs := #[.string (strOf (nameOf j))]) (t := 9) (fr := (0, 0)) (heap_at _ _ _ rfl)) (by simp [Value.oneCell']) (by omega) (by unfold maxLen; omega) (by omega) (by simp; omega) (w5.heap.size + 1) (by simp) ?_); (intro g1 c1 w6 hown1 hgrow1 hat1 hlt1); (have ho := HT5.out.outs2 hgrow1); (rw [List.length_map] at ho); (have HO := Lib.hid ho); (clear ho); (have hs6 := hgrow1.size); (have hs6b : w5.heap.size + 1 ≤ w6.heap.size := by simpa using hs6); clear hs6)
            | (at_builtin; (refine wpList_append_lies _ rfl (.tmp 56) (.tmp 57) _ rfl w1.heap.size 4 iB _ 1 1 Try.underlying27 IBx.out.1 IBx.out.2.1 IBx.out.2.2.1 IBx.out.2.2.2 rfl (by omega) u5 S.length (S.map outV) rfl (HO.out.alloc _) ⟨w6.heap.size, 0, none⟩ 1 1 [.bool false] rfl rfl (World.news_of_block (cs := #[.bool false]) (t := 4) (fr := (0, 0)) (heap_at _ _ _ rfl)) (by simp [Value.oneCell']) (by omega) (by unfold maxLen; omega) (by omega) (by simp; omega) (w6.heap.size + 1) (by simp) ?_); intro g2 c2 w7 hown2 hgrow2 hat2 hlt2))
          have R := HT5.out.push' (by simp) (by simp) hown1 hgrow1 hat1 hown2 hgrow2 hat2
          refine ⟨⟨j + 1, lost, S ++ [(j, false)], by omega, by push_cast; rfl, by rw [gone_snoc], by simp; omega, by omega, HR.out.snoc, ?_⟩, by simp only [intOf]; omega⟩
          simpa [nameV, outV] using R
      · have e1 : (q.kind == 0) = false := by simpa using h0
        clear h0
        go_wp2_with fail
        refine (take_o (TT.out.box (.cells #[.int .i64 q.kind, .int .i64 q.k, .int .i64 q.p.src, .int .i64 q.p.dst, .slice x1 q.p.data.length x2] 32)) q.k).mono ?_
        cases hat : (bagOf S S.length lost).at_ q.k with
        | none =>
          rintro e w3 ⟨rfl, T3⟩
          have hd : (bagOf S S.length lost).drop q.k = bagOf S S.length lost := by unfold Bg.drop; rw [hat]
          rw [hd] at T3
          clear hd hat
          go_wp2_with fail
          exact ⟨⟨j + 1, lost, S, by omega, by push_cast; rfl, rfl, by omega, by omega, HR.out.mono (by omega), (T3.box _).weaken⟩, by simp only [intOf]; omega⟩
        | some q' =>
          rintro e w3 ⟨d, rfl, T3⟩
          have hd : (bagOf S S.length lost).drop q.k = ⟨(live S).eraseIdx q.k.toNat, S.length, lost⟩ := by unfold Bg.drop; rw [hat]; rfl
          rw [hd] at T3
          obtain ⟨i, hi, hli⟩ := Bg.at_some hat
          obtain ⟨m, x, hmx, hqx, hlive, hgone⟩ := live_at hli
          have hkn : q.k.toNat = i := by omega
          rw [hkn] at T3
          rw [← hlive] at T3
          clear hkn
          have hxj := HR.out.lt hmx
          subst hqx
          replace T3 : On w1 w1.heap.size (bagOf (S.set m (x, true)) S.length lost) (S.map nameV) (S.map outV) u4 u5 [(d, (.cells ((nameOf x).map B8).toArray 5 (0, 0))), (wr.heap.size, (.cells #[.int .i64 q.kind, .int .i64 q.k, .int .i64 q.p.src, .int .i64 q.p.dst, .slice x1 q.p.data.length x2] 32 (0, 0)))] w3 := T3
          have hml := (List.getElem?_eq_some_iff.1 hmx).1
          have HD := Lib.hid (T3.has (n := d) List.mem_cons_self)
          have hd3 := lt_of_heap HD.out
          have TB := Lib.hid (T3.box (.cells #[.int .i64 x, .int .i64 0, .slice (some ⟨d, 0, none⟩) 4 4] 30))
          have HM := Lib.hid hmx
          have HG := Lib.hid hgone
          clear hd hat hi hli hlive hgone T3 hmx
          have hsl : ∃ a c, u4 = .slice a S.length c := by simpa using TB.out.slices.1
          obtain ⟨sa, sc, rfl⟩ := hsl
          have hol : ∃ a c, u5 = .slice a S.length c := by simpa using TB.out.slices.2
          obtain ⟨oa, oc, rfl⟩ := hol
          have hsrc : (pktOf x).src = (x : Int) := rfl
          have hdst : (pktOf x).dst = 0 := rfl
          have hdl : (pktOf x).data.length = 4 := rfl
          rw [hsrc, hdst, hdl]
          clear hsrc hdst hdl
          go_wp2_with fail
          go_loopw [12, 70] (fun f i wi => ∃ k : Nat, k ≤ S.length ∧ i = .int .i64 k ∧ Found w1 w1.heap.size (bagOf (S.set m (x, true)) S.length lost) S m x (.slice sa S.length sc) (.slice oa S.length oc) [(w3.heap.size, (.cells #[.int .i64 x, .int .i64 0, .slice (some ⟨d, 0, none⟩) 4 4] 30 (0, 0))), (d, (.cells ((nameOf x).map B8).toArray 5 (0, 0)))] k f wi) (fun _ i _ => S.length - (intOf i).toNat)
          case atStart =>
            refine ⟨0, by omega, rfl, Or.inl ⟨by omega, rfl, ?_⟩⟩
            obtain ⟨G, h⟩ := TB.out
            exact ⟨G, { h with kept := fun y hy => h.kept y (by simp at hy; rcases hy with rfl | rfl <;> simp) }⟩
          case round =>
            obtain ⟨k, hk, rfl, hF⟩ := hrel
            have hgl : gone S ≤ S.length := by have := live_length S; omega
            rcases hF with ⟨hkm, rfl, T⟩ | ⟨hmk, rfl, T⟩
            · have hkl : k < S.length := by omega
              obtain ⟨y, hy⟩ : ∃ y, S[k]? = some y := ⟨_, List.getElem?_eq_getElem hkl⟩
              obtain ⟨y, oy⟩ := y
              have hyj := HR.out.lt hy
              obtain ⟨gn, cn, en, hcn1, hcn2, hgn, cn0⟩ := T.names_at (nameV_at hy)
              obtain ⟨go, co, eo, hco1, hco2, hgo, co0, fo0⟩ := T.outs_at (s := outV (y, oy)) (outV_at hy)
              rw [List.length_map] at en hcn1
              rw [List.length_map] at eo hco1
              injection en with en1 _ en2
              injection eo with eo1 _ eo2
              subst en1 en2 eo1 eo2
              replace cn0 : wr.cell? ⟨gn, k, none⟩ = some (.string (strOf (nameOf y))) := cn0
              replace co0 : wr.cell? ⟨go, k, none⟩ = some (.bool oy) := co0
              obtain ⟨-, -, bx, -, -, -⟩ := blk3 (T.has (n := w3.heap.size) List.mem_cons_self)
              have hcb := fun n => name_back (wr.drewN n) d x (T.has (n := d) (by simp))
              have HT := Lib.hid T
              have HY := Lib.hid hy
              have kk0 : (0 : Int) ≤ (k : Int) := by omega
              have kk1 : (k : Int) < (S.length : Int) := by omega
              clear T hy
              by_cases hkx : k = m
              · subst hkx
                have hyx : (y, oy) = (x, false) := Option.some.inj (HY.out.symm.trans HM.out)
                injection hyx with hyx1 hyx2
                subst hyx1 hyx2
                go_wp2_with fail
                go_quiet (fail)
                go_wp2_with fail
                refine ⟨⟨k + 1, by omega, by push_cast; rfl, Or.inr ⟨by omega, rfl, (HT.out.drewN nq).mark k (.bool true)⟩⟩, by simp only [intOf]; omega⟩
              · have hyx := HR.out.ne HY.out HM.out hkx
                have hs := str_ne (x := x) (y := y) (by omega) (by omega) hyx
                have HKX := Lib.hid hkx
                have HYX := Lib.hid hyx
                clear hkx hyx
                go_wp2_with fail
                go_quiet (fail)
                go_wp2_with fail
                refine ⟨⟨k + 1, by omega, by push_cast; rfl, Or.inl ⟨by have := HKX.out; omega, rfl, HT.out.drewN nq⟩⟩, by simp only [intOf]; omega⟩
            · by_cases hkl : k < S.length
              · replace hkl : k < S.length := hkl
                obtain ⟨y, hy⟩ : ∃ y, S[k]? = some y := ⟨_, List.getElem?_eq_getElem hkl⟩
                obtain ⟨y, oy⟩ := y
                have hyj := HR.out.lt hy
                obtain ⟨gn, cn, en, hcn1, hcn2, hgn, cn0⟩ := T.names_at (nameV_at hy)
                obtain ⟨go, co, eo, hco1, hco2, hgo, co0, fo0⟩ := T.outs_at (s := outV (y, oy)) (by rw [List.getElem?_set_ne (Nat.ne_of_lt hmk)]; exact outV_at hy)
                rw [List.length_map] at en hcn1
                rw [List.length_set, List.length_map] at eo hco1
                injection en with en1 _ en2
                injection eo with eo1 _ eo2
                subst en1 en2 eo1 eo2
                replace cn0 : wr.cell? ⟨gn, k, none⟩ = some (.string (strOf (nameOf y))) := cn0
                replace co0 : wr.cell? ⟨go, k, none⟩ = some (.bool oy) := co0
                obtain ⟨-, -, bx, -, -, -⟩ := blk3 (T.has (n := w3.heap.size) List.mem_cons_self)
                have hcb := fun n => name_back (wr.drewN n) d x (T.has (n := d) (by simp))
                have HT := Lib.hid T
                have HY := Lib.hid hy
                have kk0 : (0 : Int) ≤ (k : Int) := by omega
                have kk1 : (k : Int) < (S.length : Int) := by omega
                clear T hy
                have hyx := HR.out.ne HY.out HM.out (by omega)
                have hs := str_ne (x := x) (y := y) (by omega) (by omega) hyx
                have HYX := Lib.hid hyx
                clear hyx
                go_wp2_with fail
                go_quiet (fail)
                go_wp2_with fail
                refine ⟨⟨k + 1, by omega, by push_cast; rfl, Or.inr ⟨by omega, rfl, HT.out.drewN nq⟩⟩, by simp only [intOf]; omega⟩
              · obtain rfl : k = S.length := by omega
                have HT := Lib.hid T
                clear T
                go_wp2_with fail
                refine ⟨⟨j + 1, lost, S.set m (x, true), by omega, by push_cast; rfl, by rw [HG.out]; push_cast; rfl, by rw [List.length_set]; omega, by omega, (HR.out.set HM.out).mono (by omega), ?_⟩, by simp only [intOf]; omega⟩
                rw [List.length_set, nameV_set HM.out, outV_set]
                exact HT.out.weaken
    · obtain rfl : j = l.length := by omega
      have hll := live_length S
      have hsm := TT.out.small
      have hsm2 : (live S).length ≤ 48 := hsm
      have hE1 : ((S.length : Int) != (S.length : Int)) = false := by simp
      have hsub : IntKind.i64.wrap ((S.length : Int) - (gone S : Int)) = (S.length : Int) - (gone S : Int) := IntWalk.i64_in _ (by omega)
      have hE2 : (((live S).length : Int) != (S.length : Int) - (gone S : Int)) = false := by
        have : ((live S).length : Int) = (S.length : Int) - (gone S : Int) := by omega
        simp [this]
      have hE3 : ¬ (48 : Int) < ((live S).length : Int) := by omega
      obtain ⟨⟨sa, sc, e1⟩, oa, oc, e2⟩ := TT.out.slices
      rw [List.length_map] at e1 e2
      subst e1 e2
      have HLL := Lib.hid hll
      clear hll hsm
      go_wp2_with fail
      refine (sent_o TT.out).mono ?_
      rintro e w3 ⟨rfl, rfl⟩
      rw [show ((bagOf S S.length lost).sent : Int) = (S.length : Int) from rfl]
      go_wp2_with fail
      refine (len_o TT.out).mono ?_
      rintro e w3 ⟨rfl, rfl⟩
      rw [show (((bagOf S S.length lost).l.length : Nat) : Int) = ((live S).length : Int) from rfl]
      go_wp2_with fail
      refine (len_o TT.out).mono ?_
      rintro e w3 ⟨rfl, rfl⟩
      rw [show (((bagOf S S.length lost).l.length : Nat) : Int) = ((live S).length : Int) from rfl]
      go_wp2_with fail
      clear hE1 hsub hE2 hE3 hsm2
      go_loopw [122] (fun i wi => ∃ k : Nat, k ≤ S.length ∧ i = .int .i64 k ∧ On w1 w1.heap.size (bagOf (S.drop k) S.length lost) (S.map nameV) (S.map outV) (.slice sa S.length sc) (.slice oa S.length oc) [] wi) (fun i _ => S.length - (intOf i).toNat)
      case atStart => exact ⟨0, by omega, rfl, by rw [List.drop_zero]; exact TT.out⟩
      case round =>
        obtain ⟨k, hk, rfl, T⟩ := hrel
        by_cases hkl : k < S.length
        · obtain ⟨y, hy⟩ : ∃ y, S[k]? = some y := ⟨_, List.getElem?_eq_getElem hkl⟩
          obtain ⟨y, oy⟩ := y
          have hyj := HR.out.lt hy
          obtain ⟨gn, cn, en, hcn1, hcn2, hgn, cn0⟩ := T.names_at (nameV_at hy)
          obtain ⟨go, co, eo, hco1, hco2, hgo, co0, fo0⟩ := T.outs_at (outV_at hy)
          rw [List.length_map] at en hcn1
          rw [List.length_map] at eo hco1
          injection en with en1 _ en2
          injection eo with eo1 _ eo2
          subst en1 en2 eo1 eo2
          replace cn0 : wr.cell? ⟨gn, k, none⟩ = some (.string (strOf (nameOf y))) := cn0
          replace co0 : wr.cell? ⟨go, k, none⟩ = some (.bool oy) := co0
          have HT := Lib.hid T
          have HY := Lib.hid hy
          have kk0 : (0 : Int) ≤ (k : Int) := by omega
          have kk1 : (k : Int) < (S.length : Int) := by omega
          clear T hy
          cases oy with
          | true =>
            go_wp2_with fail
            refine ⟨⟨k + 1, by omega, by push_cast; rfl, ?_⟩, by simp only [intOf]; omega⟩
            have := live_drop_out HY.out
            have T := HT.out
            unfold bagOf at T ⊢
            rw [← this]
            exact T
          | false =>
            obtain ⟨hat, hdr⟩ := bagOf_head (n := S.length) (lost := lost) HY.out
            have C0 := take_o HT.out 0
            rw [hat, hdr] at C0
            have C := Lib.hid C0
            clear hat hdr C0
            go_upto_region 33 with fail
            go_cut [15, 16] (fun u15 u16 wc => ∃ (g d : Nat), u15 = .pointer (some ⟨g, 0, none⟩) ∧ u16 = .bool true ∧ On w1 w1.heap.size (bagOf (S.drop (k + 1)) S.length lost) (S.map nameV) (S.map outV) (.slice (some ⟨gn, 0, none⟩) S.length sc) (.slice (some ⟨go, 0, none⟩) S.length oc) [(g, Obj.cells #[.int .i64 y, .int .i64 0, .slice (some ⟨d, 0, none⟩) 4 4] 30 (0, 0)), (d, Obj.cells ((nameOf y).map B8).toArray 5 (0, 0))] wc)
            case first =>
              go_wp2_with fail
              refine C.out.mono ?_
              rintro e w3 ⟨d, rfl, T3⟩
              have hsrc : (pktOf y).src = (y : Int) := rfl
              have hdst : (pktOf y).dst = 0 := rfl
              have hdl : (pktOf y).data.length = 4 := rfl
              rw [hsrc, hdst, hdl]
              clear hsrc hdst hdl
              go_wp2_with fail
              go_meet
              exact ⟨_, d, rfl, rfl, T3.box (.cells #[.int .i64 y, .int .i64 0, .slice (some ⟨d, 0, none⟩) 4 4] 30)⟩
            case rest =>
              obtain ⟨g, d, rfl, rfl, T3⟩ := hcut
              clear cn0
              obtain ⟨gn', cn', en', -, -, hgn', cn1⟩ := T3.names_at (nameV_at HY.out)
              injection en' with en1 elen en2
              injection en1 with en1
              injection en1 with en1
              subst en1
              clear elen en2
              replace cn1 : wc.cell? ⟨gn, k, none⟩ = some (.string (strOf (nameOf y))) := cn1
              obtain ⟨-, -, bx, -, -, -⟩ := blk3 (T3.has (n := g) List.mem_cons_self)
              have hcb := fun n => name_back (wc.drewN n) d y (T3.has (n := d) (by simp))
              have TB := Lib.hid T3
              clear T3
              go_wp2_with fail
              go_quiet (fail)
              go_wp2_with fail
              refine ⟨⟨k + 1, by omega, by push_cast; rfl, (TB.out.drewN nq).weaken⟩, by simp only [intOf]; omega⟩
        · obtain rfl : k = S.length := by omega
          obtain ⟨hat, hdr⟩ := bagOf_none (S := S) (n := S.length) (lost := lost)
          have C := take_o T 0
          rw [hat, hdr] at C
          clear hat hdr
          go_wp2_with fail
          refine C.mono ?_
          clear C T
          rintro e w3 ⟨rfl, T3⟩
          go_wp2_with fail
          refine (len_o (T3.box _)).mono ?_
          rintro e w4 ⟨rfl, rfl⟩
          rw [show (((bagOf (S.drop S.length) S.length lost).l.length : Nat) : Int) = 0 from by simp [bagOf, live]]
          go_wp2_with fail
          go_ret
          exact ⟨rfl, hb1.trans ((T3.box _).out.mono hb1.size)⟩
end Go.Proofs.Ytdjgmgppghipkaa
