/- THE WALK of BagOwn. -/
import Derived.Test.YtdjgmgppghipkaaJunk7
import Derived.Test.YtdjgmgppghipkaaLawFair
import Derived.Test.YtdjgmgppghipkaaAppendBytes
import Derived.Deep.RegionHeldLaw
namespace Go.Proofs.Ytdjgmgppghipkaa
open Go.RowKit

theorem Two.has3c {w0 w : World} {p mB : Nat} {b m : Bg} {ls : List (Value × List Pkt)} {ps : List (Value × List UInt8)} {ks : List (Nat × Obj)} (T : Two w0 p mB b m ls ps ks w) {n : Nat} {x0 x1 x2 : Value} {t : TypeId} (hn : (n, Obj.cells #[x0, x1, x2] t (0, 0)) ∈ ks) :
    w.cell? ⟨n, 0, none⟩ = some x0 ∧ w.cell? ⟨n, 1, none⟩ = some x1 ∧ w.cell? ⟨n, 2, none⟩ = some x2 := by
  obtain ⟨h0, h1, h2, _⟩ := T.has3 hn
  exact ⟨h0, h1, h2⟩
/-- A row of bytes of the call's own: its block. -/
theorem own_blk {w : World} {base n : Nat} {e : TypeId} {v : Value} {xs : List Value} (h : w.ownsRow base e 1 v n xs) (hn : 0 < n) : ∃ g cap cur, v = .slice (some ⟨g, 0, none⟩) n cap ∧ base ≤ g ∧ w.heap[g]? = some (.cells cur e (0, 0)) ∧ n ≤ cap ∧ cap ≤ maxLen ∧ cur.size = cap ∧ cur.toList.take n = xs := by
  obtain ⟨_, ⟨rfl, rfl⟩ | ⟨g, cap, cur, rfl, hg, hh, hnc, hcm, hcs, ht⟩⟩ := h
  · omega
  · exact ⟨g, cap, cur, rfl, hg, hh, hnc, hcm, by omega, by simpa using ht⟩
theorem Two.bare {w0 w : World} {p mB : Nat} {b m : Bg} {ls : List (Value × List Pkt)} {ps : List (Value × List UInt8)} {ks : List (Nat × Obj)} (T : Two w0 p mB b m ls ps ks w) {ks' : List (Nat × Obj)} (hk : ∀ x ∈ ks', x ∈ ks) : Two w0 p mB b m [] [] ks' w := by
  obtain ⟨G, R, T⟩ := T
  exact ⟨G, R, { T with lists := fun _ h => (by cases h), pkts := fun _ h => (by cases h), kept := fun x hx => T.kept x (hk x hx) }⟩
theorem str_two (l : List UInt8) : ((strOf (l ++ [91, 92])).toList == (strOf l ++ (⟨#[91, 92]⟩ : ByteArray)).toList) = true := by
  rw [beq_iff_eq, ByteArray.toList_eq, ByteArray.toList_eq]
  simp [strOf]
theorem str_size (l : List UInt8) : (strOf l).size = l.length := by show l.toArray.size = l.length; simp
theorem blk_bytes {w : World} {d c : Nat} {cur : Array Value} {l m : List UInt8} (h : w.heap[d]? = some (.cells cur 5 (0, 0))) (ht : cur.toList.take (l.length + m.length) = (l ++ m).map B8) (hc : l.length + m.length ≤ c) (hm : c ≤ maxLen) : BytesV (fun k => k = d) w (.slice (some ⟨d, 0, none⟩) l.length c) l ∧ BytesV (fun k => k = d) w (.slice (some ⟨d, 0, none⟩) (l.length + m.length) c) (l ++ m) := by
  have hcs : ∀ (j : Nat) (x : UInt8), (l ++ m)[j]? = some x → cur[j]? = some (B8 x) := fun j x hx => by
    have hj := (List.getElem?_eq_some_iff.1 hx).1
    rw [List.length_append] at hj
    rw [← Array.getElem?_toList, ← List.getElem?_take_of_lt (l := cur.toList) hj, ht, List.getElem?_map, hx]; rfl
  refine ⟨BytesV.of_block h (fun j x hx => hcs j x ?_) (by omega) hm, ?_⟩
  · rw [List.getElem?_append_left (List.getElem?_eq_some_iff.1 hx).1]; exact hx
  · have := BytesV.of_block (l := l ++ m) (c := c) h hcs (by rw [List.length_append]; omega) hm
    rwa [List.length_append] at this

/-- What Look and Take hand back, to be written over. -/
theorem got_j {w w' : World} {o : Option Pkt} {e : Ending} (h : Got w o e w') (hq : ∀ q, o = some q → q.data.length ≤ 200) :
    ∃ s d a n c bo, e = .returned (.tuple #[.agg #[.int .i64 s, .int .i64 d, .slice a n c], .bool bo]) ∧ n ≤ 200 ∧ JB (fun k => w.heap.size ≤ k) w' (.slice a n c) n := by
  cases o with
  | none => exact ⟨0, 0, none, 0, 0, false, h, by omega, JB.nil⟩
  | some q =>
    obtain ⟨v, rfl, d, rfl, hd, hw⟩ := h
    have h2 := hq q rfl
    exact ⟨_, _, _, _, _, _, rfl, h2, JB.of_data (w0 := w) ⟨d, rfl, hd, hw⟩ (by unfold maxLen; omega) (fun k hk _ => hk)⟩
theorem own_slice7 {w : World} {base : Nat} {e : TypeId} {size n : Nat} {v : Value} {xs : List Value} (h : w.ownsRow base e size v n xs) : ∃ a c, v = .slice a n c := by
  rcases h.2 with ⟨h, h'⟩ | ⟨g, cap, cur, hv, _⟩
  · exact ⟨none, 0, by rw [h, h']⟩
  · exact ⟨_, _, hv⟩
theorem own_empty {w : World} {base g : Nat} {e : TypeId} {size : Nat} (h : w.heap[g]? = some (.cells #[] e (0, 0))) (hb : base ≤ g) : w.ownsRow base e size (.slice (some ⟨g, 0, none⟩) 0 0) 0 [] :=
  ⟨by simp, .inr ⟨g, 0, #[], rfl, hb, h, Nat.le_refl _, Nat.zero_le _, by simp, by simp⟩⟩
theorem below_dr {B : Nat} {w w' : World} (h : Below B w w') : Below B w w'.drew := ⟨h.os, h.tape, h.output, h.size, h.block⟩
theorem below_al {w w' : World} (h : Below w.heap.size w w') (o : Obj) : Below w.heap.size w (w'.alloc o) := h.alloc h.size o
theorem heap_dr {w : World} {g : Nat} {o : Obj} (h : w.heap[g]? = some o) : w.drew.heap[g]? = some o := h
/-- append(v, row...): v a row of its own, the other an own row, too. -/
theorem append_row {P : Program} (w : World) (base : Nat) (t ty e : TypeId) (i : TypeInfo) (z : Value) (size bytes : Nat) (ht : P.underlying t = some (.slice e)) (hi : P.info? e = some i) (hz : i.zero = some z)
    (hsize : i.size = size) (hby : i.bytes = bytes) (hzs : z.cells.size = size) (hsz : 0 < size)
    (v : Value) (n : Nat) (xs : List Value) (hown : w.ownsRow base e size v n xs) (b2 : Nat) (sv : Value) (m : Nat) (ys : List Value) (hsv : w.ownsRow b2 e size sv m ys) (h1 : ∀ u ∈ ys, u.oneCell' = true)
    (h63 : n + m ≤ maxLen) (hbytes : (n + m) * bytes ≤ 140737488355328) (hbase : base ≤ w.heap.size) :
    ∃ v' w', (Builtin.append_ #[t, t] ty #[v, sv]).run P w = .ok v' w' ∧ w'.ownsRow base e size v' (n + m) (xs ++ ys) ∧ w.grownBy w' v.ownBlock ∧ (v'.ownBlock = v.ownBlock ∨ v'.ownBlock = some w.heap.size) := by
  rcases hsv with ⟨hl, ⟨rfl, rfl⟩ | ⟨g, cap, cur, rfl, hb, hh, hnc, hcm, hcs, htk⟩⟩
  · have hys : ys = [] := List.eq_nil_of_length_eq_zero (by omega)
    subst hys
    exact ⟨v, w, append_none w base t ty e i size ht hi v n xs hown 0, by simpa using hown, World.grownBy.refl w _, .inl rfl⟩
  · have hcells := World.ownsRow.cells (w := w) (base := b2) (e := e) (size := size) (v := .slice (some ⟨g, 0, none⟩) m cap) (n := m) (xs := ys) ⟨hl, .inr ⟨g, cap, cur, rfl, hb, hh, hnc, hcm, hcs, htk⟩⟩ (g := g) rfl
    obtain ⟨v', w', hrun, a1, a2, _, a3⟩ := run_append_own_at (P := P) w base t ty e i z size bytes ht hi hz hsize hby hzs hsz v n xs hown ⟨g, 0, none⟩ m cap ys hl hcells h1 h63 hbytes hbase
    exact ⟨v', w', hrun, a1, a2, a3⟩
theorem step_append_row {P : Program} {w : World} {ops : Array Oper} {o : Oper} {a : Act} {K : Act → World → Prop} {Q : Exit → Act → World → Prop} {E : Prop} (dd : Option Nat) (hdd : o.dst = dd) (hgd : o.guard = none) (s x : Operand) (t : TypeId)
    (ho : o.op = .call { callee := .builtin .append, args := #[s, x], argTypes := #[t, t] })
    (base : Nat) (e : TypeId) (i : TypeInfo) (z : Value) (size bytes : Nat) (ht : P.underlying t = some (.slice e)) (hi : P.info? e = some i) (hz : i.zero = some z)
    (hsize : i.size = size) (hby : i.bytes = bytes) (hzs : z.cells.size = size) (hsz : 0 < size)
    (v : Value) (n : Nat) (xs : List Value) (hs : a.eval s = v) (hown : w.ownsRow base e size v n xs) (b2 : Nat) (sv : Value) (m : Nat) (ys : List Value) (hx : a.eval x = sv) (hsv : w.ownsRow b2 e size sv m ys) (h1 : ∀ u ∈ ys, u.oneCell' = true)
    (h63 : n + m ≤ maxLen) (hbytes : (n + m) * bytes ≤ 140737488355328) (hbase : base ≤ w.heap.size)
    (h : ∀ v' w', w'.ownsRow base e size v' (n + m) (xs ++ ys) → w.grownBy w' v.ownBlock → (v'.ownBlock = v.ownBlock ∨ v'.ownBlock = some w.heap.size) → K (a.put dd v') w') :
    if Region.wanted o (yielded ops a.tmps) = true then Oper.wp P o a w K Q else E := by
  subst hdd
  have hw : Region.wanted o (yielded ops a.tmps) = true := by simp [Region.wanted, hgd]
  rw [if_pos hw]
  obtain ⟨v', w', hrun, a1, a2, a3⟩ := append_row (P := P) w base t o.type e i z size bytes ht hi hz hsize hby hzs hsz v n xs hown b2 sv m ys hsv h1 h63 hbytes hbase
  unfold Oper.wp execOp
  simp only [ho, resolve, invoke, builtin, Sem.run_bind, Sem.run_pure, Result.andThen_ok, List.map_toArray, List.map_cons, List.map_nil, hs, hx, hrun]
  exact h v' w' a1 a2 a3
theorem row_grown {W V w8 : World} {g n c : Nat} (h : Below W.heap.size W V ∧ W.heap.size ≤ g) (hg : V.grownBy w8 (Value.slice (some ⟨g, 0, none⟩) n c).ownBlock) : Below W.heap.size W w8 :=
  h.1.grown hg h.1.size (fun k e => by
    have : g = k := by simpa [Value.ownBlock] using e
    omega)
theorem row_nil {w : World} {b n : Nat} {e : TypeId} {s : Nat} {v : Value} {ys : List Value} (h : w.ownsRow b e s v (0 + n) ([] ++ ys)) : w.ownsRow b e s v n ys := by rwa [Nat.zero_add, List.nil_append] at h
theorem row_grown2 {W w8 w9 : World} {e : TypeId} {s n : Nat} {v : Value} {ys : List Value} (h : Below W.heap.size W w8) (ho : w8.ownsRow W.heap.size e s v n ys) (hg : w8.grownBy w9 v.ownBlock) : Below W.heap.size W w9 := h.grown hg h.size (fun k e => (ho.lt k e).1)
theorem row_grown3 {W w8 w9 : World} {o : Obj} {e : TypeId} {s n : Nat} {v : Value} {ys : List Value} (h : Below W.heap.size W w8) (ho : w8.ownsRow W.heap.size e s v n ys) (hg : (w8.alloc o).grownBy w9 v.ownBlock) : Below W.heap.size W w9 := (below_al h o).grown hg (below_al h o).size (fun k e => (ho.lt k e).1)
/-- As the kit's law, the slot named. -/
theorem step_append_lies2 {P : Program} (w : World) {ops : Array Oper} {o : Oper} {a : Act} {K : Act → World → Prop} {Q : Exit → Act → World → Prop} {E : Prop} (dd : Option Nat) (hdd : o.dst = dd) (hgd : o.guard = none) (s x : Operand) (t : TypeId)
    (ho : o.op = .call { callee := .builtin .append, args := #[s, x], argTypes := #[t, t] })
    (base : Nat) (e : TypeId) (i : TypeInfo) (z : Value) (size bytes : Nat) (ht : P.underlying t = some (.slice e)) (hi : P.info? e = some i) (hz : i.zero = some z)
    (hsize : i.size = size) (hby : i.bytes = bytes) (hzs : z.cells.size = size) (hsz : 0 < size)
    (v : Value) (n : Nat) (xs : List Value) (hs : a.eval s = v) (hown : w.ownsRow base e size v n xs)
    (ad : Addr) (m c : Nat) (news : List Value) (hx : a.eval x = .slice (some ad) m c) (hl : news.length = m * size) (hnews : ∀ j u, news[j]? = some u → w.cell? (ad.add j) = some u) (h1 : ∀ u ∈ news, u.oneCell' = true)
    (hm : 0 < m) (h63 : n + m ≤ maxLen) (hbytes : (n + m) * bytes ≤ 140737488355328) (hbase : base ≤ w.heap.size) (H : Nat) (hH : w.heap.size = H)
    (h : ∀ g cap w', w'.ownsRow base e size (.slice (some ⟨g, 0, none⟩) (n + m) cap) (n + m) (xs ++ news) → w.grownBy w' v.ownBlock → (v.ownBlock = some g ∨ g = H) → g < w'.heap.size → K (a.put dd (.slice (some ⟨g, 0, none⟩) (n + m) cap)) w') :
    if Region.wanted o (yielded ops a.tmps) = true then Oper.wp P o a w K Q else E := by
  subst hdd
  exact step_append_lies w hgd s x t ho base e i z size bytes ht hi hz hsize hby hzs hsz v n xs hs hown ad m c news hx hl hnews h1 hm h63 hbytes hbase H hH h
/-- Where the writing over begins. -/
theorem js_start {w0 w6 W wm : World} {G R : Nat → Prop} {p mB base n g c pn : Nat} {b m : Bg} {ls : List (Value × List Pkt)} {cs1 : List Value} {ov : Value} {ps pd : Int} {pv : Value}
    (hT : TwoG G R w0 p mB b m ls [] [] W) (hbl : Below W.heap.size W wm) (hb6 : Below w6.heap.size w6 W) (hown : wm.ownsRow W.heap.size 30 3 (.slice (some ⟨g, 0, none⟩) (n + 1) c) (n + 1) (cs1 ++ [.int .i64 ps, .int .i64 pd, pv]))
    (ho1 : w6.ownsRow base 30 3 ov n cs1) (hJ1 : ∀ k, ov.ownBlock = some k → Jk G R w0 mB k ∧ k < W.heap.size) (hJ2 : ∀ k, W.heap.size ≤ k → Jk G R w0 mB k)
    (hel : ∀ i, i < n → ∃ a b dv m, cs1[i * 3]? = some (.int .i64 a) ∧ cs1[i * 3 + 1]? = some (.int .i64 b) ∧ cs1[i * 3 + 2]? = some dv ∧ JB (Jk G R w0 mB) w6 dv m ∧ m ≤ 200)
    (hp : JB (Jk G R w0 mB) W pv pn) (hpn : pn ≤ 200) :
    JS w0 G R p mB b m ls (.slice (some ⟨g, 0, none⟩) (n + 1) c) (n + 1) (cs1 ++ [.int .i64 ps, .int .i64 pd, pv]) 200 ov n wm := by
  have hl := ho1.1
  have hb := hb6.trans (hbl.mono hb6.size)
  have hg := (hown.lt g rfl).1
  refine ⟨hT.keep hbl, ⟨own_zero hown, fun k hk => ?_, fun i hi => ?_⟩, ⟨cs1, ownsRow_keep (own_zero ho1) (fun k hk => hb.block k (ho1.lt k hk).2)⟩, fun k hk => ⟨(hJ1 k hk).1, fun e => ?_⟩⟩
  · obtain rfl : g = k := by simpa [Value.ownBlock] using hk
    exact hJ2 g hg
  · rcases Nat.lt_or_ge i n with h | h
    · obtain ⟨a, b, dv, m, e1, e2, e3, e4, e5⟩ := hel i h
      refine ⟨a, b, dv, m, ?_, ?_, ?_, e4.below hb, e5⟩
      · rw [List.getElem?_append_left (by omega)]; exact e1
      · rw [List.getElem?_append_left (by omega)]; exact e2
      · rw [List.getElem?_append_left (by omega)]; exact e3
    · obtain rfl : i = n := by omega
      refine ⟨ps, pd, pv, pn, ?_, ?_, ?_, hp.below hbl, hpn⟩
      · rw [List.getElem?_append_right (by omega), show i * 3 - cs1.length = 0 from by omega]; rfl
      · rw [List.getElem?_append_right (by omega), show i * 3 + 1 - cs1.length = 1 from by omega]; rfl
      · rw [List.getElem?_append_right (by omega), show i * 3 + 2 - cs1.length = 2 from by omega]; rfl
  · have h1 : g = k := by simpa [Value.ownBlock] using e
    have h2 := (hJ1 k hk).2
    omega
set_option maxRecDepth 100000 in
set_option maxHeartbeats 8000000 in
theorem bagOwn_any (l : List Pkt) (v : Value) (k : Int) (w : World) (hv : PktsIn w v l) (hl : l.length ≤ reachBytes) :
    Calls Try.prog 5 #[v, .int .i64 k] w fun e w' => e = .returned (.bool true) ∧ Below w.heap.size w w' := by
  have HV := Lib.hid hv
  have hl2 := Nat.le_trans hl reach_le
  obtain ⟨i0, hi, hz0, hz1, hz2⟩ := info_parts Try.info8
  obtain ⟨iP, hiP, hzP0, hzP1, hzP2⟩ := info_parts Try.info30
  obtain ⟨a, c, rfl, _⟩ := hv
  go_enter Try.func5, Try.ntmps5
  go_wp2_with fail
  refine (awake_any _).mono ?_
  rintro e w1 ⟨rfl, hb1⟩
  go_wp2_with fail
  refine (new_s w1).mono ?_
  rintro e w2 ⟨rfl, s2⟩
  have hp2 := s2.bag.head.2
  go_wp2_with fail
  go_loopw [30] (fun i wr => ∃ (j : Nat) (b : Bg), j ≤ l.length ∧ i = .int .i64 j ∧ b.sent ≤ j ∧ b.lost ≤ j ∧ Two w1 w1.heap.size w2.heap.size b b [] [] [] wr) (fun i _ => l.length - (intOf i).toNat)
  case atStart =>
    exact ⟨0, ⟨[], 0, 0⟩, by omega, rfl, Nat.le_refl _, Nat.le_refl _, Two.start s2⟩
  case round =>
    obtain ⟨j, b, hj, rfl, hsn, hln, T⟩ := hrel
    have hz := T.size
    have hB : Below w.heap.size w wr := hb1.trans (T.out.mono hb1.size)
    have z1 : w2.heap.size < wr.heap.size := hz.2.1
    by_cases hlt : j < l.length
    · obtain ⟨q, hq⟩ : ∃ q, l[j]? = some q := ⟨_, List.getElem?_eq_getElem hlt⟩
      obtain ⟨b', o, c1, dv, e1, hc, hm, hbs, a0, a1, a2, ad, hqr⟩ := HV.out.at_ hq
      injection e1 with e1 e3 e2
      clear e3
      subst e1 e2
      have p0 := (hB.cell (p := ⟨b', o + j * 3, none⟩) hbs).trans a0
      have p1 := (hB.cell (p := ⟨b', o + j * 3 + 1, none⟩) hbs).trans a1
      have p2 := (hB.cell (p := ⟨b', o + j * 3 + 2, none⟩) hbs).trans a2
      have AD := Lib.hid ((ad.keep (w' := w1) (fun j hj _ => hb1.block j hj) hb1.size).mono (G' := fun k => k < w1.heap.size) (fun k hk _ => hk))
      obtain ⟨x1, x2, rfl, _⟩ := ad
      have hqr2 : q.data.length ≤ 140737488351232 := hqr
      have k0 : (0 : Int) ≤ (j : Int) := by omega
      have k1 : (j : Int) < (l.length : Int) := by omega
      obtain ⟨W, hW⟩ : ∃ W, W = (wr.alloc (.cells #[.int .i64 q.src, .int .i64 q.dst, .slice x1 q.data.length x2] 30)).alloc (.cells #[] 5) := ⟨_, rfl⟩
      have TT := Lib.hid (T.box (.cells #[.int .i64 q.src, .int .i64 q.dst, .slice x1 q.data.length x2] 30))
      have hBW : Below wr.heap.size wr W := by rw [hW]; exact ((Below.refl _ _).alloc (Nat.le_refl _) _).alloc (by simp) _
      have hBW1 : Below (wr.heap.size + 1) (wr.alloc (.cells #[.int .i64 q.src, .int .i64 q.dst, .slice x1 q.data.length x2] 30)) W := by rw [hW]; exact ((Below.refl _ _).alloc (by simp) _)
      have hWs : W.heap.size = wr.heap.size + 2 := by rw [hW]; simp
      have hrow : W.ownsRow (wr.heap.size + 1) 5 1 (.slice (some ⟨wr.heap.size + 1, 0, none⟩) 0 0) 0 [] := by
        rw [hW]
        have := World.ownsRow_made (base := wr.heap.size + 1) (e := 5) (size := 1) (wr.alloc (.cells #[.int .i64 q.src, .int .i64 q.dst, .slice x1 q.data.length x2] 30)) #[] 0 (by simp) (by decide) rfl
        simpa using this
      have HW := Lib.hid hW
      have HBW := Lib.hid hBW
      have HBW1 := Lib.hid hBW1
      have HWs := Lib.hid hWs
      have HR := Lib.hid hrow
      have HD := Lib.hid (AD.out.below ((T.out.trans (hBW.mono T.out.size))))
      clear hBW hBW1 hWs hrow a0 a1 a2 T
      go_wp2_with (at_builtin; first
        | (rw [← HW.out]; refine wpList_append_bytes rfl (.tmp 34) (.tmp 36) 28 rfl (wr.heap.size + 1) 5 i0 Try.underlying28 hi hz0 hz1 hz2 (.slice (some ⟨wr.heap.size + 1, 0, none⟩) 0 0) 0 [] rfl HR.out (fun k => k < w1.heap.size) _ q.data rfl HD.out (by omega) (by rw [HWs.out]; omega) ?_; intro v3 w3 hown3 hgrow3 hat3; rw [List.nil_append, Nat.zero_add] at hown3; have HO3 := Lib.hid hown3; have HB3 := Lib.hid (HBW1.out.grown hgrow3 (by rw [HWs.out]; omega) (by intro k e; simp [Value.ownBlock] at e; omega)); have hs3 : wr.heap.size + 2 ≤ w3.heap.size := (by have := hgrow3.size; rw [HWs.out] at this; exact this); clear hown3 hgrow3 hat3)
        | (refine wpList_append_bytes rfl (.tmp 37) (.tmp 38) 28 rfl (wr.heap.size + 1) 5 i0 Try.underlying28 hi hz0 hz1 hz2 v3 q.data.length (q.data.map B8) rfl (HO3.out.alloc _) (fun k => k = w3.heap.size) _ [91, 92] rfl (BytesV.of_block (l := [91, 92]) (c := 2) (cs := #[.int .u8 91, .int .u8 92]) (heap_at w3 _ _ rfl) (fun j x hx => by match j, hx with | 0, hx => simp at hx; subst hx; rfl | 1, hx => simp at hx; subst hx; rfl) (by decide) (by decide)) (by simp; omega) (by simp; omega) ?_; intro v4 w4 hown4 hgrow4 hat4))
      obtain ⟨g4, cap4, cur4, rfl, hg4, hh4, hnc4, hcm4, hcs4, ht4⟩ := own_blk hown4 (by simp)
      have hB4 : Below (wr.heap.size + 1) (wr.alloc (.cells #[.int .i64 q.src, .int .i64 q.dst, .slice x1 q.data.length x2] 30)) w4 := (HB3.out.alloc (by omega) _).grown hgrow4 (by simp; omega) (fun k e => (HO3.out.lt k e).1)
      have hT4 := TT.out.adopt (w' := w4) (by simpa using hB4) hh4 (by simpa using hg4)
      have T4 := Lib.hid hT4
      obtain ⟨o0, o1, o2⟩ := hT4.drew.has3c (n := wr.heap.size) (List.mem_cons_of_mem _ List.mem_cons_self)
      have ht5 : cur4.toList.take (q.data.length + [(91 : UInt8), 92].length) = (q.data ++ [91, 92]).map B8 := by rw [List.map_append]; exact ht4
      have HT := Lib.hid ht5
      have HC4 := Lib.hid hcs4
      have BD := Lib.hid (blk_bytes (w := w4.drew) (m := [91, 92]) hh4 ht5 hnc4 hcm4).1
      have hs4 := hB4.size
      have r0 : (q.data.length : Int) ≤ (cap4 : Int) := by omega
      clear hown4 hgrow4 hat4 hB4 hT4 ht4 ht5 hh4 p0 p1 p2 hcs4
      go_wp2_with fail
      go_region_held_law (fun u => u.cell? ⟨wr.heap.size, 0, none⟩ = some (.int .i64 q.src) ∧ u.cell? ⟨wr.heap.size, 1, none⟩ = some (.int .i64 q.dst) ∧ u.cell? ⟨wr.heap.size, 2, none⟩ = some (.slice x1 q.data.length x2)) (first | exact ⟨by assumption, by assumption, by assumption⟩ | go_keep) (first
        | (go_at_call 11; (refine (send_t T4.out.drew (fun k => k = g4) q _ BD.out (fun k _ hk => by omega) (by omega) (by omega)).mono ?_); rintro e w5 ⟨rfl, T5⟩; have HT5 := Lib.hid T5; obtain ⟨s0, s1, s2⟩ := T5.has3c (n := wr.heap.size) (List.mem_cons_of_mem _ List.mem_cons_self); clear T5))
      all_goals
        have hT6 := HT5.out.old (AD.out.below HT5.out.out)
        obtain ⟨ma, mc, hT7, m0, m1, m2, f0, f1, f2⟩ := hT6.cells
        obtain ⟨v0, v1, v2⟩ := hT7.has3c (n := wr.heap.size) (List.mem_cons_of_mem _ List.mem_cons_self)
        have T7 := Lib.hid hT7
        clear hT6 hT7 o0 o1 o2
        go_wp2_with fail
        refine (rsend_t T7.out q (by simp) (by simp) (by omega) (by omega)).mono ?_
        rintro e w6 ⟨a6, n6, rfl, T8, i1, i2, i3⟩
        have T9 := T8.store (m' := b.send q) (lv := .slice a6 (b.send q).l.length n6) (by simp) i1 i2 i3
        obtain ⟨na, nc, T8', n0, n1, n2, g0, g1, g2⟩ := T8.cells
        obtain ⟨X, hX⟩ : ∃ X, X = ((w6.setCell ⟨w2.heap.size, 0, none⟩ (.slice a6 (b.send q).l.length n6)).setCell ⟨w2.heap.size, 1, none⟩ (.int .i64 (b.send q).sent)).setCell ⟨w2.heap.size, 2, none⟩ (.int .i64 (b.send q).lost) := ⟨_, rfl⟩
        rw [← hX] at T9
        obtain ⟨y0, y1, y2⟩ := T9.has3c (n := wr.heap.size) (List.mem_cons_of_mem _ List.mem_cons_self)
        have hh9 := T9.has (n := g4) (o := .cells cur4 5 (0, 0)) List.mem_cons_self
        have cv1 : (convert 28 9 (.slice (some ⟨g4, 0, none⟩) (q.data.length + 2) cap4)).run Try.prog X = .ok (.string (strOf (q.data ++ [91, 92]))) X := (blk_bytes (w := X) (m := [91, 92]) hh9 HT.out hnc4 hcm4).2.string 28 9 5 Try.underlying28 Try.underlying5 Try.underlying9 (w' := X) (fun k _ _ => rfl)
        have cv2 := (AD.out.below T9.out).string 28 9 5 Try.underlying28 Try.underlying5 Try.underlying9 (w' := X) (fun k _ _ => rfl)
        have HT9 := Lib.hid T9
        have HX := Lib.hid hX
        have hz6 := T8.size.2.1
        clear T8 T8' T9 s0 s1 s2 hh9 HX
        subst hX
        have eqs := str_two q.data
        have sz0 : ¬ 9223372036854775807 < (strOf q.data).size + 2 := by rw [str_size]; omega
        go_wp2_with fail
        clear cv1 cv2 eqs sz0
        go_loopw [67] (fun i wt => ∃ (i2 : Nat) (cur : Array Value), i2 ≤ q.data.length + 2 ∧ i = .int .i64 i2 ∧ cur.size = cap4 ∧ Two w1 w1.heap.size w2.heap.size (b.send q) (b.send q) [] [] [(g4, .cells cur 5 (0, 0))] wt) (fun i _ => q.data.length + 2 - (intOf i).toNat)
        case atStart => exact ⟨0, cur4, by omega, rfl, HC4.out, HT9.out.bare (by simp)⟩
        case round =>
          obtain ⟨i2, cur, hi2, rfl, hcz, T⟩ := hrel
          by_cases hlt2 : i2 < q.data.length + 2
          · have hh := T.has (n := g4) (o := .cells cur 5 (0, 0)) List.mem_cons_self
            obtain ⟨u, hu⟩ : ∃ u, cur[i2]? = some u := ⟨_, Array.getElem?_eq_getElem (by rw [hcz]; exact Nat.lt_of_lt_of_le hlt2 hnc4)⟩
            have j0 := (blk_cell hh i2).trans hu
            have j1 := blk_free hh i2
            have k2 : (0 : Int) ≤ (i2 : Int) := by omega
            have k3 : (i2 : Int) < (q.data.length : Int) + 2 := by omega
            have TS := Lib.hid (T.set (i := i2) (u := .int .u8 120) List.mem_cons_self [] (by simp))
            clear T hh
            go_wp2_with fail
            exact ⟨⟨i2 + 1, _, by omega, by push_cast; rfl, by simpa using hcz, TS.out⟩, by simp only [intOf]; omega⟩
          · go_wp2_with fail
            exact ⟨⟨j + 1, b.send q, by omega, by push_cast; rfl, by have := b.send_counts q; omega, by have := b.send_counts q; omega, T.weaken⟩, by simp only [intOf]; omega⟩
    · have HT0 := Lib.hid T
      clear T
      go_wp2_with fail
      refine (double_t HT0.out k).mono ?_
      rintro e w3 ⟨rfl, T3⟩
      obtain ⟨ma, mc, T3', m0, m1, m2, f0, f1, f2⟩ := T3.cells
      have HT3 := Lib.hid T3'
      clear T3 T3'
      go_wp2_with fail
      refine (rdouble_t HT3.out k (by simp)).mono ?_
      rintro e w4 ⟨a4, n4, rfl, T4, i1, i2, i3⟩
      have T5 := (T4.store (m' := b.double k) (lv := .slice a4 (b.double k).l.length n4) (by simp) i1 i2 i3).weaken
      obtain ⟨na, nc, T4', n0, n1, n2, g0, g1, g2⟩ := T4.cells
      obtain ⟨G, R, T6⟩ := T5
      have HT6 := Lib.hid T6
      have hz4 := T4.size.2.1
      obtain ⟨b2, hb2⟩ : ∃ b2, b2 = b.double k := ⟨_, rfl⟩
      rw [← hb2] at HT6 i1 i2 i3
      rw [← hb2]
      have Hb2 := Lib.hid hb2
      clear T4 T4' T6 hb2
      go_wp2_with fail
      refine (list_x G w1.heap.size b2 _ HT6.out.bag).mono ?_
      rintro e w5 ⟨lv, rfl, ⟨cs1, ho1, hp1⟩, hnil, hb5⟩
      have HT7 := Lib.hid (HT6.out.keep hb5)
      clear m0 m1 m2 f0 f1 f2 n0 n1 n2 g0 g1 g2
      go_wp2_with fail
      refine (list_any G w1.heap.size b2 _ HT7.out.bag).mono ?_
      rintro e w6 ⟨lv2, rfl, hn2, hb6⟩
      have hv2 := PktsV.of_new hn2
      obtain ⟨R8, hR8⟩ : ∃ R8 : Nat → Prop, R8 = fun k => R k ∨ (w5.heap.size ≤ k ∧ k < w6.heap.size) := ⟨_, rfl⟩
      have hT8 := (HT7.out.answerX hb6).addList (hv2.mono (fun k h1 h2 => Or.inr ⟨h2, h1⟩))
      rw [← hR8] at hT8
      have HT8 := Lib.hid hT8
      have hs5 : w4.heap.size ≤ w5.heap.size := by have := hb5.size; simpa [World.setCell] using this
      have hs6 := hb6.size
      have HJ : Hid (∀ k, (w4.heap.size ≤ k ∧ k < w5.heap.size) ∨ w6.heap.size ≤ k → Jk G R8 w1 w2.heap.size k) := Lib.hid (fun k hk => by
        have h1 := HT6.out.below.size
        have h2 : (((w4.setCell ⟨w2.heap.size, 0, none⟩ (.slice a4 b2.l.length n4)).setCell ⟨w2.heap.size, 1, none⟩ (.int .i64 b2.sent)).setCell ⟨w2.heap.size, 2, none⟩ (.int .i64 b2.lost)).heap.size = w4.heap.size := by simp [World.setCell]
        rw [h2] at h1
        refine ⟨by omega, fun hg => ?_, fun hr => ?_, by omega⟩
        · have := HT6.out.gs k hg; rw [h2] at this; omega
        · rw [hR8] at hr
          rcases hr with hr | hr
          · have := HT6.out.rs k hr; rw [h2] at this; omega
          · omega)
      have hj1 : ∀ i, i < b2.l.length → ∃ a b dv m, cs1[i * 3]? = some (.int .i64 a) ∧ cs1[i * 3 + 1]? = some (.int .i64 b) ∧ cs1[i * 3 + 2]? = some dv ∧ JB (Jk G R8 w1 w2.heap.size) w6 dv m ∧ m ≤ 200 := fun i hi => by
        obtain ⟨q, hq⟩ : ∃ q, b2.l[i]? = some q := ⟨_, List.getElem?_eq_getElem hi⟩
        obtain ⟨dv, h1, h2, h3, h4⟩ := hp1.at_ i q hq
        have h5 := HT6.out.bag.data q (List.mem_of_getElem? hq)
        exact ⟨_, _, dv, _, h2, h3, h4, (JB.of_data h1 (by unfold maxLen; omega) (fun k hk1 hk2 => HJ.out k (.inl ⟨by simpa [World.setCell] using hk1, hk2⟩))).below hb6, h5⟩
      have HJ1 := Lib.hid hj1
      have HO1 := Lib.hid (ownsRow_keep ho1 (fun g hg => hb6.block g (ho1.lt g hg).2))
      have hob : ∀ g, lv.ownBlock = some g → w4.heap.size ≤ g ∧ g < w5.heap.size := fun g hg => by have := ho1.lt g hg; simpa [World.setCell] using this
      have HOB := Lib.hid hob
      have hoc : ∀ u ∈ cs1, u.oneCell' = true := oneCell_pktsX hp1
      have HOC := Lib.hid hoc
      have hl1 := b2.l.length
      obtain ⟨oa, oc, rfl⟩ := own_slice7 ho1
      obtain ⟨la, lc, rfl, _⟩ := hv2
      have HNIL := Lib.hid hnil
      clear hT8 hj1 ho1 hob hoc hp1 hn2 hb5 hb6 hnil hl1
      go_wp2_with fail
      refine (look_any G w1.heap.size b2 k _ HT8.out.bag).mono ?_
      rintro e w7 ⟨hg7, hb7⟩
      obtain ⟨ps, pd, pa, pn, pc, bo, rfl, hpn, hj7⟩ := got_j hg7 (fun q hq => by obtain ⟨i, _, hi⟩ := Bg.at_some hq; exact HT8.out.bag.data q (List.mem_of_getElem? hi))
      have HJ7 := Lib.hid (hj7.mono (fun k _ hk => HJ.out k (.inr hk)))
      have HT9 := Lib.hid ((HT8.out.keep hb7).keep ((Below.refl _ _).alloc (Nat.le_refl _) (.cells #[.int .i64 ps, .int .i64 pd, .slice pa pn pc] 30)))
      have hb8 : Below w6.heap.size w6 (w7.alloc (.cells #[.int .i64 ps, .int .i64 pd, .slice pa pn pc] 30)) := hb7.alloc hb7.size _
      have HB8 := Lib.hid hb8
      clear hg7 hj7 hb7 hb8
      go_upto_region 23 with fail
      go_cut [15] (fun u15 wc => ∃ g c, u15 = .slice (some ⟨g, 0, none⟩) (b2.l.length + 1) c ∧ wc.ownsRow (w7.heap.size + 1) 30 3 (.slice (some ⟨g, 0, none⟩) (b2.l.length + 1) c) (b2.l.length + 1) (cs1 ++ [.int .i64 ps, .int .i64 pd, .slice pa pn pc]) ∧ Below (w7.heap.size + 1) (w7.alloc (.cells #[.int .i64 ps, .int .i64 pd, .slice pa pn pc] 30)) wc)
      case first =>
        have hsm := HT6.out.bag.small
        have hW0 := heap_at w7 (.cells #[.int .i64 ps, .int .i64 pd, .slice pa pn pc] 30) _ rfl
        obtain ⟨c0, c1, c2, -, -, -⟩ := blk3 hW0
        obtain ⟨W, hW⟩ : ∃ W, W = w7.alloc (.cells #[.int .i64 ps, .int .i64 pd, .slice pa pn pc] 30) := ⟨_, rfl⟩
        have hWs : W.heap.size = w7.heap.size + 1 := by rw [hW]; simp
        have HWB : Hid (Below w6.heap.size w6 W) := by rw [hW]; exact HB8
        have HWb : Hid (Below W.heap.size W W) := Lib.hid (Below.refl _ _)
        have HWs := Lib.hid hWs
        rw [← hW]
        rw [← hW] at c0 c1 c2
        have HW := Lib.hid hW
        have HC := Lib.hid (And.intro c0 (And.intro c1 c2))
        clear hW hW0 hWs
        have hE1 : Hid (((W.alloc (.cells #[] 30)).drew).ownsRow W.heap.size 30 3 (.slice (some ⟨W.heap.size, 0, none⟩) 0 0) 0 []) := Lib.hid (own_empty (heap_dr (heap_at _ _ _ rfl)) (by have := HWs.out; omega))
        have hR1 := Lib.hid (ownsRow_keep (w' := (W.alloc (.cells #[] 30)).drew) HO1.out (fun g hg => Below.block (below_dr (below_al HWB.out _)) g (HO1.out.lt g hg).2))
        have hB1 : Hid (Below W.heap.size W ((W.alloc (.cells #[] 30)).drew) ∧ W.heap.size ≤ W.heap.size) := Lib.hid ⟨below_dr (below_al HWb.out _), by omega⟩
        have hV1 : Hid (W.heap.size ≤ ((W.alloc (.cells #[] 30)).drew).heap.size) := Lib.hid (by have h1 := hB1.out.1.size; have h2 := HWs.out; omega)
        have hE2 : Hid ((((W.alloc (.cells #[.int .i64 ps, .int .i64 pd, .slice pa pn pc] 30)).alloc (.cells #[] 30)).drew).ownsRow W.heap.size 30 3 (.slice (some ⟨W.heap.size + 1, 0, none⟩) 0 0) 0 []) := Lib.hid (own_empty (heap_dr (heap_at _ _ _ (by simp))) (by have := HWs.out; omega))
        have hR2 := Lib.hid (ownsRow_keep (w' := ((W.alloc (.cells #[.int .i64 ps, .int .i64 pd, .slice pa pn pc] 30)).alloc (.cells #[] 30)).drew) HO1.out (fun g hg => Below.block (below_dr (below_al (below_al HWB.out _) _)) g (HO1.out.lt g hg).2))
        have hB2 : Hid (Below W.heap.size W (((W.alloc (.cells #[.int .i64 ps, .int .i64 pd, .slice pa pn pc] 30)).alloc (.cells #[] 30)).drew) ∧ W.heap.size ≤ W.heap.size + 1) := Lib.hid ⟨below_dr (below_al (below_al HWb.out _) _), by omega⟩
        have hV2 : Hid (W.heap.size ≤ (((W.alloc (.cells #[.int .i64 ps, .int .i64 pd, .slice pa pn pc] 30)).alloc (.cells #[] 30)).drew).heap.size) := Lib.hid (by have h1 := hB2.out.1.size; have h2 := HWs.out; omega)
        have hE3 : Hid ((((W.alloc (.cells #[] 30)).alloc (.cells #[.int .i64 ps, .int .i64 pd, .slice pa pn pc] 30)).drew).ownsRow W.heap.size 30 3 (.slice (some ⟨W.heap.size, 0, none⟩) 0 0) 0 []) := Lib.hid (own_empty (heap_dr (blk_alloc (heap_at _ _ _ rfl) _)) (by have := HWs.out; omega))
        have hR3 := Lib.hid (ownsRow_keep (w' := ((W.alloc (.cells #[] 30)).alloc (.cells #[.int .i64 ps, .int .i64 pd, .slice pa pn pc] 30)).drew) HO1.out (fun g hg => Below.block (below_dr (below_al (below_al HWB.out _) _)) g (HO1.out.lt g hg).2))
        have hB3 : Hid (Below W.heap.size W (((W.alloc (.cells #[] 30)).alloc (.cells #[.int .i64 ps, .int .i64 pd, .slice pa pn pc] 30)).drew) ∧ W.heap.size ≤ W.heap.size) := Lib.hid ⟨below_dr (below_al (below_al HWb.out _) _), by omega⟩
        have hV3 : Hid (W.heap.size ≤ (((W.alloc (.cells #[] 30)).alloc (.cells #[.int .i64 ps, .int .i64 pd, .slice pa pn pc] 30)).drew).heap.size) := Lib.hid (by have h1 := hB3.out.1.size; have h2 := HWs.out; omega)
        have hP1 : ∀ {w8 : World} (_ : ((W.alloc (.cells #[] 30)).drew).grownBy w8 (Value.slice (some ⟨W.heap.size, 0, none⟩) 0 0).ownBlock), True := fun _ => trivial
        have hP2 : ∀ {w8 : World} (_ : (((W.alloc (.cells #[.int .i64 ps, .int .i64 pd, .slice pa pn pc] 30)).alloc (.cells #[] 30)).drew).grownBy w8 (Value.slice (some ⟨W.heap.size + 1, 0, none⟩) 0 0).ownBlock), w8.heap[W.heap.size]? = some (.cells #[.int .i64 ps, .int .i64 pd, .slice pa pn pc] 30 (0, 0)) := fun h => (h.block _ (by simp; omega) (by simp [Value.ownBlock])).trans (heap_dr (blk_alloc (heap_at _ _ _ rfl) _))
        have hP3 : ∀ {w8 : World} (_ : (((W.alloc (.cells #[] 30)).alloc (.cells #[.int .i64 ps, .int .i64 pd, .slice pa pn pc] 30)).drew).grownBy w8 (Value.slice (some ⟨W.heap.size, 0, none⟩) 0 0).ownBlock), w8.heap[W.heap.size + 1]? = some (.cells #[.int .i64 ps, .int .i64 pd, .slice pa pn pc] 30 (0, 0)) := fun h => (h.block _ (by simp) (by simp [Value.ownBlock])).trans (heap_dr (heap_at _ _ _ (by simp)))
        go_region_held_law (fun u => u.cell? ⟨w7.heap.size, 0, none⟩ = some (.int .i64 ps) ∧ u.cell? ⟨w7.heap.size, 1, none⟩ = some (.int .i64 pd) ∧ u.cell? ⟨w7.heap.size, 2, none⟩ = some (.slice pa pn pc)) (first | exact ⟨by assumption, by assumption, by assumption⟩ | go_keep) (first
          | (refine step_append_row (some 96) rfl rfl (.tmp 94) (.tmp 95) _ rfl W.heap.size 30 iP _ 3 40 Try.underlying40 hiP hzP0 hzP1 hzP2 rfl (by omega) (.slice (some ⟨W.heap.size, 0, none⟩) 0 0) 0 [] rfl hE1.out _ (.slice oa b2.l.length oc) b2.l.length cs1 rfl hR1.out HOC.out (by unfold maxLen; omega) (by omega) (hV1.out) ?_; intro v8 w8 hown8 hgrow8 hat8; have hB8 := row_grown hB1.out hgrow8; have e0 := (hB8.cell (p := ⟨w7.heap.size, 0, none⟩) (by rw [HWs.out]; exact Nat.lt_succ_self _)).trans HC.out.1; have e1 := (hB8.cell (p := ⟨w7.heap.size, 1, none⟩) (by rw [HWs.out]; exact Nat.lt_succ_self _)).trans HC.out.2.1; have e2 := (hB8.cell (p := ⟨w7.heap.size, 2, none⟩) (by rw [HWs.out]; exact Nat.lt_succ_self _)).trans HC.out.2.2; have HP8 := Lib.hid (hP1 hgrow8); have HB8b := Lib.hid hB8; have HO8 := Lib.hid (row_nil hown8); clear hB8 hown8 hgrow8 hat8)
          | (refine step_append_row (some 96) rfl rfl (.tmp 94) (.tmp 95) _ rfl W.heap.size 30 iP _ 3 40 Try.underlying40 hiP hzP0 hzP1 hzP2 rfl (by omega) (.slice (some ⟨W.heap.size + 1, 0, none⟩) 0 0) 0 [] rfl hE2.out _ (.slice oa b2.l.length oc) b2.l.length cs1 rfl hR2.out HOC.out (by unfold maxLen; omega) (by omega) (hV2.out) ?_; intro v8 w8 hown8 hgrow8 hat8; have hB8 := row_grown hB2.out hgrow8; have e0 := (hB8.cell (p := ⟨w7.heap.size, 0, none⟩) (by rw [HWs.out]; exact Nat.lt_succ_self _)).trans HC.out.1; have e1 := (hB8.cell (p := ⟨w7.heap.size, 1, none⟩) (by rw [HWs.out]; exact Nat.lt_succ_self _)).trans HC.out.2.1; have e2 := (hB8.cell (p := ⟨w7.heap.size, 2, none⟩) (by rw [HWs.out]; exact Nat.lt_succ_self _)).trans HC.out.2.2; have HP8 := Lib.hid (hP2 hgrow8); have HB8b := Lib.hid hB8; have HO8 := Lib.hid (row_nil hown8); clear hB8 hown8 hgrow8 hat8)
          | (refine step_append_row (some 96) rfl rfl (.tmp 94) (.tmp 95) _ rfl W.heap.size 30 iP _ 3 40 Try.underlying40 hiP hzP0 hzP1 hzP2 rfl (by omega) (.slice (some ⟨W.heap.size, 0, none⟩) 0 0) 0 [] rfl hE3.out _ (.slice oa b2.l.length oc) b2.l.length cs1 rfl hR3.out HOC.out (by unfold maxLen; omega) (by omega) (hV3.out) ?_; intro v8 w8 hown8 hgrow8 hat8; have hB8 := row_grown hB3.out hgrow8; have e0 := (hB8.cell (p := ⟨w7.heap.size, 0, none⟩) (by rw [HWs.out]; exact Nat.lt_succ_self _)).trans HC.out.1; have e1 := (hB8.cell (p := ⟨w7.heap.size, 1, none⟩) (by rw [HWs.out]; exact Nat.lt_succ_self _)).trans HC.out.2.1; have e2 := (hB8.cell (p := ⟨w7.heap.size, 2, none⟩) (by rw [HWs.out]; exact Nat.lt_succ_self _)).trans HC.out.2.2; have HP8 := Lib.hid (hP3 hgrow8); have HB8b := Lib.hid hB8; have HO8 := Lib.hid (row_nil hown8); clear hB8 hown8 hgrow8 hat8)
          | (refine step_append_lies2 _ (some 99) rfl rfl (.tmp 96) (.tmp 98) _ rfl W.heap.size 30 iP _ 3 40 Try.underlying40 hiP hzP0 hzP1 hzP2 rfl (by omega) v8 b2.l.length cs1 rfl (by first | exact HO8.out | exact HO8.out.alloc _) _ 1 1 [.int .i64 ps, .int .i64 pd, .slice pa pn pc] rfl rfl (World.news_of_block (cs := #[.int .i64 ps, .int .i64 pd, .slice pa pn pc]) (t := 30) (fr := (0, 0)) (by first | exact HP8.out | exact heap_at _ _ _ rfl)) (by simp [Value.oneCell']) (by omega) (by unfold maxLen; omega) (by omega) (by have h := HB8b.out.size; first | exact h | (simp; omega)) _ rfl ?_; intro g9 cap9 w9 hown9 hgrow9 hat9 hlt9; have hB9 : Below W.heap.size W w9 := (by first | exact row_grown2 HB8b.out HO8.out hgrow9 | exact row_grown3 HB8b.out HO8.out hgrow9); have e3 := (hB9.cell (p := ⟨w7.heap.size, 0, none⟩) (by rw [HWs.out]; exact Nat.lt_succ_self _)).trans HC.out.1; have e4 := (hB9.cell (p := ⟨w7.heap.size, 1, none⟩) (by rw [HWs.out]; exact Nat.lt_succ_self _)).trans HC.out.2.1; have e5 := (hB9.cell (p := ⟨w7.heap.size, 2, none⟩) (by rw [HWs.out]; exact Nat.lt_succ_self _)).trans HC.out.2.2; have HB9 := Lib.hid hB9; have HO9 := Lib.hid hown9; clear hB9 hown9 hgrow9 hat9 hlt9))
        all_goals
          have hO : w9.ownsRow (w7.heap.size + 1) 30 3 (.slice (some ⟨g9, 0, none⟩) (b2.l.length + 1) cap9) (b2.l.length + 1) (cs1 ++ [.int .i64 ps, .int .i64 pd, .slice pa pn pc]) := by rw [← HWs.out]; exact HO9.out
          have hBB : Below (w7.heap.size + 1) (w7.alloc (.cells #[.int .i64 ps, .int .i64 pd, .slice pa pn pc] 30)) w9 := by rw [← HWs.out, ← HW.out]; exact HB9.out
          have HO10 := Lib.hid hO
          have HB10 := Lib.hid hBB
          clear hO hBB
          go_wp2_with fail
          go_meet
          exact ⟨g9, cap9, rfl, HO10.out, HB10.out⟩
      case rest =>
        obtain ⟨g, c9, rfl, hown, hbl⟩ := hcut
        have hsm := HT6.out.bag.small
        have HS := Lib.hid (js_start HT9.out (by simpa using hbl) HB8.out (by simpa using hown) HO1.out (fun k hk => ⟨HJ.out k (.inl (HOB.out k hk)), by have h1 := (HOB.out k hk).2; have h2 := HB8.out.size; omega⟩) (fun k hk => HJ.out k (.inr (Nat.le_trans HB8.out.size hk))) HJ1.out (HJ7.out.below ((Below.refl _ _).alloc (Nat.le_refl _) _)) hpn)
        clear hown hbl
        go_wp2_with fail
        go_loopw [102] (fun i wt => ∃ j2 : Nat, j2 ≤ b2.l.length + 1 ∧ i = .int .i64 j2 ∧ JS w1 G R8 w1.heap.size w2.heap.size b2 b2 [(.slice la b2.l.length lc, b2.l)] (.slice (some ⟨g, 0, none⟩) (b2.l.length + 1) c9) (b2.l.length + 1) (cs1 ++ [.int .i64 ps, .int .i64 pd, .slice pa pn pc]) 200 (.slice oa b2.l.length oc) b2.l.length wt) (fun i _ => b2.l.length + 1 - (intOf i).toNat)
        case atStart => exact ⟨0, by omega, rfl, HS.out⟩
        case round =>
          obtain ⟨j2, hj2, rfl, HSr⟩ := hrel
          have HSR := Lib.hid HSr
          clear HSr
          by_cases hlt2 : j2 < b2.l.length + 1
          · obtain ⟨da, dm, dc, hdc⟩ := HSR.out.rows.has hlt2
            obtain ⟨g', c', ds, e1, hJg, hgl, hnc, hcm, hcell, hfr, hheap, hjb, hmB⟩ := HSR.out.rows.here hlt2 hdc
            obtain ⟨rfl, rfl⟩ : g = g' ∧ c9 = c' := by simpa using e1
            have HDC := Lib.hid hdc
            have k2 : (0 : Int) ≤ (j2 : Int) := by omega
            have k3 : (j2 : Int) < (b2.l.length : Int) + 1 := by omega
            clear hheap hjb e1 hdc hfr
            go_wp2_with fail
            go_loopw [111] (fun i wt => ∃ i2 : Nat, i2 ≤ dm ∧ i = .int .i64 i2 ∧ JS w1 G R8 w1.heap.size w2.heap.size b2 b2 [(.slice la b2.l.length lc, b2.l)] (.slice (some ⟨g, 0, none⟩) (b2.l.length + 1) c9) (b2.l.length + 1) (cs1 ++ [.int .i64 ps, .int .i64 pd, .slice pa pn pc]) 200 (.slice oa b2.l.length oc) b2.l.length wt) (fun i _ => dm - (intOf i).toNat)
            case atStart => exact ⟨0, by omega, rfl, HSR.out⟩
            case round =>
              obtain ⟨i2, hi2, rfl, HSq⟩ := hrel
              have HSQ := Lib.hid HSq
              clear HSq
              by_cases hlt3 : i2 < dm
              · obtain ⟨g', c', ds, e1, hJg, hgl, hnc, hcm, hcell2, hfr2, hheap2, hjb2, hmB2⟩ := HSQ.out.rows.here hlt2 HDC.out
                obtain ⟨rfl, rfl⟩ : g = g' ∧ c9 = c' := by simpa using e1
                obtain ⟨d, dc', u, ds', e2, hJd, hdl, hmc, hcm2, hcell3, hfr3, hheap3⟩ := hjb2.at_ hlt3
                obtain ⟨rfl, rfl⟩ : da = some ⟨d, 0, none⟩ ∧ dc = dc' := by simpa using e2
                have HH3 := Lib.hid hheap3
                have HJd := Lib.hid hJd
                have k4 : (0 : Int) ≤ (i2 : Int) := by omega
                have k5 : (i2 : Int) < (dm : Int) := by omega
                clear hheap2 hheap3 hjb2 e1 e2 hJd hfr2
                go_wp2_with fail
                exact ⟨⟨i2 + 1, by omega, by push_cast; rfl, HSQ.out.byte HH3.out HJd.out⟩, by simp only [intOf]; omega⟩
              · go_wp2_with fail
                exact ⟨⟨j2 + 1, by omega, by push_cast; rfl, HSQ.out⟩, by simp only [intOf]; omega⟩
          · go_wp2_with fail
            go_loopw [128] (fun i wt => ∃ (j3 : Nat) (cs : List Value), j3 ≤ b2.l.length + 1 ∧ i = .int .i64 j3 ∧ JS w1 G R8 w1.heap.size w2.heap.size b2 b2 [(.slice la b2.l.length lc, b2.l)] (.slice (some ⟨g, 0, none⟩) (b2.l.length + 1) c9) (b2.l.length + 1) cs (200 + 9 * j3) (.slice oa b2.l.length oc) b2.l.length wt) (fun i _ => b2.l.length + 1 - (intOf i).toNat)
            case atStart => exact ⟨0, _, by omega, rfl, HSR.out.mono (by omega)⟩
            case round =>
              obtain ⟨j3, cs3, hj3, rfl, HSr3⟩ := hrel
              have HSR3 := Lib.hid HSr3
              clear HSr3
              by_cases hlt4 : j3 < b2.l.length + 1
              · have k2 : (0 : Int) ≤ (j3 : Int) := by omega
                have k3 : (j3 : Int) < (b2.l.length : Int) + 1 := by omega
                go_wp2_with fail
                go_loopw [19] (fun i wt => ∃ (i4 : Nat) (cs : List Value), i4 ≤ 9 ∧ i = .int .i64 i4 ∧ JS w1 G R8 w1.heap.size w2.heap.size b2 b2 [(.slice la b2.l.length lc, b2.l)] (.slice (some ⟨g, 0, none⟩) (b2.l.length + 1) c9) (b2.l.length + 1) cs (200 + 9 * j3 + i4) (.slice oa b2.l.length oc) b2.l.length wt) (fun i _ => 9 - (intOf i).toNat)
                case atStart => exact ⟨0, _, by omega, rfl, HSR3.out.mono (by omega)⟩
                case round =>
                  obtain ⟨i4, cs4, hi4, rfl, HSr4⟩ := hrel
                  have HSR4 := Lib.hid HSr4
                  clear HSr4
                  by_cases hlt5 : i4 < 9
                  · obtain ⟨da, dm, dc, hdc⟩ := HSR4.out.rows.has hlt4
                    obtain ⟨g', c', ds, e1, hJg, hgl, hnc, hcm, hcell, hfr, hheap, ⟨xs, hxo, hxj⟩, hmB⟩ := HSR4.out.rows.here hlt4 hdc
                    obtain ⟨rfl, rfl⟩ : g = g' ∧ c9 = c' := by simpa using e1
                    have HX := Lib.hid hxo
                    have HXJ := Lib.hid hxj
                    have HHP := Lib.hid hheap
                    have HCL := Lib.hid hcell
                    have HNE := Lib.hid (own_ne hxo hheap (by decide))
                    have k4 : (0 : Int) ≤ (i4 : Int) := by omega
                    have k5 : (i4 : Int) < 9 := by omega
                    clear e1 hdc hfr hheap hxo hxj hJg
                    go_wp2_with (at_builtin; refine wpList_append_aside _ rfl (.tmp 141) (.tmp 142) _ rfl 5 i0 _ 1 Try.underlying28 hi hz0 hz1 hz2 rfl (.slice da dm dc) dm xs rfl (HX.out.alloc _) ⟨wr.heap.size, 0, none⟩ 1 (.int .u8 200) rfl (blk_cell (heap_at _ _ _ rfl) 0) rfl (by unfold maxLen; omega) (by omega) ?_; intro v' w' hown' hgrow' ha'; have hh' := (hgrow'.block g (by simp; omega) (fun e => HNE.out e.symm)).trans (blk_alloc HHP.out _); have f1 := (blk_cell hh' (j3 * 3 + 2)).trans ((blk_cell HHP.out (j3 * 3 + 2)).symm.trans HCL.out); have f2 := blk_free hh' (j3 * 3 + 2); obtain ⟨xa, xc, e'⟩ := own_slice7 hown'; subst e'; have HF := Lib.hid (((HSR4.out.keep ((Below.refl _ _).alloc (Nat.le_refl _) _)).app hlt4 (HX.out.alloc _) HXJ.out hown' hgrow' ha' (Nat.le_succ _) (by omega))); clear hown' hgrow' ha' hh')
                    exact ⟨⟨i4 + 1, _, by omega, by push_cast; rfl, HF.out⟩, by simp only [intOf]; omega⟩
                  · go_wp2_with fail
                    exact ⟨⟨j3 + 1, _, by omega, by push_cast; rfl, HSR4.out.mono (by omega)⟩, by simp only [intOf]; omega⟩
              · go_wp2_with fail
                go_loopw [149] (fun i wt => ∃ j5 : Nat, j5 ≤ b2.l.length ∧ i = .int .i64 j5 ∧ JS w1 G R8 w1.heap.size w2.heap.size b2 b2 [(.slice la b2.l.length lc, b2.l)] (.slice (some ⟨g, 0, none⟩) (b2.l.length + 1) c9) (b2.l.length + 1) cs3 (200 + 9 * j3) (.slice oa b2.l.length oc) b2.l.length wt) (fun i _ => b2.l.length - (intOf i).toNat)
                case atStart => exact ⟨0, by omega, rfl, HSR3.out⟩
                case round =>
                  obtain ⟨j5, hj5, rfl, HSr5⟩ := hrel
                  have HSR5 := Lib.hid HSr5
                  clear HSr5
                  by_cases hlt6 : j5 < b2.l.length
                  · obtain ⟨xs, hxs⟩ := HSR5.out.row1
                    obtain ⟨u0, hu0⟩ : ∃ u, xs[j5 * 3]? = some u := ⟨_, List.getElem?_eq_getElem (by rw [hxs.1]; omega)⟩
                    obtain ⟨u1, hu1⟩ : ∃ u, xs[j5 * 3 + 1]? = some u := ⟨_, List.getElem?_eq_getElem (by rw [hxs.1]; omega)⟩
                    obtain ⟨u2, hu2⟩ : ∃ u, xs[j5 * 3 + 2]? = some u := ⟨_, List.getElem?_eq_getElem (by rw [hxs.1]; omega)⟩
                    obtain ⟨g1, c1, ds, e1, hg1, hnc1, hcm1, q0, q1, hh1⟩ := own_cell hxs hu0
                    obtain ⟨rfl, rfl⟩ : oa = some ⟨g1, 0, none⟩ ∧ oc = c1 := by simpa using e1
                    have r1 := (own_cell hxs hu1)
                    obtain ⟨g1', c1', ds1, e2, -, -, -, q2, q3, -⟩ := r1
                    obtain ⟨rfl, rfl⟩ : g1 = g1' ∧ oc = c1' := by simpa using e2
                    obtain ⟨g2', c2', ds2, e3, -, -, -, q4, q5, -⟩ := own_cell hxs hu2
                    obtain ⟨rfl, rfl⟩ : g1 = g2' ∧ oc = c2' := by simpa using e3
                    have k6 : (0 : Int) ≤ (j5 : Int) := by omega
                    have k7 : (j5 : Int) < (b2.l.length : Int) := by omega
                    clear e1 e2 e3 hxs hh1 hu0 hu1 hu2
                    go_wp2_with fail
                    exact ⟨⟨j5 + 1, by omega, by push_cast; rfl, ((HSR5.out.put rfl).put rfl).put rfl⟩, by simp only [intOf]; omega⟩
                  · have HT10 := Lib.hid HSR5.out.two
                    go_wp2_with fail
                    refine (take_any2 G w1.heap.size b2 k _ HT10.out.bag).mono ?_
                    rintro e w10 ⟨hg10, hbag, hm10⟩
                    have T10 := HT10.out.takeX hbag hm10
                    obtain ⟨qs, qd, qa, qn, qc, bo2, rfl, hqn, hj10⟩ := got_j hg10 (fun q hq => by obtain ⟨i, _, hi⟩ := Bg.at_some hq; exact HT10.out.bag.data q (List.mem_of_getElem? hi))
                    obtain ⟨G2, hG2⟩ : ∃ G2 : Nat → Prop, G2 = fun k => G k ∧ k < wr.heap.size := ⟨_, rfl⟩
                    rw [← hG2] at T10
                    have hj11 : JB (Jk G2 R8 w1 w2.heap.size) w10 (.slice qa qn qc) qn := hj10.mono (fun j _ hj => by
                      have h1 := HT10.out.below.size
                      have h2 := (show Two w1 w1.heap.size w2.heap.size b2 b2 _ [] [] wr from ⟨_, _, HT10.out⟩).size
                      refine ⟨by omega, fun hg => ?_, fun hr => ?_, by omega⟩
                      · rw [hG2] at hg; have := hg.2; omega
                      · have := HT10.out.rs j hr; omega)
                    have HT11 := Lib.hid (T10.keep ((Below.refl _ _).alloc (Nat.le_refl _) (.cells #[.int .i64 qs, .int .i64 qd, .slice qa qn qc] 30)))
                    have HJ11 := Lib.hid (hj11.below ((Below.refl _ _).alloc (Nat.le_refl _) (.cells #[.int .i64 qs, .int .i64 qd, .slice qa qn qc] 30)))
                    have HBX := Lib.hid (heap_at w10 (.cells #[.int .i64 qs, .int .i64 qd, .slice qa qn qc] 30) _ rfl)
                    clear hg10 hbag hm10 T10 hj10 hj11 hG2
                    go_wp2_with fail
                    go_loopw [166] (fun i wt => ∃ i6 : Nat, i6 ≤ qn ∧ i = .int .i64 i6 ∧ TwoG G2 R8 w1 w1.heap.size w2.heap.size (b2.drop k) b2 [(.slice la b2.l.length lc, b2.l)] [] [] wt ∧ JB (Jk G2 R8 w1 w2.heap.size) wt (.slice qa qn qc) qn ∧ wt.heap[w10.heap.size]? = some (.cells #[.int .i64 qs, .int .i64 qd, .slice qa qn qc] 30 (0, 0))) (fun i _ => qn - (intOf i).toNat)
                    case atStart => exact ⟨0, by omega, rfl, HT11.out, HJ11.out, HBX.out⟩
                    case round =>
                      obtain ⟨i6, hi6, rfl, T12, hj12, hbx⟩ := hrel
                      have HT12 := Lib.hid T12
                      have HJ12 := Lib.hid hj12
                      have HBX2 := Lib.hid hbx
                      obtain ⟨q0, q1, q2, -, -, -⟩ := blk3 hbx
                      clear T12 hj12 hbx
                      by_cases hlt7 : i6 < qn
                      · obtain ⟨d, dc', u, ds', e2, hJd, hdl, hmc, hcm2, hcell3, hfr3, hheap3⟩ := HJ12.out.at_ hlt7
                        obtain ⟨rfl, rfl⟩ : qa = some ⟨d, 0, none⟩ ∧ qc = dc' := by simpa using e2
                        have HJd := Lib.hid hJd
                        have hne : w10.heap.size ≠ d := fun e => by
                          rw [← e, HBX2.out] at hheap3
                          simp at hheap3
                        have k6 : (0 : Int) ≤ (i6 : Int) := by omega
                        have k7 : (i6 : Int) < (qn : Int) := by omega
                        have HNE := Lib.hid hne
                        clear hJd hheap3 e2 hne
                        go_wp2_with fail
                        exact ⟨⟨i6 + 1, by omega, by push_cast; rfl, HT12.out.junk ((Mod.refl _ _).setCell (fun _ => HJd.out) _), HJ12.out.set _ _ _, blk_far HBX2.out HNE.out _⟩, by simp only [intOf]; omega⟩
                      · have TT : Two w1 w1.heap.size w2.heap.size (b2.drop k) b2 [(.slice la b2.l.length lc, b2.l)] [] [] wr := ⟨_, _, HT12.out⟩
                        obtain ⟨ma, mc, T', m0, m1, m2, f0, f1, f2⟩ := TT.cells
                        have HT13 := Lib.hid T'
                        clear TT T' q0 q1 q2
                        go_wp2_with fail
                        refine (sameAll_t HT13.out b2.l (by simp) (by simp)).mono ?_
                        rintro e w12 ⟨rfl, T14⟩
                        obtain ⟨mb, mc2, T14', n0, n1, n2, h0, h1, h2⟩ := T14.cells
                        have HT14 := Lib.hid T14'
                        clear T14 T14' m0 m1 m2 f0 f1 f2
                        go_wp2_with fail
                        refine (rtake_t HT14.out k (by simp)).mono ?_
                        rintro e w13 ⟨a13, n13, x13, y13, xa, xn, xc, rfl, T15, j1, j2', j3'⟩
                        have T16 := (T15.store (m' := b2.drop k) (lv := .slice a13 (b2.drop k).l.length n13) (by simp) j1 j2' j3')
                        obtain ⟨mb3, mc3, T15', p0, p1, p2, r0, r1, r2⟩ := T15.cells
                        obtain ⟨mb4, mc4, T16', s0, s1, s2, -, -, -⟩ := T16.cells
                        have hz13 := T15.size.2.1
                        have TT := Lib.hid T16'
                        clear T15 T15' T16 T16' n0 n1 n2 h0 h1 h2
                        go_wp2_with fail
                        go_region_with (first | (go_at_call 16; (refine (list_t TT.out.drew).mono ?_); rintro e w14 ⟨la', lc', rfl, T17⟩; obtain ⟨ma', mc', T17', n0, n1, n2, g0, g1, g2⟩ := T17.cells; have TT3 := Lib.hid T17'; clear T17 T17') | (go_at_call 19; (refine (sameAll_t TT3.out (b2.drop k).l (by simp) (by simp)).mono ?_); rintro e w15 ⟨rfl, T18⟩))
                        all_goals
                          go_wp2_with fail
                          go_ret
                          exact ⟨rfl, hb1.trans (T18.out.mono hb1.size)⟩
end Go.Proofs.Ytdjgmgppghipkaa
