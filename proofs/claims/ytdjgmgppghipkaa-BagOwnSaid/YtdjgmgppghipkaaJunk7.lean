/- Junk: slices that are written over, in blocks that neither bag has. -/
import Derived.Test.YtdjgmgppghipkaaListX
import Derived.Deep.AppendLies
namespace Go.Proofs.Ytdjgmgppghipkaa
open Go.RowKit

/-- Blocks that the two bags, and what was answered and is kept, don't have. -/
def Jk (G R : Nat → Prop) (w0 : World) (mB : Nat) (k : Nat) : Prop := w0.heap.size ≤ k ∧ ¬ G k ∧ ¬ R k ∧ k ≠ mB
section
variable {w0 w w' : World} {p mB : Nat} {b b' m m' : Bg} {ls : List (Value × List Pkt)} {ps : List (Value × List UInt8)} {ks : List (Nat × Obj)} {G R : Nat → Prop}
theorem TwoG.junk (h : TwoG G R w0 p mB b m ls ps [] w) (hm : Mod (Jk G R w0 mB) w w') : TwoG G R w0 p mB b m ls ps [] w' := by
  obtain ⟨lv, r1, r2⟩ := h.ref
  have hk : ∀ k, k < w.heap.size → R k → w'.heap[k]? = w.heap[k]? := fun k hk hR => hm.block k hk (fun j => j.2.2.1 hR)
  have hs := hm.size
  exact ⟨h.bag.keep (fun k hk hG => hm.block k hk (fun j => j.2.1 hG)) hs, ⟨lv, (hm.block mB (lt_of_heap r1) (fun j => j.2.2.2 rfl)).trans r1, r2.keep hk hs⟩, fun x hx => (h.lists x hx).keep hk hs, fun x hx => (h.pkts x hx).keep hk hs,
    fun k hk => by have := h.gs k hk; omega, fun k hk => by have := h.rs k hk; exact ⟨this.1, by omega, this.2.2⟩, fun _ hx => (by cases hx), h.mb, h.below.trans (hm.toBelow h.below.size (fun k hk => hk.1))⟩
theorem TwoG.answerX (h : TwoG G R w0 p mB b m ls ps ks w) (hb : Below w.heap.size w w') : TwoG G (fun k => R k ∨ (w.heap.size ≤ k ∧ k < w'.heap.size)) w0 p mB b m ls ps ks w' := by
  obtain ⟨lv, r1, r2⟩ := h.ref
  have hmB := lt_of_heap r1
  have hs := hb.size
  refine ⟨h.bag.below hb, ⟨lv, (hb.block mB hmB).trans r1, (r2.keep (fun k hk _ => hb.block k hk) hs).mono (fun k _ hk => Or.inl hk)⟩, fun x hx => ((h.lists x hx).below hb).mono (fun k _ hk => Or.inl hk), fun x hx => ((h.pkts x hx).below hb).mono (fun k _ hk => Or.inl hk),
    fun k hk => by have := h.gs k hk; omega, fun k hk => ?_, fun x hx => ?_, h.mb, h.below.trans (hb.mono h.below.size)⟩
  · rcases hk with hk | hk
    · have := h.rs k hk; exact ⟨this.1, by omega, this.2.2⟩
    · exact ⟨fun hg => by have := h.gs k hg; omega, by omega, by omega⟩
  · obtain ⟨k1, k2, k3, k4⟩ := h.kept x hx
    have hlt := lt_of_heap k1
    exact ⟨(hb.block x.1 hlt).trans k1, k2, fun hk => hk.elim k3 (fun h => by omega), k4⟩
theorem TwoG.keep (h : TwoG G R w0 p mB b m ls ps ks w) (hb : Below w.heap.size w w') : TwoG G R w0 p mB b m ls ps ks w' := by
  obtain ⟨lv, r1, r2⟩ := h.ref
  have hs := hb.size
  exact ⟨h.bag.below hb, ⟨lv, (hb.block mB (lt_of_heap r1)).trans r1, r2.keep (fun k hk _ => hb.block k hk) hs⟩, fun x hx => (h.lists x hx).below hb, fun x hx => (h.pkts x hx).below hb,
    fun k hk => by have := h.gs k hk; omega, fun k hk => by have := h.rs k hk; exact ⟨this.1, by omega, this.2.2⟩, fun x hx => ⟨(hb.block x.1 (lt_of_heap (h.kept x hx).1)).trans (h.kept x hx).1, (h.kept x hx).2⟩, h.mb, h.below.trans (hb.mono h.below.size)⟩
theorem TwoG.takeX (h : TwoG G R w0 p mB b m ls ps [] w) (hb : BagAt (fun k => G k ∧ k < w.heap.size) w' p b') (hm : Mod G w w') : TwoG (fun k => G k ∧ k < w.heap.size) R w0 p mB b' m ls ps [] w' := by
  obtain ⟨lv, r1, r2⟩ := h.ref
  have hk : ∀ k, k < w.heap.size → R k → w'.heap[k]? = w.heap[k]? := fun k hk hR => hm.block k hk (h.rs k hR).1
  have hmB := lt_of_heap r1
  have hs := hm.size
  refine ⟨hb, ⟨lv, (hm.block mB hmB (fun hg => (h.gs mB hg).2.2 rfl)).trans r1, r2.keep hk hs⟩, fun x hx => (h.lists x hx).keep hk hs, fun x hx => (h.pkts x hx).keep hk hs, fun k hk => ?_, fun k hk => ?_, fun x hx => (by cases hx), h.mb, h.below.trans (hm.toBelow h.below.size (fun k hk => (h.gs k hk).1))⟩
  · have := h.gs k hk.1; omega
  · have := h.rs k hk
    exact ⟨fun hg => this.1 hg.1, by omega, this.2.2⟩
/-- Bytes that came in. -/
theorem Two.old (h : Two w0 p mB b m ls ps ks w) {v : Value} {l : List UInt8} (hv : BytesV (fun k => k < w0.heap.size) w v l) : Two w0 p mB b m ls ((v, l) :: ps) ks w := by
  obtain ⟨G, R, h⟩ := h
  obtain ⟨lv, r1, r2⟩ := h.ref
  have hs := h.below.size
  refine ⟨G, fun k => R k ∨ k < w0.heap.size, h.bag, ⟨lv, r1, r2.mono (fun k _ hk => Or.inl hk)⟩, fun x hx => (h.lists x hx).mono (fun k _ hk => Or.inl hk), fun x hx => ?_, h.gs, fun k hk => ?_, fun x hx => ?_, h.mb, h.below⟩
  · rcases List.mem_cons.1 hx with rfl | hx
    · exact hv.mono (fun k _ hk => Or.inr hk)
    · exact (h.pkts x hx).mono (fun k _ hk => Or.inl hk)
  · rcases hk with hk | hk
    · exact h.rs k hk
    · have := h.mb
      exact ⟨fun hg => by have := h.gs k hg; omega, by omega, by omega⟩
  · obtain ⟨k1, k2, k3, k4, k5⟩ := h.kept x hx
    exact ⟨k1, k2, fun hk => hk.elim k3 (fun h => by omega), k4, k5⟩
/-- A block that is new behind w is kept. -/
theorem Two.adopt (h : Two w0 p mB b m ls ps ks w) (hb : Below w.heap.size w w') {d : Nat} {o : Obj} (hd : w'.heap[d]? = some o) (hw : w.heap.size ≤ d) : Two w0 p mB b m ls ps ((d, o) :: ks) w' := by
  have hsz := h.size
  obtain ⟨G, R, h⟩ := h
  have h' := h.keep hb
  have hs := h.below.size
  refine ⟨G, R, { h' with kept := fun x hx => ?_ }⟩
  rcases List.mem_cons.1 hx with rfl | hx
  · refine ⟨hd, fun hg => ?_, fun hg => ?_, by omega, by omega⟩
    · have := h.gs d hg; omega
    · have := h.rs d hg; omega
  · exact h'.kept x hx
end

/-! ### A row that is written over -/
theorem own_set {w : World} {base : Nat} {e : TypeId} {size n : Nat} {v : Value} {xs : List Value} (h : w.ownsRow base e size v n xs) (g i : Nat) (u : Value) : (w.setCell ⟨g, i, none⟩ u).ownsRow base e size v n (if v.ownBlock = some g then xs.set i u else xs) := by
  obtain ⟨h1, ⟨rfl, rfl⟩ | ⟨d, cap, cur, rfl, hb, hh, hnc, hcm, hcs, ht⟩⟩ := h
  · exact ⟨by simpa [Value.ownBlock] using h1, .inl ⟨rfl, rfl⟩⟩
  · by_cases e1 : d = g
    · subst e1
      have e2 : (Value.slice (some ⟨d, 0, none⟩) n cap).ownBlock = some d := rfl
      rw [if_pos e2]
      refine ⟨by simpa using h1, .inr ⟨d, cap, cur.setIfInBounds i u, rfl, hb, blk_set hh i u, hnc, hcm, by simpa using hcs, ?_⟩⟩
      rw [Array.toList_setIfInBounds, List.take_set, ht]
    · have e2 : (Value.slice (some ⟨d, 0, none⟩) n cap).ownBlock ≠ some g := by simpa [Value.ownBlock] using e1
      rw [if_neg e2]
      exact ⟨h1, .inr ⟨d, cap, cur, rfl, hb, blk_far hh e1 u, hnc, hcm, hcs, ht⟩⟩
theorem own_cell {w : World} {base : Nat} {e : TypeId} {size n : Nat} {v : Value} {xs : List Value} (h : w.ownsRow base e size v n xs) {i : Nat} {u : Value} (hi : xs[i]? = some u) :
    ∃ g c cs, v = .slice (some ⟨g, 0, none⟩) n c ∧ g < w.heap.size ∧ n ≤ c ∧ c ≤ maxLen ∧ w.cell? ⟨g, i, none⟩ = some u ∧ w.frozen? ⟨g, i, none⟩ = false ∧ w.heap[g]? = some (.cells cs e (0, 0)) := by
  have hl := (List.getElem?_eq_some_iff.1 hi).1
  obtain ⟨h1, ⟨rfl, rfl⟩ | ⟨d, cap, cur, rfl, hb, hh, hnc, hcm, hcs, ht⟩⟩ := h
  · omega
  · refine ⟨d, cap, cur, rfl, lt_of_heap hh, hnc, hcm, ?_, blk_free hh i, hh⟩
    rw [blk_cell hh, ← Array.getElem?_toList, ← List.getElem?_take_of_lt (l := cur.toList) (show i < n * size by omega), ht, hi]

/-- n bytes in a block of J. -/
def JB (J : Nat → Prop) (w : World) (v : Value) (n : Nat) : Prop := ∃ xs, w.ownsRow 0 5 1 v n xs ∧ ∀ g, v.ownBlock = some g → J g
section
variable {J J' : Nat → Prop} {w w' : World} {v v' dv one all : Value} {n k i g B B' : Nat} {cs : List Value}
theorem JB.nil : JB J w (.slice none 0 0) 0 := ⟨[], World.ownsRow_nil _ _ _ _, fun g h => (by cases h)⟩
theorem JB.of_data {w0 : World} {l : List UInt8} (h : DataX w0 w v l) (hl : l.length ≤ maxLen) (hJ : ∀ k, w0.heap.size ≤ k → k < w.heap.size → J k) : JB J w v l.length := by
  obtain ⟨d, rfl, hd, hw⟩ := h
  refine ⟨l.map B8, ⟨by simp, .inr ⟨d, _, _, rfl, Nat.zero_le _, hd, Nat.le_refl _, hl, by simp, by rw [Nat.mul_one]; exact List.take_of_length_le (by simp)⟩⟩, fun g hg => ?_⟩
  obtain rfl : d = g := by simpa [Value.ownBlock] using hg
  exact hJ d hw (lt_of_heap hd)
theorem JB.mono (h : JB J w v n) (hJ : ∀ k, k < w.heap.size → J k → J' k) : JB J' w v n := by
  obtain ⟨xs, h1, h2⟩ := h
  exact ⟨xs, h1, fun g hg => hJ g (h1.lt g hg).2 (h2 g hg)⟩
theorem JB.keep (h : JB J w v n) (hk : ∀ g cs, J g → w.heap[g]? = some (.cells cs 5 (0, 0)) → w'.heap[g]? = w.heap[g]?) : JB J w' v n := by
  obtain ⟨xs, h1, h2⟩ := h
  refine ⟨xs, ⟨h1.1, ?_⟩, h2⟩
  rcases h1.2 with h | ⟨d, cap, cur, hv, hb, hh, r⟩
  · exact .inl h
  · exact .inr ⟨d, cap, cur, hv, hb, (hk d cur (h2 d (by rw [hv]; rfl)) hh).trans hh, r⟩
theorem JB.below (h : JB J w v n) (hb : Below w.heap.size w w') : JB J w' v n := h.keep (fun g cs _ hg => hb.block g (lt_of_heap hg))
theorem JB.set (h : JB J w v n) (g i : Nat) (u : Value) : JB J (w.setCell ⟨g, i, none⟩ u) v n := by
  obtain ⟨xs, h1, h2⟩ := h
  exact ⟨_, own_set h1 g i u, h2⟩
theorem JB.form (h : JB J w v n) : ∃ a c, v = .slice a n c := by
  obtain ⟨xs, h1, _⟩ := h
  rcases h1.2 with ⟨h, h'⟩ | ⟨g, cap, cur, hv, _⟩
  · exact ⟨none, 0, by rw [h, h']⟩
  · exact ⟨_, _, hv⟩
theorem JB.at_ (h : JB J w v n) (hi : i < n) : ∃ d c u cs, v = .slice (some ⟨d, 0, none⟩) n c ∧ J d ∧ d < w.heap.size ∧ n ≤ c ∧ c ≤ maxLen ∧ w.cell? ⟨d, i, none⟩ = some u ∧ w.frozen? ⟨d, i, none⟩ = false ∧ w.heap[d]? = some (.cells cs 5 (0, 0)) := by
  obtain ⟨xs, h1, h2⟩ := h
  obtain ⟨u, hu⟩ : ∃ u, xs[i]? = some u := ⟨_, List.getElem?_eq_getElem (by rw [h1.1]; omega)⟩
  obtain ⟨d, c, cs, rfl, a1, a2, a3, a4, a5, a6⟩ := own_cell h1 hu
  exact ⟨d, c, u, cs, rfl, h2 d rfl, a1, a2, a3, a4, a5, a6⟩

/-- A row of packets that is written over. -/
structure JR (J : Nat → Prop) (w : World) (v : Value) (n : Nat) (cs : List Value) (B : Nat) : Prop where
  own : w.ownsRow 0 30 3 v n cs
  j : ∀ g, v.ownBlock = some g → J g
  el : ∀ k, k < n → ∃ a b dv m, cs[k * 3]? = some (.int .i64 a) ∧ cs[k * 3 + 1]? = some (.int .i64 b) ∧ cs[k * 3 + 2]? = some dv ∧ JB J w dv m ∧ m ≤ B
theorem JR.bytes (h : JR J w v n cs B) (hrow : ∀ g, v.ownBlock = some g → w'.heap[g]? = w.heap[g]?) (hb : ∀ v n, JB J w v n → JB J w' v n) : JR J w' v n cs B :=
  ⟨ownsRow_keep h.own hrow, h.j, fun k hk => by obtain ⟨a, b, dv, m, e1, e2, e3, e4, e5⟩ := h.el k hk; exact ⟨a, b, dv, m, e1, e2, e3, hb _ _ e4, e5⟩⟩
theorem JR.below (h : JR J w v n cs B) (hb : Below w.heap.size w w') : JR J w' v n cs B := h.bytes (fun g hg => hb.block g (h.own.lt g hg).2) (fun _ _ h => h.below hb)
theorem JR.mono (h : JR J w v n cs B) (hB : B ≤ B') : JR J w v n cs B' := ⟨h.own, h.j, fun k hk => by obtain ⟨a, b, dv, m, e1, e2, e3, e4, e5⟩ := h.el k hk; exact ⟨a, b, dv, m, e1, e2, e3, e4, by omega⟩⟩
/-- Packet k: where its bytes are. -/
theorem JR.at_ (h : JR J w v n cs B) (hk : k < n) : ∃ g c da m dc ds, v = .slice (some ⟨g, 0, none⟩) n c ∧ J g ∧ g < w.heap.size ∧ n ≤ c ∧ c ≤ maxLen ∧ w.cell? ⟨g, k * 3 + 2, none⟩ = some (.slice da m dc) ∧ w.frozen? ⟨g, k * 3 + 2, none⟩ = false ∧ w.heap[g]? = some (.cells ds 30 (0, 0)) ∧ JB J w (.slice da m dc) m ∧ m ≤ B := by
  obtain ⟨a, b, dv, m, e1, e2, e3, e4, e5⟩ := h.el k hk
  obtain ⟨g, c, ds, rfl, a1, a2, a3, a4, a5, a6⟩ := own_cell h.own e3
  obtain ⟨da, dc, rfl⟩ := e4.form
  exact ⟨g, c, da, m, dc, ds, rfl, h.j g rfl, a1, a2, a3, a4, a5, a6, e4, e5⟩
/-- Packet k, its cells known. -/
theorem JR.here (h : JR J w v n cs B) (hk : k < n) {da : Option Addr} {m dc : Nat} (hc : cs[k * 3 + 2]? = some (.slice da m dc)) : ∃ g c ds, v = .slice (some ⟨g, 0, none⟩) n c ∧ J g ∧ g < w.heap.size ∧ n ≤ c ∧ c ≤ maxLen ∧ w.cell? ⟨g, k * 3 + 2, none⟩ = some (.slice da m dc) ∧ w.frozen? ⟨g, k * 3 + 2, none⟩ = false ∧ w.heap[g]? = some (.cells ds 30 (0, 0)) ∧ JB J w (.slice da m dc) m ∧ m ≤ B := by
  obtain ⟨a, b, dv, m', e1, e2, e3, e4, e5⟩ := h.el k hk
  obtain ⟨g, c, ds, rfl, a1, a2, a3, a4, a5, a6⟩ := own_cell h.own hc
  rw [hc] at e3
  injection e3 with e3
  subst e3
  obtain ⟨da', dc', e⟩ := e4.form
  injection e with _ e _
  subst e
  exact ⟨g, c, ds, rfl, h.j g rfl, a1, a2, a3, a4, a5, a6, e4, e5⟩
theorem JR.has (h : JR J w v n cs B) (hk : k < n) : ∃ da m dc, cs[k * 3 + 2]? = some (.slice da m dc) := by
  obtain ⟨a, b, dv, m', e1, e2, e3, e4, e5⟩ := h.el k hk
  obtain ⟨da', dc', rfl⟩ := e4.form
  exact ⟨_, _, _, e3⟩
theorem own_zero {w : World} {base : Nat} {e : TypeId} {size n : Nat} {v : Value} {xs : List Value} (h : w.ownsRow base e size v n xs) : w.ownsRow 0 e size v n xs := by
  obtain ⟨h1, h2 | ⟨d, cap, cur, rfl, hb, r⟩⟩ := h
  · exact ⟨h1, .inl h2⟩
  · exact ⟨h1, .inr ⟨d, cap, cur, rfl, Nat.zero_le _, r⟩⟩
/-- Packet k's bytes are written anew. -/
theorem JR.set {c m : Nat} (h : JR J w (.slice (some ⟨g, 0, none⟩) n c) n cs B) (hk : k < n) (hd : JB J w dv m) (hm : m ≤ B) : JR J (w.setCell ⟨g, k * 3 + 2, none⟩ dv) (.slice (some ⟨g, 0, none⟩) n c) n (cs.set (k * 3 + 2) dv) B := by
  have h1 := own_set h.own g (k * 3 + 2) dv
  rw [if_pos (show (Value.slice (some ⟨g, 0, none⟩) n c).ownBlock = some g from rfl)] at h1
  refine ⟨h1, h.j, fun j hj => ?_⟩
  obtain ⟨a, b, dv', m', e1, e2, e3, e4, e5⟩ := h.el j hj
  by_cases ej : j = k
  · subst ej
    have hl := (List.getElem?_eq_some_iff.1 e3).1
    refine ⟨a, b, dv, m, ?_, ?_, ?_, hd.set _ _ _, hm⟩
    · rw [List.getElem?_set_ne (by omega)]; exact e1
    · rw [List.getElem?_set_ne (by omega)]; exact e2
    · rw [List.getElem?_set_self hl]
  · refine ⟨a, b, dv', m', ?_, ?_, ?_, e4.set _ _ _, e5⟩
    · rw [List.getElem?_set_ne (by omega)]; exact e1
    · rw [List.getElem?_set_ne (by omega)]; exact e2
    · rw [List.getElem?_set_ne (by omega)]; exact e3
end

/-! ### append: in place, or onto a new block -/
section
variable {P : Program} (w : World)
theorem run_append_aside (t ty e : TypeId) (i : TypeInfo) (z : Value) (bytes : Nat) (ht : P.underlying t = some (.slice e)) (hi : P.info? e = some i) (hz : i.zero = some z)
    (hsize : i.size = 1) (hby : i.bytes = bytes) (hzs : z.cells.size = 1)
    (v : Value) (n : Nat) (xs : List Value) (hown : w.ownsRow 0 e 1 v n xs)
    (ad : Addr) (c : Nat) (x : Value) (hx : w.cell? ad = some x) (h1 : x.oneCell' = true)
    (h63 : n + 1 ≤ maxLen) (hbytes : (n + 1) * bytes ≤ 140737488355328) :
    ∃ v' w', (Builtin.append_ #[t, t] ty #[v, .slice (some ad) 1 c]).run P w = .ok v' w' ∧ w'.ownsRow 0 e 1 v' (n + 1) (xs ++ [x]) ∧ w.grownBy w' v.ownBlock ∧
      ((Below w.heap.size w w' ∧ v'.ownBlock = some w.heap.size) ∨ ∃ g cap, v = .slice (some ⟨g, 0, none⟩) n cap ∧ v' = .slice (some ⟨g, 0, none⟩) (n + 1) cap) := by
  have hnews : ∀ j u, ([x] : List Value)[j]? = some u → w.cell? (ad.add j) = some u := fun j u hj => by
    match j, hj with
    | 0, hj =>
      simp at hj
      subst hj
      simpa [Addr.add] using hx
  have h1' : ∀ u ∈ [x], u.oneCell' = true := fun u hu => by simp at hu; subst hu; exact h1
  obtain ⟨v', w', hr, h2, h3, _, h5⟩ := run_append_own_at (P := P) w 0 t ty e i z 1 bytes ht hi hz hsize hby hzs (by omega) v n xs hown ad 1 c [x] rfl hnews h1' h63 hbytes (Nat.zero_le _)
  refine ⟨v', w', hr, h2, h3, ?_⟩
  rcases hown.2 with ⟨rfl, rfl⟩ | ⟨g, cap, cur, rfl, hbg, hg, hnc, hcm, hcs, htake⟩
  · have hb : Below w.heap.size w w' := ⟨h3.os, h3.tape, h3.output, h3.size, fun k hk => h3.block k hk (fun e => by cases e)⟩
    rcases h5 with h5 | h5
    · obtain ⟨g, cap, rfl, _⟩ := h2.form (by omega)
      cases h5
    · exact .inl ⟨hb, h5⟩
  · by_cases hroom : n + 1 ≤ cap
    · have hfit : n * i.size + ([x] : List Value).length ≤ cur.size := by rw [hsize, hcs]; simpa using hroom
      have hr2 := run_append_room (P := P) w t ty e i ht hi g n cap cur hg ad 1 c [x] (by simp [hsize]) hnews h1' hroom hfit
      rw [hr] at hr2
      injection hr2 with e1 e2
      exact .inr ⟨g, cap, rfl, e1⟩
    · have holds : ∀ j u, xs[j]? = some u → w.cell? ((⟨g, 0, none⟩ : Addr).add j) = some u := hown.cells (g := g) rfl
      have hr2 := run_append_grow (P := P) w t ty e i z ht hi hz ⟨g, 0, none⟩ n cap xs (by rw [hsize]; exact hown.1) holds ad 1 c [x] (by simp [hsize]) hnews (by omega) (by unfold maxLen at h63; omega) (growslice_fits (by omega) (by rw [hby]; exact hbytes))
      rw [hr] at hr2
      injection hr2 with e1 e2
      left
      constructor
      · rw [e2]
        exact ⟨rfl, rfl, rfl, by simp, fun k hk => heap_past w.drew _ k hk⟩
      · rw [e1]; rfl
theorem wpList_append_aside {ops : Array Oper} {rest : List Oper} {o : Oper} {a : Act} {Q : Exit → Act → World → Prop} (hgd : o.guard = none) (s x : Operand) (t : TypeId)
    (ho : o.op = .call { callee := .builtin .append, args := #[s, x], argTypes := #[t, t] })
    (e : TypeId) (i : TypeInfo) (z : Value) (bytes : Nat) (ht : P.underlying t = some (.slice e)) (hi : P.info? e = some i) (hz : i.zero = some z)
    (hsize : i.size = 1) (hby : i.bytes = bytes) (hzs : z.cells.size = 1)
    (v : Value) (n : Nat) (xs : List Value) (hs : a.eval s = v) (hown : w.ownsRow 0 e 1 v n xs)
    (ad : Addr) (c : Nat) (u : Value) (hx : a.eval x = .slice (some ad) 1 c) (hu : w.cell? ad = some u) (h1 : u.oneCell' = true)
    (h63 : n + 1 ≤ maxLen) (hbytes : (n + 1) * bytes ≤ 140737488355328)
    (h : ∀ v' w', w'.ownsRow 0 e 1 v' (n + 1) (xs ++ [u]) → w.grownBy w' v.ownBlock → ((Below w.heap.size w w' ∧ v'.ownBlock = some w.heap.size) ∨ ∃ g cap, v = .slice (some ⟨g, 0, none⟩) n cap ∧ v' = .slice (some ⟨g, 0, none⟩) (n + 1) cap) → wpList P ops Q rest (a.put o.dst v') w') : wpList P ops Q (o :: rest) a w := by
  refine wpList_plain hgd fun K hK => ?_
  obtain ⟨v', w', hr, h2, h3, h4⟩ := run_append_aside (P := P) w t o.type e i z bytes ht hi hz hsize hby hzs v n xs hown ad c u hu h1 h63 hbytes
  unfold Oper.wp execOp
  simp only [ho, resolve, invoke, builtin, Sem.run_bind, Sem.run_pure, Result.andThen_ok, List.map_toArray, List.map_cons, List.map_nil, hs, hx, hr]
  exact hK _ _ (h v' w' h2 h3 h4)
end
/-- Bytes beside those that were appended to. -/
theorem JB.app {J : Nat → Prop} {w w' : World} {v v' v2 : Value} {n n' n2 : Nat} {xs ys : List Value} (h : JB J w v2 n2) (hown : w.ownsRow 0 5 1 v n xs) (hown' : w'.ownsRow 0 5 1 v' n' ys) (hgrow : w.grownBy w' v.ownBlock)
    (ha : (Below w.heap.size w w' ∧ v'.ownBlock = some w.heap.size) ∨ ∃ g cap, v = .slice (some ⟨g, 0, none⟩) n cap ∧ v' = .slice (some ⟨g, 0, none⟩) n' cap) : JB J w' v2 n2 := by
  rcases ha with ⟨ha, _⟩ | ⟨g, cap, rfl, rfl⟩
  · exact h.below ha
  · obtain ⟨zs, h1, h2⟩ := h
    rcases h1 with ⟨hl, ⟨rfl, rfl⟩ | ⟨d, cap2, cur2, rfl, _, hh2, hn2, hc2, hs2, ht2⟩⟩
    · exact JB.nil
    · by_cases hd : d = g
      · subst hd
        obtain ⟨_, h0 | ⟨d1, c1, cur1, e1, _, hh1, hn1, hc1, hs1, ht1⟩⟩ := hown
        · cases h0.1
        obtain ⟨_, h0 | ⟨d3, c3, cur3, e3, _, hh3, hn3, hc3, hs3, ht3⟩⟩ := hown'
        · cases h0.1
        obtain ⟨rfl, rfl⟩ : d = d1 ∧ cap = c1 := by simpa using e1
        obtain ⟨rfl, rfl⟩ : d = d3 ∧ cap = c3 := by simpa using e3
        rw [hh2] at hh1
        injection hh1 with hh1
        injection hh1 with hh1
        subst hh1
        refine ⟨cur3.toList.take n2, ⟨?_, .inr ⟨d, cap2, cur3, rfl, Nat.zero_le _, hh3, hn2, hc2, by omega, by simp⟩⟩, h2⟩
        rw [List.length_take, Array.length_toList]
        omega
      · refine ⟨zs, ⟨hl, .inr ⟨d, cap2, cur2, rfl, Nat.zero_le _, ?_, hn2, hc2, hs2, ht2⟩⟩, h2⟩
        exact (hgrow.block d (lt_of_heap hh2) (by simpa [Value.ownBlock] using hd)).trans hh2

/-! ### The two bags, the answered packets 'all', the list 'one' -/
structure JS (w0 : World) (G R : Nat → Prop) (p mB : Nat) (b m : Bg) (ls : List (Value × List Pkt)) (all : Value) (n : Nat) (cs : List Value) (B : Nat) (one : Value) (n1 : Nat) (w : World) : Prop where
  two : TwoG G R w0 p mB b m ls [] [] w
  rows : JR (Jk G R w0 mB) w all n cs B
  row1 : ∃ xs, w.ownsRow 0 30 3 one n1 xs
  onej : ∀ g, one.ownBlock = some g → Jk G R w0 mB g ∧ all.ownBlock ≠ some g
section
variable {w0 w w' : World} {p mB n B B' n1 : Nat} {b m : Bg} {ls : List (Value × List Pkt)} {G R : Nat → Prop} {all one : Value} {cs : List Value}
theorem JS.keep (h : JS w0 G R p mB b m ls all n cs B one n1 w) (hb : Below w.heap.size w w') : JS w0 G R p mB b m ls all n cs B one n1 w' := by
  have hcs := h.rows
  obtain ⟨xs, hxs⟩ := h.row1
  exact ⟨h.two.keep hb, hcs.below hb, ⟨xs, ownsRow_keep hxs (fun g hg => hb.block g (hxs.lt g hg).2)⟩, h.onej⟩
theorem JS.mono (h : JS w0 G R p mB b m ls all n cs B one n1 w) (hB : B ≤ B') : JS w0 G R p mB b m ls all n cs B' one n1 w := by
  have hcs := h.rows
  exact ⟨h.two, hcs.mono hB, h.row1, h.onej⟩
/-- A byte of a packet of 'all' is written. -/
theorem JS.byte (h : JS w0 G R p mB b m ls all n cs B one n1 w) {d i : Nat} {u : Value} {ds : Array Value} (hd : w.heap[d]? = some (.cells ds 5 (0, 0))) (hJ : Jk G R w0 mB d) : JS w0 G R p mB b m ls all n cs B one n1 (w.setCell ⟨d, i, none⟩ u) := by
  have hcs := h.rows
  obtain ⟨xs, hxs⟩ := h.row1
  have hm : Mod (Jk G R w0 mB) w (w.setCell ⟨d, i, none⟩ u) := (Mod.refl _ _).setCell (fun _ => hJ) u
  exact ⟨h.two.junk hm, hcs.bytes (fun g hg => Below.heap_setCell _ _ _ g (fun e => own_ne hcs.own hd (by decide) (by subst e; exact hg))) (fun _ _ h => h.set _ _ _),
    ⟨xs, ownsRow_keep hxs (fun g hg => Below.heap_setCell _ _ _ g (fun e => own_ne hxs hd (by decide) (by subst e; exact hg)))⟩, h.onej⟩
/-- append to a packet of 'all'. -/
theorem JS.app {k g c : Nat} {v v' : Value} {nd : Nat} {xs ys : List Value} (h : JS w0 G R p mB b m ls (.slice (some ⟨g, 0, none⟩) n c) n cs B one n1 w) (hk : k < n) (hown : w.ownsRow 0 5 1 v nd xs) (hJ : ∀ d, v.ownBlock = some d → Jk G R w0 mB d) (hown' : w'.ownsRow 0 5 1 v' (nd + 1) ys) (hgrow : w.grownBy w' v.ownBlock)
    (ha : (Below w.heap.size w w' ∧ v'.ownBlock = some w.heap.size) ∨ ∃ g cap, v = .slice (some ⟨g, 0, none⟩) nd cap ∧ v' = .slice (some ⟨g, 0, none⟩) (nd + 1) cap) (hB : B ≤ B') (hn : nd + 1 ≤ B') :
    JS w0 G R p mB b m ls (.slice (some ⟨g, 0, none⟩) n c) n (cs.set (k * 3 + 2) v') B' one n1 (w'.setCell ⟨g, k * 3 + 2, none⟩ v') := by
  have hcs := h.rows
  obtain ⟨zs, hzs⟩ := h.row1
  have hne : ∀ q (cs : Array Value), w.heap[q]? = some (.cells cs 30 (0, 0)) → v.ownBlock ≠ some q := fun q cs hq => own_ne hown hq (by decide)
  have hrow : ∀ {u : Value} {nn : Nat} {us : List Value}, w.ownsRow 0 30 3 u nn us → ∀ q, u.ownBlock = some q → w'.heap[q]? = w.heap[q]? := fun hu q hq => by
    rcases hu.2 with ⟨rfl, _⟩ | ⟨d, cap, cur, rfl, _, hh, _⟩
    · cases hq
    · obtain rfl : d = q := by simpa [Value.ownBlock] using hq
      exact hgrow.block d (lt_of_heap hh) (fun e => hne d _ hh e.symm)
  have hgs := (hcs.own.lt g rfl).2
  have hm1 : Mod (Jk G R w0 mB) w w' := ⟨hgrow.os, hgrow.tape, hgrow.output, hgrow.size, fun k hk hF => hgrow.block k hk (fun e => hF (hJ k e.symm))⟩
  have hm : Mod (Jk G R w0 mB) w (w'.setCell ⟨g, k * 3 + 2, none⟩ v') := hm1.setCell (fun _ => hcs.j g rfl) v'
  have h1 := h.two.below.size
  have hJ' : ∀ d, v'.ownBlock = some d → Jk G R w0 mB d := fun d hd => by
    rcases ha with ⟨_, e⟩ | ⟨g', cap, rfl, rfl⟩
    · obtain rfl : w.heap.size = d := by rw [e] at hd; injection hd
      refine ⟨h1, fun hg => ?_, fun hr => ?_, ?_⟩
      · have := h.two.gs _ hg; omega
      · have := h.two.rs _ hr; omega
      · obtain ⟨lv, r1, _⟩ := h.two.ref
        have := lt_of_heap r1
        omega
    · exact hJ d hd
  have hJR : JR (Jk G R w0 mB) w' (.slice (some ⟨g, 0, none⟩) n c) n cs B := hcs.bytes (hrow hcs.own) (fun _ _ h => h.app hown hown' hgrow ha)
  refine ⟨h.two.junk hm, (hJR.mono hB).set hk ⟨ys, hown', hJ'⟩ hn, ?_, h.onej⟩
  exact ⟨_, own_set (ownsRow_keep hzs (hrow hzs)) g (k * 3 + 2) v'⟩
/-- A cell of 'one' is written. -/
theorem JS.put (h : JS w0 G R p mB b m ls all n cs B one n1 w) {g i : Nat} {u : Value} (hg : one.ownBlock = some g) : JS w0 G R p mB b m ls all n cs B one n1 (w.setCell ⟨g, i, none⟩ u) := by
  have hcs := h.rows
  obtain ⟨xs, hxs⟩ := h.row1
  have hj := h.onej g hg
  have hm : Mod (Jk G R w0 mB) w (w.setCell ⟨g, i, none⟩ u) := (Mod.refl _ _).setCell (fun _ => hj.1) u
  exact ⟨h.two.junk hm, hcs.bytes (fun q hq => Below.heap_setCell _ _ _ q (fun e => hj.2 (by subst e; exact hq))) (fun _ _ h => h.set _ _ _), ⟨_, own_set hxs g i u⟩, h.onej⟩
end
end Go.Proofs.Ytdjgmgppghipkaa
