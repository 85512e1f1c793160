/- How a []byte that came in is opened. No law of the program in sight.  Acts (slices of Act) as an argument.  TopOnce: its calls, over the invariant. -/
import Derived.Test.YtaelbgjcoakdlaaGreatAppendBytesM
import Derived.Deep.Slices
import Derived.SizedLaws
import Derived.OpenShut
import Derived.ProofKit
import Derived.Test.YtaelbgjcoakdlaaGreatCalm
namespace Go.Proofs.YtaelbgjcoakdlaaGreat
open Go.RowKit Go.ChangeShapes Go.WideShapes

theorem spot_none {w : World} {a : Addr} {v : Value} (h : w.cell? a = some v) : a.spot = none := by
  unfold World.cell? at h
  split at h
  · split at h
    · cases h
    · cases hs : a.spot with
      | none => rfl
      | some _ => simp_all
  · cases h

theorem b8_of {c : UInt8} {a : Int} (h0 : 0 ≤ a) (h1 : a < 256) (hc : c = UInt8.ofNat a.toNat) : Value.int .u8 a = B8 c := by
  subst hc
  unfold B8
  have : (UInt8.ofNat a.toNat).toNat = a.toNat := by simp [UInt8.toNat_ofNat']; omega
  rw [this, Int.toNat_of_nonneg h0]

section
variable {H : Type} {enc : TypeId × Value → H} {P : Program} {w : World} {base : Nat} {spare : Nat → Bool} {held : Bool}
/-- The reach, for one argument. -/
theorem weights_of {ts : List TypeId} {ds : List (DataW H)} (h : (DataW.weightsEach P ts ds).all (· ≤ reachBytes) = true) {j : Nat} {t : TypeId} {d : DataW H} (ht : ts[j]? = some t) (hd : ds[j]? = some d) : (d.weights P t).all (· ≤ reachBytes) = true :=
  List.all_eq_true.2 fun n hn => List.all_eq_true.1 h n (DataW.weights_mem_each ht hd n hn)
theorem reach_le : reachBytes ≤ 140737488355328 := by decide

theorem open_bytes {t e : TypeId} {n : Nat} {v : Value} {x : DataW H × List MemPlace} (ht : P.underlying t = some (.slice e)) (he : P.underlying e = some (.int .u8)) (hc : P.cellsOf e = 1) (hby : P.bytesOf e = 1)
    (h : DataW.trod enc P w base spare held n t [v] = some x) : ∃ l : List UInt8, BytesV (fun _ => True) w v l ∧ ((x.1.weights P t).all (· ≤ reachBytes) = true → l.length ≤ reachBytes) := by
  rcases Deep.open_slice1 ht hc h with ⟨e0, rfl⟩ | ⟨a, len, cap, m, k, V, D, Pl, e0, hb, hl, hm, hmm, rfl, hx⟩
  · obtain rfl : v = .slice none 0 0 := by simpa using e0
    exact ⟨[], BytesV.nil _ _, fun _ => by simp⟩
  · obtain rfl : v = .slice (some a) len cap := by simpa using e0
    have hlm : len ≤ m := by rw [hmm]; split <;> omega
    have hV : ∀ i, i < len → ∃ c : UInt8, V i = B8 c := by
      intro i hi
      obtain ⟨z, e1, _, wf⟩ := DataW.trod_int he (hx i (by omega)).2
      simp at e1
      have hz : 0 ≤ z ∧ z < 256 := by
        simp [Lit.wf, IntKind.min, IntKind.max, IntKind.signed, IntKind.bits] at wf
        omega
      exact ⟨_, e1.trans (b8_of hz.1 hz.2 rfl)⟩
    obtain ⟨C, hC⟩ := Deep.choose_lt hV
    refine ⟨(List.range len).map C, ⟨some a, cap, by simp, by simpa using hl, hm, fun h => (by cases h), fun hp => ?_⟩, fun hw => ?_⟩
    · have hlen0 : 0 < len := by simpa using hp
      have h0 := (hx 0 (by omega)).1
      have hs := spot_none h0
      obtain ⟨b, o, s⟩ := a
      obtain rfl : s = none := by simpa [Addr.add] using hs
      refine ⟨b, o, rfl, ?_, trivial, fun j y hy => ?_⟩
      · exact World.block_lt_of_cell? w _ h0
      · have hj := (List.getElem?_eq_some_iff.1 hy).1
        simp at hj
        have := (hx j (by omega)).1
        rw [Addr.add_mid] at this
        rw [this, hC j hj]
        simp [hj] at hy
        rw [hy]
    · simp [DataW.weights, ht, hby] at hw ⊢
      have := hw.1
      omega
end
end Go.Proofs.YtaelbgjcoakdlaaGreat

namespace Go.Proofs.YtaelbgjcoakdlaaGreat
open Go.RowKit Go.ChangeShapes Go.WideShapes

theorem Tryz.cellsAct : Tryz.prog.cellsOf 38 = 2 := by kernel_rfl
/-- Acts that came in. -/
def ActsIn (w : World) (v : Value) (l : List (Int × Int)) : Prop :=
  ∃ (a : Option Addr) (c : Nat), v = .slice a l.length c ∧ l.length ≤ c ∧ c ≤ maxLen ∧ (a = none → c = 0) ∧
    (0 < l.length → ∃ b o, a = some ⟨b, o, none⟩ ∧ b < w.heap.size ∧ ∀ (j : Nat) (q : Int × Int), l[j]? = some q →
      w.cell? ⟨b, o + j * 2, none⟩ = some (.int .i64 q.1) ∧ w.cell? ⟨b, o + j * 2 + 1, none⟩ = some (.int .i64 q.2) ∧ (-9223372036854775808 ≤ q.2 ∧ q.2 ≤ 9223372036854775807))
section
variable {H : Type} {enc : TypeId × Value → H} {w : World} {base : Nat} {spare : Nat → Bool} {held : Bool}
theorem open_act {n : Nat} {c0 c1 : Value} {x : DataW H × List MemPlace} (h : DataW.trod enc Tryz.prog w base spare held n 38 [c0, c1] = some x) :
    ∃ q : Int × Int, c0 = .int .i64 q.1 ∧ c1 = .int .i64 q.2 ∧ (-9223372036854775808 ≤ q.2 ∧ q.2 ≤ 9223372036854775807) := by
  obtain ⟨xs, m, _, rfl, _, hlen, hf⟩ := DataW.trod_struct Tryz.underlying38 h
  have h0 := hf 0 _ rfl
  have h1 := hf 1 _ rfl
  have hlen' : xs.length = 2 := hlen
  match xs, hlen' with
  | [y0, y1], _ =>
    have hci : Tryz.prog.cellsOf 3 = 1 := by kernel_rfl
    simp [hci] at h0 h1
    obtain ⟨a, e0, _, wa⟩ := DataW.trod_int Tryz.underlying3 h0
    obtain ⟨b, e1, _, wb⟩ := DataW.trod_int Tryz.underlying3 h1
    simp at e0 e1
    refine ⟨(a, b), e0, e1, ?_⟩
    simp [Lit.wf, IntKind.min, IntKind.max, IntKind.signed, IntKind.bits] at wb
    exact ⟨by omega, by omega⟩
theorem open_acts {t : TypeId} {n : Nat} {v : Value} {x : DataW H × List MemPlace} (ht : Tryz.prog.underlying t = some (.slice 38)) (h : DataW.trod enc Tryz.prog w base spare held n t [v] = some x) :
    ∃ l : List (Int × Int), ActsIn w v l := by
  rcases Deep.open_slice ht h with ⟨e0, rfl⟩ | ⟨a, len, cap, m, k, D, Pl, e0, hb, hl, hm, hmm, rfl, hx⟩
  · obtain rfl : v = .slice none 0 0 := by simpa using e0
    exact ⟨[], none, 0, rfl, by simp, by simp, fun _ => rfl, fun h => by simp at h⟩
  · obtain rfl : v = .slice (some a) len cap := by simpa using e0
    have hlm : len ≤ m := by rw [hmm]; split <;> omega
    have hQ : ∀ i, i < len → ∃ z : Int × Int, (-9223372036854775808 ≤ z.2 ∧ z.2 ≤ 9223372036854775807) ∧ w.cells? base (a.add (i * 2)) 2 = some [.int .i64 z.1, .int .i64 z.2] := by
      intro i hi
      obtain ⟨cs, h1, h2⟩ := hx i (by omega)
      rw [Tryz.cellsAct] at h1
      obtain ⟨_, hlen, _⟩ := World.cells?_some h1
      match cs, hlen with
      | [c0, c1], _ =>
        obtain ⟨q, rfl, rfl, hq⟩ := open_act h2
        exact ⟨q, hq, h1⟩
    obtain ⟨Z, hZ⟩ := Deep.choose_lt (α := Int × Int) hQ
    refine ⟨(List.range len).map Z, some a, cap, by simp, by simpa using hl, hm, fun h => (by cases h), fun hp => ?_⟩
    have hlen0 : 0 < len := by simpa using hp
    obtain ⟨_, h1⟩ := hZ 0 hlen0
    have h0 := (World.cells?_some h1).2.2 0 (by omega)
    simp [Addr.add] at h0
    have hs := spot_none h0
    obtain ⟨b, o, s⟩ := a
    obtain rfl : s = none := hs
    refine ⟨b, o, rfl, World.block_lt_of_cell? w _ h0, fun j q hq => ?_⟩
    have hj := (List.getElem?_eq_some_iff.1 hq).1
    simp at hj
    simp [hj] at hq
    subst hq
    obtain ⟨g1, g2⟩ := hZ j hj
    have hc := (World.cells?_some g2).2.2
    have c0 := hc 0 (by omega)
    have c1 := hc 1 (by omega)
    rw [Deep.add_add, Addr.add_mid] at c0 c1
    exact ⟨c0, c1, g1⟩
set_option maxRecDepth 100000 in
theorem open_script {r : Reach} {b0 : Nat} {t : TypeId} {v : Value} {d : DataW H} {p : List MemPlace} (ht : Tryz.prog.underlying t = some (.slice 38)) (hv : Value.okWide Tryz.prog w r b0 t v) (h : DataW.Trod enc Tryz.prog w base spare held t v d p) :
    ∃ l : List (Int × Int), ActsIn w v l := by
  obtain ⟨fuel, hf⟩ := h
  have hc : v.cells.toList = [v] := by
    simp only [Value.okWide, ht] at hv
    cases v <;> first | rfl | (simp only [Cell.okWide, Cell.ok, ht] at hv)
  rw [hc] at hf
  exact open_acts ht hf
/-- An act that came in. -/
theorem ActsIn.at_ {v : Value} {l : List (Int × Int)} (h : ActsIn w v l) {j : Nat} {q : Int × Int} (hq : l[j]? = some q) : ∃ b o c, v = .slice (some ⟨b, o, none⟩) l.length c ∧ l.length ≤ c ∧ c ≤ maxLen ∧ b < w.heap.size ∧
    w.cell? ⟨b, o + j * 2, none⟩ = some (.int .i64 q.1) ∧ w.cell? ⟨b, o + j * 2 + 1, none⟩ = some (.int .i64 q.2) ∧ (-9223372036854775808 ≤ q.2 ∧ q.2 ≤ 9223372036854775807) := by
  obtain ⟨a, c, rfl, h2, h3, h4, h5⟩ := h
  obtain ⟨b, o, rfl, hb, hc⟩ := h5 (by have := (List.getElem?_eq_some_iff.1 hq).1; omega)
  obtain ⟨c0, c1, c2⟩ := hc j q hq
  exact ⟨b, o, c, rfl, h2, h3, hb, c0, c1, c2⟩
end
end Go.Proofs.YtaelbgjcoakdlaaGreat
namespace Go.Proofs.YtaelbgjcoakdlaaGreat
open Go.RowKit Go.Maps

/-- What the acts read. -/
structure TS (boot k base q pc pr pb : Nat) (w : World) (own : Nat → Nat) (h : Hd) (a : Ak) (ms : List Mg) (u : World) : Prop where
  st : AS own base q h a w u
  inv : Inv boot k a ms
  x : a.x = fun _ => none
  hd : h.pc = pc ∧ h.pr = pr ∧ h.pb = pb
def TSx (boot k base q pc pr pb : Nat) (w : World) (u : World) : Prop := ∃ own h a ms, TS boot k base q pc pr pb w own h a ms u
theorem TS.below {boot k base q pc pr pb : Nat} {w u u' : World} {own : Nat → Nat} {h : Hd} {a : Ak} {ms : List Mg} (H : TS boot k base q pc pr pb w own h a ms u) (hB : base ≤ w.heap.size) (hb : Below u.heap.size u u') : TS boot k base q pc pr pb w own h a ms u' := ⟨H.st.below hB hb, H.inv, H.x, H.hd⟩
def OpensPost (boot k base q pc pr pb : Nat) (w : World) (a : Ak) (ms : List Mg) (u : World) (e : Ending) (u' : World) : Prop := e = .returned (.bool true) ∧ ∃ own' h' a' ms', TS boot (k + 2) base q pc pr pb w own' h' a' ms' u' ∧ (ms = [] → ¬ a.c.busy → ms'.length = 1)
theorem opens_inv {boot k base q pc pr pb : Nat} {w u : World} {own : Nat → Nat} {h : Hd} {a : Ak} {ms : List Mg} (H : TS boot k base q pc pr pb w own h a ms u) (hB : base ≤ w.heap.size) (hk : k ≤ 800) :
    Calls Tryz.prog 7 #[.pointer (some ⟨q, 0, none⟩)] u (OpensPost boot k base q pc pr pb w a ms u) := by
  obtain ⟨rfl, rfl, rfl⟩ := H.hd
  have hfew := H.inv.few
  have hnx := H.inv.next
  by_cases hb : a.c.busy
  · refine (opens_busy u H.st.ak (Nat.le_trans hB H.st.low.size) H.inv.cok (by omega) hb).mono ?_
    rintro e u' ⟨rfl, own', h', e1, e2, e3, hk', hb'⟩
    exact ⟨rfl, own', h', a, ms, ⟨⟨hk', H.st.low.trans hb'⟩, H.inv.more (by omega), H.x, e1, e2, e3⟩, fun _ h2 => absurd hb h2⟩
  · have hlow := Cl.low_open H.inv.cok
    have ho := H.inv.open_ hb
    have hb1 := H.inv.b1
    have hok : (Mg.ask a.c.next a.c.open_.low).ok { a with c := a.c.open_, done := a.done ++ [0], told := a.told ++ [0], seen := a.seen ++ [0] } := ho.ask_ok (s := a.c.next) (List.mem_append_right _ (List.mem_singleton.2 rfl))
    obtain ⟨ms', hi', hms⟩ := ho.send (by omega) hok
    have hbt := H.inv.cboot
    refine (opens_ok u H.st.ak (Nat.le_trans hB H.st.low.size) H.inv.cok (by omega) hb hnx (by omega) (fun k => ?_) (by omega) (by omega) (by rw [hlow]; exact H.inv.low1)).mono ?_
    · have h1 := H.inv.lent
      have h2 := H.inv.lens
      unfold Ak.row
      split <;> omega
    rintro e u' ⟨rfl, own', h', e1, e2, e3, hk', hb'⟩
    rw [hbt] at hk'
    exact ⟨rfl, own', h', _, ms', ⟨⟨hk', H.st.low.trans hb'⟩, hi', H.x, e1, e2, e3⟩, fun h1 _ => by rw [hms h1]; rfl⟩
theorem BytesV.setRow {D : Nat → Prop} {u : World} {v : Value} {l : List UInt8} (h : BytesV D u v l) {r : Nat} (hr : ∀ k, k < u.heap.size → D k → k ≠ r) (xs : Array Value) : BytesV D (u.setRow r xs) v l :=
  h.keep (fun k hk hD => setRow_other _ _ _ _ (hr k hk hD)) (by rw [setRow_size]; exact Nat.le_refl _)
theorem drop_ab {own : Nat → Nat} {base q : Nat} {h : Hd} {a : Ak} {w u : World} {g : Nat} {o : Obj} (H : AB own base q h a w g o u) (hB : base ≤ w.heap.size) (k : Int) :
    Calls Tryz.prog 11 #[.pointer (some ⟨h.pb, 0, none⟩), .int .i64 k] u (fun e u' => e = .returned (.bool (a.b.at_ k).isSome) ∧ ∃ own', AB own' base q h { a with b := a.b.drop k } w g o u') := by
  refine (Bg7.drop_any (fun k => own k = 3) h.pb a.b k u H.st.ak.bag).mono ?_
  rintro e w' ⟨h1, h2, h3⟩
  have hB' := Nat.le_trans hB H.st.low.size
  exact ⟨h1, _, ⟨H.st.ak.upBag hB' h2 h3, H.st.low.trans (H.st.ak.belowOf hB' (by decide) h3)⟩, (h3.block g (lt_of_heap H.blk) (by rw [H.free]; decide)).trans H.blk, (paint_old (lt_of_heap H.blk)).trans H.free⟩
theorem double_ab {own : Nat → Nat} {base q : Nat} {h : Hd} {a : Ak} {w u : World} {g : Nat} {o : Obj} (H : AB own base q h a w g o u) (hB : base ≤ w.heap.size) (k : Int) :
    Calls Tryz.prog 12 #[.pointer (some ⟨h.pb, 0, none⟩), .int .i64 k] u (fun e u' => e = .returned (.int .i64 (a.b.doubleE k)) ∧ ∃ own', AB own' base q h { a with b := a.b.double k } w g o u') := by
  refine (Bg7.double_any (fun k => own k = 3) h.pb a.b k u H.st.ak.bag).mono ?_
  rintro e w' ⟨h1, h2, h3⟩
  have hB' := Nat.le_trans hB H.st.low.size
  exact ⟨h1, _, ⟨H.st.ak.upBag hB' h2 h3, H.st.low.trans (H.st.ak.belowOf hB' (by decide) h3)⟩, (h3.block g (lt_of_heap H.blk) (by rw [H.free]; decide)).trans H.blk, (paint_old (lt_of_heap H.blk)).trans H.free⟩
theorem take_ab {own : Nat → Nat} {base q : Nat} {h : Hd} {a : Ak} {w u : World} {g : Nat} {o : Obj} (H : AB own base q h a w g o u) (hB : base ≤ w.heap.size) (k : Int) {p : Bg7.Pkt} (hp : a.b.at_ k = some p) :
    Calls Tryz.prog 9 #[.pointer (some ⟨h.pb, 0, none⟩), .int .i64 k] u (fun e u' => ∃ (zz : Array Value) (da : Option Addr) (dc : Nat), Hid (zz = #[.int .i64 p.src, .int .i64 p.dst, .slice da p.data.length dc]) ∧ e = .returned (.tuple #[.agg zz, .bool true]) ∧ AB own base q h { a with b := a.b.drop k } w g o u' ∧ BytesV (fun b => u.heap.size ≤ b ∧ b < u'.heap.size) u' (.slice da p.data.length dc) p.data ∧ Mod (fun k => own k = 3) u u') := by
  refine (Bg7.take_any2 (fun k => own k = 3) h.pb a.b k u H.st.ak.bag).mono ?_
  rintro e w' ⟨h1, h2, h3⟩
  have hB' := Nat.le_trans hB H.st.low.size
  rw [hp] at h1
  obtain ⟨v, rfl, hv⟩ := h1
  have := H.st.ak.datalen k p hp
  obtain ⟨dv, rfl, hb⟩ := hv.bytes (by simp only [maxLen]; omega)
  have hb' := hb.mono (G' := fun b => u.heap.size ≤ b ∧ b < w'.heap.size) (fun k hk hD => ⟨hD, hk⟩)
  obtain ⟨da, dc, rfl, _⟩ := hb
  exact ⟨_, da, dc, Lib.hid rfl, rfl, ⟨⟨H.st.ak.upBagTight h2 h3, H.st.low.trans (H.st.ak.belowOf hB' (by decide) h3)⟩, (h3.block g (lt_of_heap H.blk) (by rw [H.free]; decide)).trans H.blk, H.free⟩, hb', h3⟩
theorem take_ab0 {own : Nat → Nat} {base q : Nat} {h : Hd} {a : Ak} {w u : World} {g : Nat} {o : Obj} (H : AB own base q h a w g o u) (hB : base ≤ w.heap.size) (k : Int) (hp : a.b.at_ k = none) :
    Calls Tryz.prog 9 #[.pointer (some ⟨h.pb, 0, none⟩), .int .i64 k] u (fun e u' => e = .returned (.tuple #[.agg #[.int .i64 0, .int .i64 0, .slice none 0 0], .bool false]) ∧ AB own base q h { a with b := a.b.drop k } w g o u' ∧ Mod (fun k => own k = 3) u u') := by
  refine (Bg7.take_any2 (fun k => own k = 3) h.pb a.b k u H.st.ak.bag).mono ?_
  rintro e w' ⟨h1, h2, h3⟩
  have hB' := Nat.le_trans hB H.st.low.size
  rw [hp] at h1
  exact ⟨h1, ⟨⟨H.st.ak.upBagTight h2 h3, H.st.low.trans (H.st.ak.belowOf hB' (by decide) h3)⟩, (h3.block g (lt_of_heap H.blk) (by rw [H.free]; decide)).trans H.blk, H.free⟩, h3⟩
theorem Arr.x {boot : Nat} {a a' : Ak} {mk : Nat} {m : Mg} (h : Arr boot a mk m a') : a'.x = a.x := by cases h <;> rfl
theorem Mg.ok_bag {a : Ak} {m : Mg} (h : m.ok a) (b : Bg7.Bg) : m.ok { a with b := b } := by cases m <;> exact h
end Go.Proofs.YtaelbgjcoakdlaaGreat
