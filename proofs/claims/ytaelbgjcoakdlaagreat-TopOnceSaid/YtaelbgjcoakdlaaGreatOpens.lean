/- opens: a call, and its Ask. -/
import Derived.Test.YtaelbgjcoakdlaaGreatOprb
import Derived.Test.YtaelbgjcoakdlaaGreatArrc
namespace Go.Proofs.YtaelbgjcoakdlaaGreat
open Go.RowKit Go.Maps

/-- What the asker's steps read. -/
structure AS (own : Nat → Nat) (base q : Nat) (h : Hd) (a : Ak) (w : World) (u : World) : Prop where
  ak : AkAt own base u q h a
  low : Below base w u
theorem AS.below {own : Nat → Nat} {base q : Nat} {h : Hd} {a : Ak} {w u u' : World} (H : AS own base q h a w u) (hB : base ≤ w.heap.size) (hb : Below u.heap.size u u') : AS own base q h a w u' :=
  ⟨H.ak.below hb, H.low.trans (hb.mono (Nat.le_trans hB H.low.size))⟩
theorem AS.cells {own : Nat → Nat} {base q : Nat} {h : Hd} {a : Ak} {w u : World} (H : AS own base q h a w u) :
    (∀ i, u.cell? ⟨q, i, none⟩ = #[.pointer (some ⟨h.pc, 0, none⟩), .pointer (some ⟨h.pr, 0, none⟩), .pointer (some ⟨h.pb, 0, none⟩), h.vd, h.vt, h.vs][i]?) := fun i => blk_cell H.ak.head i
theorem AS.upCalls {own : Nat → Nat} {base q : Nat} {h : Hd} {a : Ak} {w u u' : World} {c' : Cl} (H : AS own base q h a w u) (hB : base ≤ w.heap.size) (hc : CallsAt (fun k => own k = 1) u' h.pc c') (hm : Mod (fun k => own k = 1) u u') : AS own base q h { a with c := c' } w u' :=
  ⟨H.ak.upCalls hc hm, H.low.trans (H.ak.belowOf (Nat.le_trans hB H.low.size) (by decide) hm)⟩
theorem AS.stored {own : Nat → Nat} {base q : Nat} {h : Hd} {a : Ak} {w u : World} (H : AS own base q h a w u) {r : Nat} {old xs : Array Value} {ty : TypeId} (hr : u.heap[r]? = some (.cells old ty (0, 0))) (hsz : old.size = xs.size) (hi : (Tryz.prog.info? ty).map (·.size) = some xs.size) (h1 : xs.all (·.oneCell') = true) (ho : own r = 0) (hb : base ≤ r) :
    (storeCells ⟨r, 0, none⟩ xs.toList 0).run Tryz.prog u = .ok () (u.setRow r xs) ∧ AS own base q h a w (u.setRow r xs) ∧ (u.setRow r xs).heap[r]? = some (.cells xs ty (0, 0)) := by
  refine ⟨run_storeCells_row u r ty ty old xs hr hi hsz h1, ⟨H.ak.keep (fun k _ hk => setRow_other _ _ _ _ (fun e => hk (e ▸ ho))) (by rw [setRow_size]; exact Nat.le_refl _), ?_⟩, setRow_heap _ _ _ _ _ _ hr⟩
  exact below_row H.low hb _
theorem AS.fresh {own : Nat → Nat} {base q : Nat} {h : Hd} {a : Ak} {w u : World} (H : AS own base q h a w u) (hB : base ≤ w.heap.size) {r : Nat} (hr : u.heap.size ≤ r) : own r = 0 ∧ base ≤ r :=
  ⟨Classical.byContradiction fun e => by have := (H.ak.back r e).2; omega, by have := H.low.size; omega⟩
def OpPost (base q : Nat) (pc pr pb : Nat) (a' : Ak) (w : World) (e : Ending) (w' : World) : Prop := e = .returned (.bool true) ∧ ∃ own' h', h'.pc = pc ∧ h'.pr = pr ∧ h'.pb = pb ∧ AkAt own' base w' q h' a' ∧ Below base w w'
set_option maxRecDepth 100000 in
set_option maxHeartbeats 1000000 in
theorem opens_busy {own : Nat → Nat} {base : Nat} {q : Nat} {h : Hd} {a : Ak} (w : World) (H : AkAt own base w q h a) (hB : base ≤ w.heap.size) (ho : ClOK a.c) (hn : a.c.next ≤ 1000) (hb : a.c.busy) :
    Calls Tryz.prog 7 #[.pointer (some ⟨q, 0, none⟩)] w (OpPost base q h.pc h.pr h.pb a w) := by
  obtain ⟨pc, pr, pb, vd, vt, vs⟩ := h
  have HS := Lib.hid (show AS own base q ⟨pc, pr, pb, vd, vt, vs⟩ a w w from ⟨H, Below.refl _ _⟩)
  have HO := Lib.hid ho
  have HN := Lib.hid hn
  have HBu := Lib.hid hb
  clear H ho hb hn
  have q0 : w.cell? ⟨q, 0, none⟩ = some (.pointer (some ⟨pc, 0, none⟩)) := HS.out.cells 0
  go_enter Tryz.func7, Tryz.ntmps7
  go_wp2_with fail
  refine (open_busy (fun k => own k = 1) pc a.c _ HS.out.ak.calls HO.out HN.out HBu.out).mono ?_
  rintro e w1 ⟨rfl, hc1, hm1⟩
  have HS1 := Lib.hid (HS.out.upCalls hB hc1 hm1)
  clear hc1 hm1
  go_wp2_with fail
  go_ret
  exact ⟨rfl, own, _, rfl, rfl, rfl, HS1.out.ak, HS1.out.low⟩
set_option maxRecDepth 100000 in
set_option maxHeartbeats 2000000 in
theorem opens_ok {own : Nat → Nat} {base : Nat} {q : Nat} {h : Hd} {a : Ak} (w : World) (H : AkAt own base w q h a) (hB : base ≤ w.heap.size) (ho : ClOK a.c) (hn : a.c.next ≤ 900) (hb : ¬ a.c.busy) (hnx : a.c.next = a.done.length + 1) (hboot : 1 ≤ a.c.boot ∧ a.c.boot ≤ 1099511627776) (hlen : ∀ k, (a.row k).length ≤ 1000) (hs : a.b.sent ≤ 10000) (hl : a.b.lost ≤ 10000) (h1 : 1 ≤ a.c.open_.low) :
    Calls Tryz.prog 7 #[.pointer (some ⟨q, 0, none⟩)] w (OpPost base q h.pc h.pr h.pb { a with c := a.c.open_, b := a.b.send (pkt (askM 1 a.c.boot a.c.next a.c.open_.low)), done := a.done ++ [0], told := a.told ++ [0], seen := a.seen ++ [0] } w) := by
  obtain ⟨pc, pr, pb, vd, vt, vs⟩ := h
  have HS := Lib.hid (show AS own base q ⟨pc, pr, pb, vd, vt, vs⟩ a w w from ⟨H, Below.refl _ _⟩)
  have HO := Lib.hid ho
  have HN := Lib.hid hn
  have HBu := Lib.hid hb
  have HO2 := Lib.hid (ho.open_ (by omega))
  have hlo := a.c.open_.low_mem (k := a.c.next) (List.mem_append_right _ (List.mem_singleton.2 rfl))
  have HF := Lib.hid (show Fine (askM 1 a.c.boot a.c.next a.c.open_.low) from fine_askM (by omega) (by omega) (by omega) (by omega))
  have hne : decide ((a.c.next : Int) = 0) = false := decide_eq_false (by omega)
  obtain ⟨m, hm⟩ : ∃ m, m = askM 1 a.c.boot a.c.next a.c.open_.low := ⟨_, rfl⟩
  have HM := Lib.hid hm
  have HNX := Lib.hid hnx
  rw [← hm] at HF
  clear H ho hb hm hlo hnx
  have q0 : w.cell? ⟨q, 0, none⟩ = some (.pointer (some ⟨pc, 0, none⟩)) := HS.out.cells 0
  go_enter Tryz.func7, Tryz.ntmps7
  go_wp2_with fail
  refine (open_ok (fun k => own k = 1) pc a.c _ HS.out.ak.calls HO.out (by have := HN.out; omega) (by have := HNX.out; omega) HBu.out).mono ?_
  rintro e w1 ⟨rfl, hc1, hm1⟩
  have HS1 := Lib.hid (HS.out.upCalls hB hc1 hm1)
  clear hc1 hm1
  have q0 : w1.cell? ⟨q, 0, none⟩ = some (.pointer (some ⟨pc, 0, none⟩)) := HS1.out.cells 0
  go_wp2_with fail
  refine (asked_in (fun k => own k = 1) pc a.c.open_ a.c.next _ HS1.out.ak.calls HO2.out (by show a.c.next + 1 ≤ 1000; have := HN.out; omega) (List.mem_append_right _ (List.mem_singleton.2 rfl))).mono ?_
  rintro e w2 ⟨he, hc2, hb2⟩
  have he' : e = .returned (.tuple #[m.val, .bool true]) := by rw [HM.out]; exact he
  subst he'
  clear he hc2
  have HS2 := Lib.hid (HS1.out.below hB hb2)
  clear hb2
  obtain ⟨hf1, hf2⟩ := HS2.out.fresh hB (Nat.le_refl _)
  have HR := Lib.hid hf1
  have hS3 : AS own base q ⟨pc, pr, pb, vd, vt, vs⟩ { a with c := a.c.open_ } w (w2.alloc (.cells m.cells 51)) := HS2.out.below hB ((Below.refl _ _).alloc (Nat.le_refl _) _)
  have HS3 := Lib.hid hS3
  clear hS3 hf1 hf2
  go_wp2_with (first
    | (refine wpList_store_row rfl 51 (.tmp 5) (.tmp 31) rfl w2.heap.size m.cells rfl rfl 51 _ (heap_at _ _ _ rfl) (by kernel_rfl) rfl (Ms.one _) ?_; rw [World.setRow_alloc_new])
    | (refine wpList_load_row rfl 51 (.tmp 5) rfl w2.heap.size rfl 51 m.cells (0, 0) _ (heap_at w2 _ _ rfl) Tryz.underlying51 rfl (by kernel_rfl) ?_))
  refine (sends_ak m HS3.out.ak (Nat.le_trans hB HS3.out.low.size) HF.out hs hl).mono ?_
  rintro e w4 ⟨rfl, own4, hk4, hb4⟩
  have HK4 := Lib.hid hk4
  have HB4 := Lib.hid (HS3.out.low.trans hb4)
  clear hk4 hb4
  go_wp2_with fail
  refine opens_region_at (a := { a with c := a.c.open_, b := a.b.send (pkt m) }) (H := HK4.out) (by kernel_rfl) (by rfl) (by kernel_rfl) (Nat.le_trans hB HB4.out.size) (fun k => hlen k) ?_
  rintro e own5 ⟨pc5, pr5, pb5, vd5, vt5, vs5⟩ w5 rfl rfl rfl hk5 hb5
  obtain ⟨n, hn5⟩ : ∃ n, n = a.c.next := ⟨_, rfl⟩
  obtain ⟨xd, cd, hvd⟩ : ∃ x c, vd5 = .slice x (a.done ++ [0]).length c := hk5.done.slice
  have hvd' : vd5 = .slice xd n cd := by
    have e1 : (a.done ++ [0]).length = n := by rw [hn5, HNX.out]; simp
    rw [e1] at hvd
    exact hvd
  subst hvd'
  have HK5 := Lib.hid hk5
  have HB5 := Lib.hid (HB4.out.trans hb5)
  have q3 : w5.cell? ⟨q, 3, none⟩ = some (.slice xd n cd) := blk_cell hk5.head 3
  rw [← hn5]
  clear hk5 hb5 hvd hn5 hne
  go_wp2_with fail
  go_ret
  refine ⟨rfl, own5, ⟨pc5, pr5, pb5, .slice xd n cd, vt5, vs5⟩, rfl, rfl, rfl, ?_, HB5.out⟩
  have := HK5.out
  rw [HM.out] at this
  exact this
end Go.Proofs.YtaelbgjcoakdlaaGreat
