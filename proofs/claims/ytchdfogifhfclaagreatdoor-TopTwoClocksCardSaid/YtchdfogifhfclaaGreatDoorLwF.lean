/- TopTwoClocks: time goes on (printed by mklw.py). -/
import Derived.Test.YtchdfogifhfclaaGreatDoorLwAM
namespace Go.Proofs.YtchdfogifhfclaaGreatDoor
open Go.RowKit Go.Maps Go.MapKept

/-- The sequence that begins with a region. -/
def Cd.tail (n : Nat) : Code → Option Code
  | .seq (.region m o d) y => if m = n then some (.seq (.region m o d) y) else Cd.tail n y
  | .seq x y => (Cd.tail n x).or (Cd.tail n y)
  | .cond _ x y => (Cd.tail n x).or (Cd.tail n y)
  | .block _ x => Cd.tail n x
  | .loop x => Cd.tail n x
  | _ => none
/-- A statement that ends or returns. -/
def endQ (QN QR : Act → World → Prop) : Exit → Act → World → Prop := fun e a w => match e with
  | .normal => QN a w
  | .ret => QR a w
  | _ => False
theorem wp_end {PP : Program} {s : Code} {QN QR : Act → World → Prop} {Q : Exit → Act → World → Prop} {a : Act} {w : World} (h : s.wp PP (endQ QN QR) a w) (hn : ∀ a w, QN a w → Q .normal a w) (hr : ∀ a w, QR a w → Q .ret a w) : s.wp PP Q a w :=
  wp_mono h fun e a w h => by
    cases e with
    | normal => exact hn a w h
    | ret => exact hr a w h
    | _ => exact absurd h id
theorem cell_drew1 {w : World} {a : Addr} {v : Value} (h : w.cell? a = some v) : w.drew.cell? a = some v := h
theorem cell_alloc1 {w : World} {a : Addr} {v : Value} {o : Obj} (h : w.cell? a = some v) (hl : a.block < w.heap.size) : (w.alloc o).cell? a = some v := (World.cell?_alloc_lt _ _ _ hl).trans h
theorem tick_ok {W : World} {P : Pn} {pc gc : Nat} {q : Gs} {hb : Nat} {Z : Nat → Prop} {c : Ck8.Ck} {x : Int} {ol : Option Ls} {w : World} {L : Lst} {os : Option Ent} {d : Int} {dl : List Int} {dv : Value} {D : Nat → Prop} (H : Wd W P pc gc q hb Z c L os x ol w) (hf : c.Fit) (hd : Ck8.I64 d) (hdl : ∀ (j : Nat) (y : Int), dl[j]? = some y → Ck8.I64 y) (hv : Ck8.IntsV D w dv dl) (hD : ¬ D pc ∧ ¬ D gc) (hE : c.tickE d dl = 0) :
    Calls Tryz.prog 17 #[.pointer (some ⟨pc, 0, none⟩), .int .i64 d, dv] w (fun e w' => e = .returned (.int .i64 0) ∧ Wd W P pc gc q hb Z (c.tickR d dl) L os x ol w') := by
  refine (Ck8.tick_any pc gc c d D dl dv w H.ck hf hd hdl hv hD).mono ?_
  rintro e w' ⟨rfl, h1, h2⟩
  exact ⟨by rw [hE]; rfl, H.clk h1 h2⟩
set_option maxRecDepth 100000 in
set_option maxHeartbeats 8000000 in
theorem stF {W : World} {P : Pn} {pc gc : Nat} {q : Gs} {hb : Nat} {ta : Option Addr} {tn tc : Nat} {sent since id : Int} {n : Nat} {wr : World} {QN : Act → World → Prop} {QR : Act → World → Prop} {ds : List Deferred} {u0 u3 u4 u6 u7 u8 u9 u10 u12 u14 u19 u21 u22 u23 u24 u25 u26 u27 u28 u29 u30 u31 u32 u33 u34 u35 u36 u37 u38 u39 u40 u41 u42 u43 u44 u45 u46 u47 u48 u49 u50 u51 u52 u53 u54 u55 u56 u57 u58 u59 u60 u61 u62 u63 u64 u65 u66 u67 u68 u69 u70 u71 u72 u73 u74 u75 u76 u77 u78 u79 u80 u81 u82 u83 u84 u85 u86 u87 u88 u89 u90 u91 u92 u93 u94 u95 u96 u97 u98 u99 u100 u101 u102 u103 u104 u105 u106 u107 u108 u109 u110 u111 u112 u113 u114 u115 u116 u117 u118 u119 u120 u121 u122 u123 u124 u125 u126 u127 u128 u129 u130 u131 u132 u133 u134 u135 u136 u137 u138 u139 u140 u141 u142 u143 u144 u145 u146 u147 u148 u149 u150 u151 u152 u153 u154 u155 u156 u157 u158 u159 u160 u161 u162 u163 u164 u165 u166 u167 u168 u169 u170 u171 u172 u173 u174 u175 u176 u177 u178 u179 u180 u181 u182 u183 u184 u185 u186 u187 u188 u189 u190 u191 u192 u193 u194 u195 u196 u197 u198 u199 u200 u201 u202 u203 u204 u205 u206 u207 u208 u209 u210 u211 u212 u213 u214 u215 u216 u217 u218 u219 u220 u221 u222 u223 u224 u225 u226 u227 u228 u229 u230 u231 u232 u233 u234 u235 u236 u237 u238 u239 u240 u241 u242 u243 u244 u245 u246 u247 u248 u249 u250 u251 u252 u253 u254 u255 u256 u257 u258 u259 u260 u261 u262 u263 u264 u265 u266 u267 u268 u269 u270 u271 u272 u273 u274 u275 u276 u277 u278 u279 u280 u281 u282 u283 u284 u285 u286 u287 u288 u289 u290 u291 u292 u293 u294 u295 u296 u297 u298 u299 u300 u301 u302 u303 u304 u305 u306 u307 u308 u309 u310 u311 u312 u313 : Value} {gs : Nat} {c : Ck8.Ck} {x : Int} {ol : Option Ls} {g h : Int} {l : List (Int × Int × Int)}
    (ht : TkIn W (.slice ta tn tc) l) (hn : n ≤ l.length) (I : Inv P (n + 1) (n + 1) (n + 1) gs c x ol sent) (H : Wd W P pc gc q hb (fun _ => False) c (LOf P gs) (osOf P gs) x ol wr)
    (hrest : ∀ v4 v282 v283 v284 v285 v286 v287 v288 v289 v290 v291 v292 v293 v294 v295 v296 v297 v298 v299 v300 v301 v302 v303 v304 v305 v306 v307 v308 v309 v310 v311 v312 v313 (c' : Ck8.Ck) (g' h' : Int) (wc : World), c'.now = [g', h'] → Inv P (n + 1) (n + 1) (n + 1) gs c' x ol sent → Wd W P pc gc q hb (fun _ => False) c' (LOf P gs) (osOf P gs) x ol wc → QN ⟨#[u0, .slice ta tn tc, .pointer (some ⟨W.heap.size, 0, none⟩), u3, v4, .pointer (some ⟨pc, 0, none⟩), u6, u7, u8, u9, u10, .pointer (some ⟨q.g, 0, none⟩), u12, .pointer (some ⟨hb, 0, none⟩), u14, .int .i64 P.t, .int .i64 sent, .int .i64 since, .int .i64 id, u19, .int .i64 (n : Int), u21, u22, u23, u24, u25, u26, u27, u28, u29, u30, u31, u32, u33, u34, u35, u36, u37, u38, u39, u40, u41, u42, u43, u44, u45, u46, u47, u48, u49, u50, u51, u52, u53, u54, u55, u56, u57, u58, u59, u60, u61, u62, u63, u64, u65, u66, u67, u68, u69, u70, u71, u72, u73, u74, u75, u76, u77, u78, u79, u80, u81, u82, u83, u84, u85, u86, u87, u88, u89, u90, u91, u92, u93, u94, u95, u96, u97, u98, u99, u100, u101, u102, u103, u104, u105, u106, u107, u108, u109, u110, u111, u112, u113, u114, u115, u116, u117, u118, u119, u120, u121, u122, u123, u124, u125, u126, u127, u128, u129, u130, u131, u132, u133, u134, u135, u136, u137, u138, u139, u140, u141, u142, u143, u144, u145, u146, u147, u148, u149, u150, u151, u152, u153, u154, u155, u156, u157, u158, u159, u160, u161, u162, u163, u164, u165, u166, u167, u168, u169, u170, u171, u172, u173, u174, u175, u176, u177, u178, u179, u180, u181, u182, u183, u184, u185, u186, u187, u188, u189, u190, u191, u192, u193, u194, u195, u196, u197, u198, u199, u200, u201, u202, u203, u204, u205, u206, u207, u208, u209, u210, u211, u212, u213, u214, u215, u216, u217, u218, u219, u220, u221, u222, u223, u224, u225, u226, u227, u228, u229, u230, u231, u232, u233, u234, u235, u236, u237, u238, u239, u240, u241, u242, u243, u244, u245, u246, u247, u248, u249, u250, u251, u252, u253, u254, u255, u256, u257, u258, u259, u260, u261, u262, u263, u264, u265, u266, u267, u268, u269, u270, u271, u272, u273, u274, u275, u276, u277, u278, u279, u280, u281, v282, v283, v284, v285, v286, v287, v288, v289, v290, v291, v292, v293, v294, v295, v296, v297, v298, v299, v300, v301, v302, v303, v304, v305, v306, v307, v308, v309, v310, v311, v312, v313], ds⟩ wc)
    (hret : ∀ v282 v283 v284 v285 v286 v287 v288 v289 v290 v291 v292 v293 v294 v295 v296 v297 v298 v299 v300 v301 v302 v303 v304 v305 v306 v307 v308 v309 v310 v311 v312 v313 wc, Below W.heap.size W wc → QR ⟨#[u0, .slice ta tn tc, .pointer (some ⟨W.heap.size, 0, none⟩), u3, .bool true, .pointer (some ⟨pc, 0, none⟩), u6, u7, u8, u9, u10, .pointer (some ⟨q.g, 0, none⟩), u12, .pointer (some ⟨hb, 0, none⟩), u14, .int .i64 P.t, .int .i64 sent, .int .i64 since, .int .i64 id, u19, .int .i64 (n : Int), u21, u22, u23, u24, u25, u26, u27, u28, u29, u30, u31, u32, u33, u34, u35, u36, u37, u38, u39, u40, u41, u42, u43, u44, u45, u46, u47, u48, u49, u50, u51, u52, u53, u54, u55, u56, u57, u58, u59, u60, u61, u62, u63, u64, u65, u66, u67, u68, u69, u70, u71, u72, u73, u74, u75, u76, u77, u78, u79, u80, u81, u82, u83, u84, u85, u86, u87, u88, u89, u90, u91, u92, u93, u94, u95, u96, u97, u98, u99, u100, u101, u102, u103, u104, u105, u106, u107, u108, u109, u110, u111, u112, u113, u114, u115, u116, u117, u118, u119, u120, u121, u122, u123, u124, u125, u126, u127, u128, u129, u130, u131, u132, u133, u134, u135, u136, u137, u138, u139, u140, u141, u142, u143, u144, u145, u146, u147, u148, u149, u150, u151, u152, u153, u154, u155, u156, u157, u158, u159, u160, u161, u162, u163, u164, u165, u166, u167, u168, u169, u170, u171, u172, u173, u174, u175, u176, u177, u178, u179, u180, u181, u182, u183, u184, u185, u186, u187, u188, u189, u190, u191, u192, u193, u194, u195, u196, u197, u198, u199, u200, u201, u202, u203, u204, u205, u206, u207, u208, u209, u210, u211, u212, u213, u214, u215, u216, u217, u218, u219, u220, u221, u222, u223, u224, u225, u226, u227, u228, u229, u230, u231, u232, u233, u234, u235, u236, u237, u238, u239, u240, u241, u242, u243, u244, u245, u246, u247, u248, u249, u250, u251, u252, u253, u254, u255, u256, u257, u258, u259, u260, u261, u262, u263, u264, u265, u266, u267, u268, u269, u270, u271, u272, u273, u274, u275, u276, u277, u278, u279, u280, u281, v282, v283, v284, v285, v286, v287, v288, v289, v290, v291, v292, v293, v294, v295, v296, v297, v298, v299, v300, v301, v302, v303, v304, v305, v306, v307, v308, v309, v310, v311, v312, v313], ds⟩ wc) :
    ((Tryz.f3.body.bind (Cd.tail 39)).getD .skip).wp Tryz.prog (endQ QN QR) ⟨#[u0, .slice ta tn tc, .pointer (some ⟨W.heap.size, 0, none⟩), u3, u4, .pointer (some ⟨pc, 0, none⟩), u6, u7, u8, u9, u10, .pointer (some ⟨q.g, 0, none⟩), u12, .pointer (some ⟨hb, 0, none⟩), u14, .int .i64 P.t, .int .i64 sent, .int .i64 since, .int .i64 id, u19, .int .i64 (n : Int), u21, u22, u23, u24, u25, u26, u27, u28, u29, u30, u31, u32, u33, u34, u35, u36, u37, u38, u39, u40, u41, u42, u43, u44, u45, u46, u47, u48, u49, u50, u51, u52, u53, u54, u55, u56, u57, u58, u59, u60, u61, u62, u63, u64, u65, u66, u67, u68, u69, u70, u71, u72, u73, u74, u75, u76, u77, u78, u79, u80, u81, u82, u83, u84, u85, u86, u87, u88, u89, u90, u91, u92, u93, u94, u95, u96, u97, u98, u99, u100, u101, u102, u103, u104, u105, u106, u107, u108, u109, u110, u111, u112, u113, u114, u115, u116, u117, u118, u119, u120, u121, u122, u123, u124, u125, u126, u127, u128, u129, u130, u131, u132, u133, u134, u135, u136, u137, u138, u139, u140, u141, u142, u143, u144, u145, u146, u147, u148, u149, u150, u151, u152, u153, u154, u155, u156, u157, u158, u159, u160, u161, u162, u163, u164, u165, u166, u167, u168, u169, u170, u171, u172, u173, u174, u175, u176, u177, u178, u179, u180, u181, u182, u183, u184, u185, u186, u187, u188, u189, u190, u191, u192, u193, u194, u195, u196, u197, u198, u199, u200, u201, u202, u203, u204, u205, u206, u207, u208, u209, u210, u211, u212, u213, u214, u215, u216, u217, u218, u219, u220, u221, u222, u223, u224, u225, u226, u227, u228, u229, u230, u231, u232, u233, u234, u235, u236, u237, u238, u239, u240, u241, u242, u243, u244, u245, u246, u247, u248, u249, u250, u251, u252, u253, u254, u255, u256, u257, u258, u259, u260, u261, u262, u263, u264, u265, u266, u267, u268, u269, u270, u271, u272, u273, u274, u275, u276, u277, u278, u279, u280, u281, u282, u283, u284, u285, u286, u287, u288, u289, u290, u291, u292, u293, u294, u295, u296, u297, u298, u299, u300, u301, u302, u303, u304, u305, u306, u307, u308, u309, u310, u311, u312, u313], ds⟩ wr := by
  dsimp [Tryz.f3, Cd.tail, Option.bind, Option.or, Option.getD]
  have b0 := blk_cell H.box
  have l0 := lt_of_heap H.box
  obtain ⟨ta, tc', htv, htc, htm, hcells⟩ := ht
  injection htv with htv1 htv2 htv3
  subst htv1 htv3
  obtain rfl := htv2
  have HW := Lib.hid H
  have HI := Lib.hid I
  have HR := Lib.hid hrest
  have HT := Lib.hid hret
  have HTC := Lib.hid (And.intro htc htm)
  have HCE := Lib.hid hcells
  clear I hrest hret H htc htm hcells
  unfold planC plC at b0
  have k0 : (0 : Int) ≤ (n : Int) := by omega
  by_cases h1 : n = l.length
  · have e1 : ((n : Int) == (l.length : Int)) = true := by rw [h1]; simp
    have e2 : (n == l.length) = true := by rw [h1]; simp
    clear h1 hn
    go_upto_region 39 with fail
    go_quiet (fail)
    obtain ⟨n1, rfl⟩ : ∃ n1 : Nat, n1 = nq := ⟨_, rfl⟩
    go_wp2_with fail
    exact HT.out _ _ _ _ _ _ _ _ _ _ _ _ _ _ _ _ _ _ _ _ _ _ _ _ _ _ _ _ _ _ _ _ _ (HW.out.below (Ck8.below_drewN _ n1)).out
  · have hlt : n < l.length := by omega
    have e1 : ((n : Int) == (l.length : Int)) = false := by simp; omega
    have e2 : (n == l.length) = false := by simp; omega
    have k1 : (n : Int) < (l.length : Int) := by omega
    obtain ⟨⟨d, tg, th⟩, ht⟩ : ∃ t, l[n]? = some t := ⟨_, List.getElem?_eq_getElem hlt⟩
    obtain ⟨tb, tof, rfl, htb, hct⟩ := HCE.out (by omega)
    obtain ⟨t0, t1, t2, i0, i1, i2⟩ := hct n _ ht
    simp only at t0 t1 t2 i0 i1 i2
    have T0 := Lib.hid t0
    have T1 := Lib.hid t1
    have T2 := Lib.hid t2
    have HTB := Lib.hid htb
    have s0 := (HW.out.out.cell (p := ⟨tb, tof + n * 3, none⟩) htb).trans t0
    have s1 := (HW.out.out.cell (p := ⟨tb, tof + n * 3 + 1, none⟩) htb).trans t1
    have s2 := (HW.out.out.cell (p := ⟨tb, tof + n * 3 + 2, none⟩) htb).trans t2
    have ltb : tb < wr.heap.size := Nat.lt_of_lt_of_le htb HW.out.out.size
    have HV := Lib.hid (Ck8.ints_new wr.drew [tg, th] #[.int .i64 tg, .int .i64 th] rfl 2 rfl (by decide))
    have HD := Lib.hid (show ¬ pc = wr.drew.heap.size ∧ ¬ gc = wr.drew.heap.size by
      have h1 := HW.out.ck.lt
      have h2 : wr.drew.heap.size = wr.heap.size := rfl
      omega)
    have HTK := Lib.hid (tick_w (D := fun k => k = wr.drew.heap.size) (HW.out.drew.below (below_one wr.drew (.cells #[.int .i64 tg, .int .i64 th] 3))) HI.out.fit i0 (fun j y hy => by
      match j, hy with
      | 0, hy => simp at hy; rw [← hy]; exact i1
      | 1, hy => simp at hy; rw [← hy]; exact i2) HV.out HD.out)
    have IOK := Lib.hid (show Ck8.I64 d ∧ ∀ (j : Nat) (y : Int), [tg, th][j]? = some y → Ck8.I64 y from ⟨i0, fun j y hy => by
      match j, hy with
      | 0, hy => simp at hy; rw [← hy]; exact i1
      | 1, hy => simp at hy; rw [← hy]; exact i2⟩)
    clear h1 hn ht hct t0 t1 t2 i0 i1 i2 htb
    obtain ⟨c', hc'⟩ : ∃ c', c' = c.tickR d [tg, th] := ⟨_, rfl⟩
    have HC' := Lib.hid hc'
    by_cases hE : c.tickE d [tg, th] = 0
    · have HE := Lib.hid hE
      have HTO := Lib.hid (show Calls Tryz.prog 17 _ _ (fun e w' => e = .returned (.int .i64 0) ∧ Wd W P pc gc q hb (fun _ => False) c' (LOf P gs) (osOf P gs) x ol w') from hc' ▸ tick_ok (D := fun k => k = wr.drew.heap.size) (HW.out.drew.below (below_one wr.drew (.cells #[.int .i64 tg, .int .i64 th] 3))) HI.out.fit IOK.out.1 IOK.out.2 HV.out HD.out hE)
      cases hdr : decide (P.rho < c'.drift) with
      | true =>
        clear hE hc'
        go_upto_region 39 with fail
        go_cut [313] from 282 to 313 (fun u313 wd => u313 = .bool true ∧ Hid (Below W.heap.size W wd))
        case first =>
          refine wp_region_held_drew (S := (fun u => (∀ i, u.cell? ⟨W.heap.size, i, none⟩ = #[Value.int .i64 P.rho, Value.int .i64 P.T, Value.int .i64 P.sent, Value.int .i64 P.granted, Value.int .i64 P.come, Value.int .i64 P.renews, Value.string P.pa, Value.int .i64 P.m][i]?) ∧ u.cell? ⟨tb, tof + n * 3, none⟩ = some (.int .i64 d) ∧ u.cell? ⟨tb, tof + n * 3 + 1, none⟩ = some (.int .i64 tg) ∧ u.cell? ⟨tb, tof + n * 3 + 2, none⟩ = some (.int .i64 th))) (by kernel_rfl) ?_ (fun hHeld => ?_)
          · (go_split_ands; refine ⟨?_, ?_, ?_, ?_⟩ <;> (repeat (first | (with_reducible assumption) | (with_reducible refine cells_drew ?_) | (with_reducible refine cell_drew1 ?_) | (with_reducible refine cells_alloc ?_ (by first | assumption | omega | (simp; omega)) _) | (with_reducible refine cell_alloc1 ?_ (by first | assumption | (dsimp only; omega) | (simp; omega))))))
          refine wpAnyH_take (i := 0) (oi := { dst := Option.some 282, op := Go.Op.move (Go.Operand.tmp 20), type := 3, pos := "top17.go:71", after := #[], guard := Option.none }) (v := ?vb0) rfl (by kernel_rfl) (by kernel_rfl) (by kernel_rfl) (fun _ _ _ h => h) (Or.inl ⟨by rfl, ?yb0⟩) (by assumption) ?rb0
          case yb0 => (intro w hSw; (try dsimp only at hSw); go_simp; try with_reducible rfl)
          simp only [Act.put, List.setIfInBounds_toArray, List.set_cons_zero, List.set_cons_succ]
          refine wpAnyH_take (i := 1) (oi := { dst := Option.some 283, op := Go.Op.move (Go.Operand.tmp 1), type := 25, pos := "top17.go:71", after := #[], guard := Option.none }) (v := ?vb1) rfl (by kernel_rfl) (by kernel_rfl) (by kernel_rfl) (fun _ _ _ h => h) (Or.inl ⟨by rfl, ?yb1⟩) (by assumption) ?rb1
          case yb1 => (intro w hSw; (try dsimp only at hSw); go_simp; try with_reducible rfl)
          simp only [Act.put, List.setIfInBounds_toArray, List.set_cons_zero, List.set_cons_succ]
          refine wpAnyH_take (i := 2) (oi := { dst := Option.some 284, op := Go.Op.call { callee := Go.Callee.builtin Go.Builtin.len, args := #[Go.Operand.tmp 283], argTypes := #[25] }, type := 3, pos := "top17.go:71", after := #[{ on := 1, ground := Go.Ground.data }], guard := Option.none }) (v := ?vb2) rfl (by kernel_rfl) (by kernel_rfl) (by kernel_rfl) (fun _ _ _ h => h) (Or.inl ⟨by rfl, ?yb2⟩) (by assumption) ?rb2
          case yb2 => (intro w hSw; (try dsimp only at hSw); go_simp; try with_reducible rfl)
          simp only [Act.put, List.setIfInBounds_toArray, List.set_cons_zero, List.set_cons_succ]
          refine wpAnyH_take (i := 3) (oi := { dst := Option.some 285, op := Go.Op.binOp Go.BinOp.eql 3 (Go.Operand.tmp 282) (Go.Operand.tmp 284) 3, type := 4, pos := "top17.go:71", after := #[{ on := 0, ground := Go.Ground.data }, { on := 2, ground := Go.Ground.data }], guard := Option.none }) (v := ?vb3) rfl (by kernel_rfl) (by kernel_rfl) (by kernel_rfl) (fun _ _ _ h => h) (Or.inl ⟨by rfl, ?yb3⟩) (by assumption) ?rb3
          case yb3 => (intro w hSw; (try dsimp only at hSw); go_simp; try with_reducible rfl)
          simp only [Act.put, List.setIfInBounds_toArray, List.set_cons_zero, List.set_cons_succ]
          refine wpAnyH_take (i := 4) (oi := { dst := Option.some 286, op := Go.Op.move (Go.Operand.tmp 285), type := 4, pos := "top17.go:71", after := #[{ on := 3, ground := Go.Ground.data }], guard := Option.none }) (v := ?vb4) rfl (by kernel_rfl) (by kernel_rfl) (by kernel_rfl) (fun _ _ _ h => h) (Or.inl ⟨by rfl, ?yb4⟩) (by assumption) ?rb4
          case yb4 => (intro w hSw; (try dsimp only at hSw); go_simp; try with_reducible rfl)
          simp only [Act.put, List.setIfInBounds_toArray, List.set_cons_zero, List.set_cons_succ]
          refine wpAnyH_take (i := 5) (oi := { dst := Option.some 287, op := Go.Op.move (Go.Operand.tmp 5), type := 26, pos := "top17.go:71", after := #[{ on := 4, ground := Go.Ground.guard }], guard := Option.some (4, Bool.false) }) (v := ?vb5) rfl (by kernel_rfl) (by kernel_rfl) (by kernel_rfl) (fun _ _ _ h => h) (Or.inl ⟨by rfl, ?yb5⟩) (by assumption) ?rb5
          case yb5 => (intro w hSw; (try dsimp only at hSw); go_simp; try with_reducible rfl)
          simp only [Act.put, List.setIfInBounds_toArray, List.set_cons_zero, List.set_cons_succ]
          refine wpAnyH_take (i := 6) (oi := { dst := Option.some 288, op := Go.Op.move (Go.Operand.tmp 1), type := 25, pos := "top17.go:71", after := #[{ on := 4, ground := Go.Ground.guard }], guard := Option.some (4, Bool.false) }) (v := ?vb6) rfl (by kernel_rfl) (by kernel_rfl) (by kernel_rfl) (fun _ _ _ h => h) (Or.inl ⟨by rfl, ?yb6⟩) (by assumption) ?rb6
          case yb6 => (intro w hSw; (try dsimp only at hSw); go_simp; try with_reducible rfl)
          simp only [Act.put, List.setIfInBounds_toArray, List.set_cons_zero, List.set_cons_succ]
          refine wpAnyH_take (i := 7) (oi := { dst := Option.some 289, op := Go.Op.move (Go.Operand.tmp 20), type := 3, pos := "top17.go:71", after := #[{ on := 4, ground := Go.Ground.guard }], guard := Option.some (4, Bool.false) }) (v := ?vb7) rfl (by kernel_rfl) (by kernel_rfl) (by kernel_rfl) (fun _ _ _ h => h) (Or.inl ⟨by rfl, ?yb7⟩) (by assumption) ?rb7
          case yb7 => (intro w hSw; (try dsimp only at hSw); go_simp; try with_reducible rfl)
          simp only [Act.put, List.setIfInBounds_toArray, List.set_cons_zero, List.set_cons_succ]
          refine wpAnyH_take (i := 8) (oi := { dst := Option.some 290, op := Go.Op.indexAddr 25 (Go.Operand.tmp 288) (Go.Operand.tmp 289), type := 0, pos := "top17.go:71", after := #[{ on := 6, ground := Go.Ground.data }, { on := 7, ground := Go.Ground.data }, { on := 4, ground := Go.Ground.guard }], guard := Option.some (4, Bool.false) }) (v := ?vb8) rfl (by kernel_rfl) (by kernel_rfl) (by kernel_rfl) (fun _ _ _ h => h) (Or.inl ⟨by rfl, ?yb8⟩) (by assumption) ?rb8
          case yb8 => (intro w hSw; (try dsimp only at hSw); go_simp; try with_reducible rfl)
          simp only [Act.put, List.setIfInBounds_toArray, List.set_cons_zero, List.set_cons_succ]
          refine wpAnyH_take (i := 9) (oi := { dst := Option.some 291, op := Go.Op.fieldAddr 59 (Go.Operand.tmp 290) 0, type := 0, pos := "top17.go:71", after := #[{ on := 8, ground := Go.Ground.data }, { on := 4, ground := Go.Ground.guard }], guard := Option.some (4, Bool.false) }) (v := ?vb9) rfl (by kernel_rfl) (by kernel_rfl) (by kernel_rfl) (fun _ _ _ h => h) (Or.inl ⟨by rfl, ?yb9⟩) (by assumption) ?rb9
          case yb9 => (intro w hSw; (try dsimp only at hSw); go_simp; try with_reducible rfl)
          simp only [Act.put, List.setIfInBounds_toArray, List.set_cons_zero, List.set_cons_succ]
          refine wpAnyH_take (i := 10) (oi := { dst := Option.some 292, op := Go.Op.load 3 (Go.Operand.tmp 291), type := 3, pos := "top17.go:71", after := #[{ on := 9, ground := Go.Ground.data }, { on := 4, ground := Go.Ground.guard }], guard := Option.some (4, Bool.false) }) (v := ?vb10) rfl (by kernel_rfl) (by kernel_rfl) (by kernel_rfl) (fun _ _ _ h => h) (Or.inl ⟨by rfl, ?yb10⟩) (by assumption) ?rb10
          case yb10 => (intro w hSw; (try dsimp only at hSw); go_simp; try with_reducible rfl)
          simp only [Act.put, List.setIfInBounds_toArray, List.set_cons_zero, List.set_cons_succ]
          refine wpAnyH_take (i := 11) (oi := { dst := Option.some 293, op := Go.Op.move (Go.Operand.tmp 1), type := 25, pos := "top17.go:71", after := #[{ on := 4, ground := Go.Ground.guard }], guard := Option.some (4, Bool.false) }) (v := ?vb11) rfl (by kernel_rfl) (by kernel_rfl) (by kernel_rfl) (fun _ _ _ h => h) (Or.inl ⟨by rfl, ?yb11⟩) (by assumption) ?rb11
          case yb11 => (intro w hSw; (try dsimp only at hSw); go_simp; try with_reducible rfl)
          simp only [Act.put, List.setIfInBounds_toArray, List.set_cons_zero, List.set_cons_succ]
          refine wpAnyH_take (i := 12) (oi := { dst := Option.some 294, op := Go.Op.move (Go.Operand.tmp 20), type := 3, pos := "top17.go:71", after := #[{ on := 4, ground := Go.Ground.guard }], guard := Option.some (4, Bool.false) }) (v := ?vb12) rfl (by kernel_rfl) (by kernel_rfl) (by kernel_rfl) (fun _ _ _ h => h) (Or.inl ⟨by rfl, ?yb12⟩) (by assumption) ?rb12
          case yb12 => (intro w hSw; (try dsimp only at hSw); go_simp; try with_reducible rfl)
          simp only [Act.put, List.setIfInBounds_toArray, List.set_cons_zero, List.set_cons_succ]
          refine wpAnyH_take (i := 13) (oi := { dst := Option.some 295, op := Go.Op.indexAddr 25 (Go.Operand.tmp 293) (Go.Operand.tmp 294), type := 0, pos := "top17.go:71", after := #[{ on := 11, ground := Go.Ground.data }, { on := 12, ground := Go.Ground.data }, { on := 4, ground := Go.Ground.guard }], guard := Option.some (4, Bool.false) }) (v := ?vb13) rfl (by kernel_rfl) (by kernel_rfl) (by kernel_rfl) (fun _ _ _ h => h) (Or.inl ⟨by rfl, ?yb13⟩) (by assumption) ?rb13
          case yb13 => (intro w hSw; (try dsimp only at hSw); go_simp; try with_reducible rfl)
          simp only [Act.put, List.setIfInBounds_toArray, List.set_cons_zero, List.set_cons_succ]
          refine wpAnyH_take (i := 14) (oi := { dst := Option.some 296, op := Go.Op.fieldAddr 59 (Go.Operand.tmp 295) 1, type := 0, pos := "top17.go:71", after := #[{ on := 13, ground := Go.Ground.data }, { on := 4, ground := Go.Ground.guard }], guard := Option.some (4, Bool.false) }) (v := ?vb14) rfl (by kernel_rfl) (by kernel_rfl) (by kernel_rfl) (fun _ _ _ h => h) (Or.inl ⟨by rfl, ?yb14⟩) (by assumption) ?rb14
          case yb14 => (intro w hSw; (try dsimp only at hSw); go_simp; try with_reducible rfl)
          simp only [Act.put, List.setIfInBounds_toArray, List.set_cons_zero, List.set_cons_succ]
          refine wpAnyH_take (i := 15) (oi := { dst := Option.some 297, op := Go.Op.load 3 (Go.Operand.tmp 296), type := 3, pos := "top17.go:71", after := #[{ on := 14, ground := Go.Ground.data }, { on := 4, ground := Go.Ground.guard }], guard := Option.some (4, Bool.false) }) (v := ?vb15) rfl (by kernel_rfl) (by kernel_rfl) (by kernel_rfl) (fun _ _ _ h => h) (Or.inl ⟨by rfl, ?yb15⟩) (by assumption) ?rb15
          case yb15 => (intro w hSw; (try dsimp only at hSw); go_simp; try with_reducible rfl)
          simp only [Act.put, List.setIfInBounds_toArray, List.set_cons_zero, List.set_cons_succ]
          refine wpAnyH_take (i := 16) (oi := { dst := Option.some 298, op := Go.Op.move (Go.Operand.tmp 1), type := 25, pos := "top17.go:71", after := #[{ on := 4, ground := Go.Ground.guard }], guard := Option.some (4, Bool.false) }) (v := ?vb16) rfl (by kernel_rfl) (by kernel_rfl) (by kernel_rfl) (fun _ _ _ h => h) (Or.inl ⟨by rfl, ?yb16⟩) (by assumption) ?rb16
          case yb16 => (intro w hSw; (try dsimp only at hSw); go_simp; try with_reducible rfl)
          simp only [Act.put, List.setIfInBounds_toArray, List.set_cons_zero, List.set_cons_succ]
          refine wpAnyH_take (i := 17) (oi := { dst := Option.some 299, op := Go.Op.move (Go.Operand.tmp 20), type := 3, pos := "top17.go:71", after := #[{ on := 4, ground := Go.Ground.guard }], guard := Option.some (4, Bool.false) }) (v := ?vb17) rfl (by kernel_rfl) (by kernel_rfl) (by kernel_rfl) (fun _ _ _ h => h) (Or.inl ⟨by rfl, ?yb17⟩) (by assumption) ?rb17
          case yb17 => (intro w hSw; (try dsimp only at hSw); go_simp; try with_reducible rfl)
          simp only [Act.put, List.setIfInBounds_toArray, List.set_cons_zero, List.set_cons_succ]
          refine wpAnyH_take (i := 18) (oi := { dst := Option.some 300, op := Go.Op.indexAddr 25 (Go.Operand.tmp 298) (Go.Operand.tmp 299), type := 0, pos := "top17.go:71", after := #[{ on := 16, ground := Go.Ground.data }, { on := 17, ground := Go.Ground.data }, { on := 4, ground := Go.Ground.guard }], guard := Option.some (4, Bool.false) }) (v := ?vb18) rfl (by kernel_rfl) (by kernel_rfl) (by kernel_rfl) (fun _ _ _ h => h) (Or.inl ⟨by rfl, ?yb18⟩) (by assumption) ?rb18
          case yb18 => (intro w hSw; (try dsimp only at hSw); go_simp; try with_reducible rfl)
          simp only [Act.put, List.setIfInBounds_toArray, List.set_cons_zero, List.set_cons_succ]
          refine wpAnyH_take (i := 19) (oi := { dst := Option.some 301, op := Go.Op.fieldAddr 59 (Go.Operand.tmp 300) 2, type := 0, pos := "top17.go:71", after := #[{ on := 18, ground := Go.Ground.data }, { on := 4, ground := Go.Ground.guard }], guard := Option.some (4, Bool.false) }) (v := ?vb19) rfl (by kernel_rfl) (by kernel_rfl) (by kernel_rfl) (fun _ _ _ h => h) (Or.inl ⟨by rfl, ?yb19⟩) (by assumption) ?rb19
          case yb19 => (intro w hSw; (try dsimp only at hSw); go_simp; try with_reducible rfl)
          simp only [Act.put, List.setIfInBounds_toArray, List.set_cons_zero, List.set_cons_succ]
          refine wpAnyH_take (i := 20) (oi := { dst := Option.some 302, op := Go.Op.load 3 (Go.Operand.tmp 301), type := 3, pos := "top17.go:71", after := #[{ on := 19, ground := Go.Ground.data }, { on := 4, ground := Go.Ground.guard }], guard := Option.some (4, Bool.false) }) (v := ?vb20) rfl (by kernel_rfl) (by kernel_rfl) (by kernel_rfl) (fun _ _ _ h => h) (Or.inl ⟨by rfl, ?yb20⟩) (by assumption) ?rb20
          case yb20 => (intro w hSw; (try dsimp only at hSw); go_simp; try with_reducible rfl)
          simp only [Act.put, List.setIfInBounds_toArray, List.set_cons_zero, List.set_cons_succ]
          refine wpAnyH_ready (rs := [21]) (by kernel_rfl) (by simp) ?_
          refine AllReadyH.cons rfl (fun K hK => ?_) AllReadyH.nil
          go_simp
          refine hK.out _ _ ?_ (fun hHeld => ?_)
          · (go_split_ands; refine ⟨?_, ?_, ?_, ?_⟩ <;> (repeat (first | (with_reducible assumption) | (with_reducible refine cells_drew ?_) | (with_reducible refine cell_drew1 ?_) | (with_reducible refine cells_alloc ?_ (by first | assumption | omega | (simp; omega)) _) | (with_reducible refine cell_alloc1 ?_ (by first | assumption | (dsimp only; omega) | (simp; omega))))))
          clear hK K
          refine wpAnyH_ready (rs := [22]) (by kernel_rfl) (by simp) ?_
          refine AllReadyH.cons rfl (fun K hK => ?_) AllReadyH.nil
          go_simp; go_at_call 17; (refine HTO.out.mono ?_); rintro e w6 ⟨rfl, hw6⟩; have HW6 := Lib.hid hw6; have q0 := blk_cell hw6.box; have q1 := (hw6.out.cell (p := ⟨tb, tof + n * 3, none⟩) HTB.out).trans T0.out; have q2 := (hw6.out.cell (p := ⟨tb, tof + n * 3 + 1, none⟩) HTB.out).trans T1.out; have q3 := (hw6.out.cell (p := ⟨tb, tof + n * 3 + 2, none⟩) HTB.out).trans T2.out; clear hw6; unfold planC plC at q0
          refine hK.out _ _ ?_ (fun hHeld => ?_)
          · (go_split_ands; refine ⟨?_, ?_, ?_, ?_⟩ <;> (repeat (first | (with_reducible assumption) | (with_reducible refine cells_drew ?_) | (with_reducible refine cell_drew1 ?_) | (with_reducible refine cells_alloc ?_ (by first | assumption | omega | (simp; omega)) _) | (with_reducible refine cell_alloc1 ?_ (by first | assumption | (dsimp only; omega) | (simp; omega))))))
          clear hK K
          refine wpAnyH_take (i := 23) (oi := { dst := Option.some 305, op := Go.Op.binOp Go.BinOp.neq 27 (Go.Operand.tmp 304) (Go.Operand.const (Go.Value.int Go.IntKind.i64 0)) 27, type := 4, pos := "top17.go:71", after := #[{ on := 22, ground := Go.Ground.data }, { on := 4, ground := Go.Ground.guard }], guard := Option.some (4, Bool.false) }) (v := ?vb23) rfl (by kernel_rfl) (by kernel_rfl) (by kernel_rfl) (fun _ _ _ h => h) (Or.inl ⟨by rfl, ?yb23⟩) (by assumption) ?rb23
          case yb23 => (intro w hSw; (try dsimp only at hSw); go_simp; try with_reducible rfl)
          simp only [Act.put, List.setIfInBounds_toArray, List.set_cons_zero, List.set_cons_succ]
          refine wpAnyH_take (i := 24) (oi := { dst := Option.some 306, op := Go.Op.pick (Go.Operand.tmp 286) (Go.Operand.const (Go.Value.bool Bool.true)) (Go.Operand.tmp 305), type := 4, pos := "top17.go:71", after := #[{ on := 4, ground := Go.Ground.data }, { on := 23, ground := Go.Ground.data }], guard := Option.none }) (v := ?vb24) rfl (by kernel_rfl) (by kernel_rfl) (by kernel_rfl) (fun _ _ _ h => h) (Or.inl ⟨by rfl, ?yb24⟩) (by assumption) ?rb24
          case yb24 => (intro w hSw; (try dsimp only at hSw); go_simp; try with_reducible rfl)
          simp only [Act.put, List.setIfInBounds_toArray, List.set_cons_zero, List.set_cons_succ]
          refine wpAnyH_take (i := 25) (oi := { dst := Option.some 307, op := Go.Op.move (Go.Operand.tmp 306), type := 4, pos := "top17.go:71", after := #[{ on := 24, ground := Go.Ground.data }, { on := 22, ground := Go.Ground.chain }], guard := Option.none }) (v := ?vb25) rfl (by kernel_rfl) (by kernel_rfl) (by kernel_rfl) (fun _ _ _ h => h) (Or.inl ⟨by rfl, ?yb25⟩) (by assumption) ?rb25
          case yb25 => (intro w hSw; (try dsimp only at hSw); go_simp; try with_reducible rfl)
          simp only [Act.put, List.setIfInBounds_toArray, List.set_cons_zero, List.set_cons_succ]
          refine wpAnyH_take (i := 26) (oi := { dst := Option.some 308, op := Go.Op.move (Go.Operand.tmp 5), type := 26, pos := "top17.go:71", after := #[{ on := 25, ground := Go.Ground.guard }], guard := Option.some (25, Bool.false) }) (v := ?vb26) rfl (by kernel_rfl) (by kernel_rfl) (by kernel_rfl) (fun _ _ _ h => h) (Or.inl ⟨by rfl, ?yb26⟩) (by assumption) ?rb26
          case yb26 => (intro w hSw; (try dsimp only at hSw); go_simp; try with_reducible rfl)
          simp only [Act.put, List.setIfInBounds_toArray, List.set_cons_zero, List.set_cons_succ]
          refine wpAnyH_take (i := 28) (oi := { dst := Option.some 310, op := Go.Op.fieldAddr 24 (Go.Operand.tmp 2) 0, type := 0, pos := "top17.go:71", after := #[{ on := 25, ground := Go.Ground.guard }], guard := Option.some (25, Bool.false) }) (v := ?vb28) rfl (by kernel_rfl) (by kernel_rfl) (by kernel_rfl) (fun _ _ _ h => h) (Or.inl ⟨by rfl, ?yb28⟩) (by assumption) ?rb28
          case yb28 => (intro w hSw; (try dsimp only at hSw); go_simp; try with_reducible rfl)
          simp only [Act.put, List.setIfInBounds_toArray, List.set_cons_zero, List.set_cons_succ]
          refine wpAnyH_take (i := 29) (oi := { dst := Option.some 311, op := Go.Op.load 3 (Go.Operand.tmp 310), type := 3, pos := "top17.go:71", after := #[{ on := 28, ground := Go.Ground.data }, { on := 25, ground := Go.Ground.guard }], guard := Option.some (25, Bool.false) }) (v := ?vb29) rfl (by kernel_rfl) (by kernel_rfl) (by kernel_rfl) (fun _ _ _ h => h) (Or.inl ⟨by rfl, ?yb29⟩) (by assumption) ?rb29
          case yb29 => (intro w hSw; (try dsimp only at hSw); go_simp; try with_reducible rfl)
          simp only [Act.put, List.setIfInBounds_toArray, List.set_cons_zero, List.set_cons_succ]
          refine wpAnyH_ready (rs := [27]) (by kernel_rfl) (by simp) ?_
          refine AllReadyH.cons rfl (fun K hK => ?_) AllReadyH.nil
          go_simp; go_at_call 18; (refine (drift_w HW6.out).mono ?_); rintro e w7 ⟨rfl, rfl⟩
          refine hK.out _ _ ?_ (fun hHeld => ?_)
          · (go_split_ands; refine ⟨?_, ?_, ?_, ?_⟩ <;> (repeat (first | (with_reducible assumption) | (with_reducible refine cells_drew ?_) | (with_reducible refine cell_drew1 ?_) | (with_reducible refine cells_alloc ?_ (by first | assumption | omega | (simp; omega)) _) | (with_reducible refine cell_alloc1 ?_ (by first | assumption | (dsimp only; omega) | (simp; omega))))))
          clear hK K
          refine wpAnyH_take (i := 30) (oi := { dst := Option.some 312, op := Go.Op.binOp Go.BinOp.gtr 3 (Go.Operand.tmp 309) (Go.Operand.tmp 311) 3, type := 4, pos := "top17.go:71", after := #[{ on := 27, ground := Go.Ground.data }, { on := 29, ground := Go.Ground.data }, { on := 25, ground := Go.Ground.guard }], guard := Option.some (25, Bool.false) }) (v := ?vb30) rfl (by kernel_rfl) (by kernel_rfl) (by kernel_rfl) (fun _ _ _ h => h) (Or.inl ⟨by rfl, ?yb30⟩) (by assumption) ?rb30
          case yb30 => (intro w hSw; (try dsimp only at hSw); go_simp; try with_reducible rfl)
          simp only [Act.put, List.setIfInBounds_toArray, List.set_cons_zero, List.set_cons_succ]
          refine wpAnyH_take (i := 31) (oi := { dst := Option.some 313, op := Go.Op.pick (Go.Operand.tmp 307) (Go.Operand.const (Go.Value.bool Bool.true)) (Go.Operand.tmp 312), type := 4, pos := "top17.go:71", after := #[{ on := 25, ground := Go.Ground.data }, { on := 30, ground := Go.Ground.data }], guard := Option.none }) (v := ?vb31) rfl (by kernel_rfl) (by kernel_rfl) (by kernel_rfl) (fun _ _ _ h => h) (Or.inl ⟨by rfl, ?yb31⟩) (by assumption) ?rb31
          case yb31 => (intro w hSw; (try dsimp only at hSw); go_simp; try with_reducible rfl)
          simp only [Act.put, List.setIfInBounds_toArray, List.set_cons_zero, List.set_cons_succ]
          refine wpAnyH_done (by kernel_rfl) ?_ _
          go_wp2_with fail
          go_meet
          exact ⟨rfl, Lib.hid HW6.out.out⟩
        case rest =>
          obtain ⟨rfl, HB⟩ := hcut
          clear b0 l0 k0 k1 s0 s1 s2 ltb
          go_wp2_with fail
          exact HT.out _ _ _ _ _ _ _ _ _ _ _ _ _ _ _ _ _ _ _ _ _ _ _ _ _ _ _ _ _ _ _ _ _ HB.out
      | false =>
        have hdle : c'.drift ≤ P.rho := by have := of_decide_eq_false hdr; omega
        have HI' := Lib.hid (show Inv P (n + 1) (n + 1) (n + 1) gs c' x ol sent by rw [hc']; exact HI.out.tick hE (by rw [← hc']; exact hdle))
        clear hE hc' hdle
        go_upto_region 39 with fail
        go_cut [313] from 282 to 313 (fun u313 wd => u313 = .bool false ∧ Hid (Wd W P pc gc q hb (fun _ => False) c' (LOf P gs) (osOf P gs) x ol wd))
        case first =>
          refine wp_region_held_drew (S := (fun u => (∀ i, u.cell? ⟨W.heap.size, i, none⟩ = #[Value.int .i64 P.rho, Value.int .i64 P.T, Value.int .i64 P.sent, Value.int .i64 P.granted, Value.int .i64 P.come, Value.int .i64 P.renews, Value.string P.pa, Value.int .i64 P.m][i]?) ∧ u.cell? ⟨tb, tof + n * 3, none⟩ = some (.int .i64 d) ∧ u.cell? ⟨tb, tof + n * 3 + 1, none⟩ = some (.int .i64 tg) ∧ u.cell? ⟨tb, tof + n * 3 + 2, none⟩ = some (.int .i64 th))) (by kernel_rfl) ?_ (fun hHeld => ?_)
          · (go_split_ands; refine ⟨?_, ?_, ?_, ?_⟩ <;> (repeat (first | (with_reducible assumption) | (with_reducible refine cells_drew ?_) | (with_reducible refine cell_drew1 ?_) | (with_reducible refine cells_alloc ?_ (by first | assumption | omega | (simp; omega)) _) | (with_reducible refine cell_alloc1 ?_ (by first | assumption | (dsimp only; omega) | (simp; omega))))))
          refine wpAnyH_take (i := 0) (oi := { dst := Option.some 282, op := Go.Op.move (Go.Operand.tmp 20), type := 3, pos := "top17.go:71", after := #[], guard := Option.none }) (v := ?vc0) rfl (by kernel_rfl) (by kernel_rfl) (by kernel_rfl) (fun _ _ _ h => h) (Or.inl ⟨by rfl, ?yc0⟩) (by assumption) ?rc0
          case yc0 => (intro w hSw; (try dsimp only at hSw); go_simp; try with_reducible rfl)
          simp only [Act.put, List.setIfInBounds_toArray, List.set_cons_zero, List.set_cons_succ]
          refine wpAnyH_take (i := 1) (oi := { dst := Option.some 283, op := Go.Op.move (Go.Operand.tmp 1), type := 25, pos := "top17.go:71", after := #[], guard := Option.none }) (v := ?vc1) rfl (by kernel_rfl) (by kernel_rfl) (by kernel_rfl) (fun _ _ _ h => h) (Or.inl ⟨by rfl, ?yc1⟩) (by assumption) ?rc1
          case yc1 => (intro w hSw; (try dsimp only at hSw); go_simp; try with_reducible rfl)
          simp only [Act.put, List.setIfInBounds_toArray, List.set_cons_zero, List.set_cons_succ]
          refine wpAnyH_take (i := 2) (oi := { dst := Option.some 284, op := Go.Op.call { callee := Go.Callee.builtin Go.Builtin.len, args := #[Go.Operand.tmp 283], argTypes := #[25] }, type := 3, pos := "top17.go:71", after := #[{ on := 1, ground := Go.Ground.data }], guard := Option.none }) (v := ?vc2) rfl (by kernel_rfl) (by kernel_rfl) (by kernel_rfl) (fun _ _ _ h => h) (Or.inl ⟨by rfl, ?yc2⟩) (by assumption) ?rc2
          case yc2 => (intro w hSw; (try dsimp only at hSw); go_simp; try with_reducible rfl)
          simp only [Act.put, List.setIfInBounds_toArray, List.set_cons_zero, List.set_cons_succ]
          refine wpAnyH_take (i := 3) (oi := { dst := Option.some 285, op := Go.Op.binOp Go.BinOp.eql 3 (Go.Operand.tmp 282) (Go.Operand.tmp 284) 3, type := 4, pos := "top17.go:71", after := #[{ on := 0, ground := Go.Ground.data }, { on := 2, ground := Go.Ground.data }], guard := Option.none }) (v := ?vc3) rfl (by kernel_rfl) (by kernel_rfl) (by kernel_rfl) (fun _ _ _ h => h) (Or.inl ⟨by rfl, ?yc3⟩) (by assumption) ?rc3
          case yc3 => (intro w hSw; (try dsimp only at hSw); go_simp; try with_reducible rfl)
          simp only [Act.put, List.setIfInBounds_toArray, List.set_cons_zero, List.set_cons_succ]
          refine wpAnyH_take (i := 4) (oi := { dst := Option.some 286, op := Go.Op.move (Go.Operand.tmp 285), type := 4, pos := "top17.go:71", after := #[{ on := 3, ground := Go.Ground.data }], guard := Option.none }) (v := ?vc4) rfl (by kernel_rfl) (by kernel_rfl) (by kernel_rfl) (fun _ _ _ h => h) (Or.inl ⟨by rfl, ?yc4⟩) (by assumption) ?rc4
          case yc4 => (intro w hSw; (try dsimp only at hSw); go_simp; try with_reducible rfl)
          simp only [Act.put, List.setIfInBounds_toArray, List.set_cons_zero, List.set_cons_succ]
          refine wpAnyH_take (i := 5) (oi := { dst := Option.some 287, op := Go.Op.move (Go.Operand.tmp 5), type := 26, pos := "top17.go:71", after := #[{ on := 4, ground := Go.Ground.guard }], guard := Option.some (4, Bool.false) }) (v := ?vc5) rfl (by kernel_rfl) (by kernel_rfl) (by kernel_rfl) (fun _ _ _ h => h) (Or.inl ⟨by rfl, ?yc5⟩) (by assumption) ?rc5
          case yc5 => (intro w hSw; (try dsimp only at hSw); go_simp; try with_reducible rfl)
          simp only [Act.put, List.setIfInBounds_toArray, List.set_cons_zero, List.set_cons_succ]
          refine wpAnyH_take (i := 6) (oi := { dst := Option.some 288, op := Go.Op.move (Go.Operand.tmp 1), type := 25, pos := "top17.go:71", after := #[{ on := 4, ground := Go.Ground.guard }], guard := Option.some (4, Bool.false) }) (v := ?vc6) rfl (by kernel_rfl) (by kernel_rfl) (by kernel_rfl) (fun _ _ _ h => h) (Or.inl ⟨by rfl, ?yc6⟩) (by assumption) ?rc6
          case yc6 => (intro w hSw; (try dsimp only at hSw); go_simp; try with_reducible rfl)
          simp only [Act.put, List.setIfInBounds_toArray, List.set_cons_zero, List.set_cons_succ]
          refine wpAnyH_take (i := 7) (oi := { dst := Option.some 289, op := Go.Op.move (Go.Operand.tmp 20), type := 3, pos := "top17.go:71", after := #[{ on := 4, ground := Go.Ground.guard }], guard := Option.some (4, Bool.false) }) (v := ?vc7) rfl (by kernel_rfl) (by kernel_rfl) (by kernel_rfl) (fun _ _ _ h => h) (Or.inl ⟨by rfl, ?yc7⟩) (by assumption) ?rc7
          case yc7 => (intro w hSw; (try dsimp only at hSw); go_simp; try with_reducible rfl)
          simp only [Act.put, List.setIfInBounds_toArray, List.set_cons_zero, List.set_cons_succ]
          refine wpAnyH_take (i := 8) (oi := { dst := Option.some 290, op := Go.Op.indexAddr 25 (Go.Operand.tmp 288) (Go.Operand.tmp 289), type := 0, pos := "top17.go:71", after := #[{ on := 6, ground := Go.Ground.data }, { on := 7, ground := Go.Ground.data }, { on := 4, ground := Go.Ground.guard }], guard := Option.some (4, Bool.false) }) (v := ?vc8) rfl (by kernel_rfl) (by kernel_rfl) (by kernel_rfl) (fun _ _ _ h => h) (Or.inl ⟨by rfl, ?yc8⟩) (by assumption) ?rc8
          case yc8 => (intro w hSw; (try dsimp only at hSw); go_simp; try with_reducible rfl)
          simp only [Act.put, List.setIfInBounds_toArray, List.set_cons_zero, List.set_cons_succ]
          refine wpAnyH_take (i := 9) (oi := { dst := Option.some 291, op := Go.Op.fieldAddr 59 (Go.Operand.tmp 290) 0, type := 0, pos := "top17.go:71", after := #[{ on := 8, ground := Go.Ground.data }, { on := 4, ground := Go.Ground.guard }], guard := Option.some (4, Bool.false) }) (v := ?vc9) rfl (by kernel_rfl) (by kernel_rfl) (by kernel_rfl) (fun _ _ _ h => h) (Or.inl ⟨by rfl, ?yc9⟩) (by assumption) ?rc9
          case yc9 => (intro w hSw; (try dsimp only at hSw); go_simp; try with_reducible rfl)
          simp only [Act.put, List.setIfInBounds_toArray, List.set_cons_zero, List.set_cons_succ]
          refine wpAnyH_take (i := 10) (oi := { dst := Option.some 292, op := Go.Op.load 3 (Go.Operand.tmp 291), type := 3, pos := "top17.go:71", after := #[{ on := 9, ground := Go.Ground.data }, { on := 4, ground := Go.Ground.guard }], guard := Option.some (4, Bool.false) }) (v := ?vc10) rfl (by kernel_rfl) (by kernel_rfl) (by kernel_rfl) (fun _ _ _ h => h) (Or.inl ⟨by rfl, ?yc10⟩) (by assumption) ?rc10
          case yc10 => (intro w hSw; (try dsimp only at hSw); go_simp; try with_reducible rfl)
          simp only [Act.put, List.setIfInBounds_toArray, List.set_cons_zero, List.set_cons_succ]
          refine wpAnyH_take (i := 11) (oi := { dst := Option.some 293, op := Go.Op.move (Go.Operand.tmp 1), type := 25, pos := "top17.go:71", after := #[{ on := 4, ground := Go.Ground.guard }], guard := Option.some (4, Bool.false) }) (v := ?vc11) rfl (by kernel_rfl) (by kernel_rfl) (by kernel_rfl) (fun _ _ _ h => h) (Or.inl ⟨by rfl, ?yc11⟩) (by assumption) ?rc11
          case yc11 => (intro w hSw; (try dsimp only at hSw); go_simp; try with_reducible rfl)
          simp only [Act.put, List.setIfInBounds_toArray, List.set_cons_zero, List.set_cons_succ]
          refine wpAnyH_take (i := 12) (oi := { dst := Option.some 294, op := Go.Op.move (Go.Operand.tmp 20), type := 3, pos := "top17.go:71", after := #[{ on := 4, ground := Go.Ground.guard }], guard := Option.some (4, Bool.false) }) (v := ?vc12) rfl (by kernel_rfl) (by kernel_rfl) (by kernel_rfl) (fun _ _ _ h => h) (Or.inl ⟨by rfl, ?yc12⟩) (by assumption) ?rc12
          case yc12 => (intro w hSw; (try dsimp only at hSw); go_simp; try with_reducible rfl)
          simp only [Act.put, List.setIfInBounds_toArray, List.set_cons_zero, List.set_cons_succ]
          refine wpAnyH_take (i := 13) (oi := { dst := Option.some 295, op := Go.Op.indexAddr 25 (Go.Operand.tmp 293) (Go.Operand.tmp 294), type := 0, pos := "top17.go:71", after := #[{ on := 11, ground := Go.Ground.data }, { on := 12, ground := Go.Ground.data }, { on := 4, ground := Go.Ground.guard }], guard := Option.some (4, Bool.false) }) (v := ?vc13) rfl (by kernel_rfl) (by kernel_rfl) (by kernel_rfl) (fun _ _ _ h => h) (Or.inl ⟨by rfl, ?yc13⟩) (by assumption) ?rc13
          case yc13 => (intro w hSw; (try dsimp only at hSw); go_simp; try with_reducible rfl)
          simp only [Act.put, List.setIfInBounds_toArray, List.set_cons_zero, List.set_cons_succ]
          refine wpAnyH_take (i := 14) (oi := { dst := Option.some 296, op := Go.Op.fieldAddr 59 (Go.Operand.tmp 295) 1, type := 0, pos := "top17.go:71", after := #[{ on := 13, ground := Go.Ground.data }, { on := 4, ground := Go.Ground.guard }], guard := Option.some (4, Bool.false) }) (v := ?vc14) rfl (by kernel_rfl) (by kernel_rfl) (by kernel_rfl) (fun _ _ _ h => h) (Or.inl ⟨by rfl, ?yc14⟩) (by assumption) ?rc14
          case yc14 => (intro w hSw; (try dsimp only at hSw); go_simp; try with_reducible rfl)
          simp only [Act.put, List.setIfInBounds_toArray, List.set_cons_zero, List.set_cons_succ]
          refine wpAnyH_take (i := 15) (oi := { dst := Option.some 297, op := Go.Op.load 3 (Go.Operand.tmp 296), type := 3, pos := "top17.go:71", after := #[{ on := 14, ground := Go.Ground.data }, { on := 4, ground := Go.Ground.guard }], guard := Option.some (4, Bool.false) }) (v := ?vc15) rfl (by kernel_rfl) (by kernel_rfl) (by kernel_rfl) (fun _ _ _ h => h) (Or.inl ⟨by rfl, ?yc15⟩) (by assumption) ?rc15
          case yc15 => (intro w hSw; (try dsimp only at hSw); go_simp; try with_reducible rfl)
          simp only [Act.put, List.setIfInBounds_toArray, List.set_cons_zero, List.set_cons_succ]
          refine wpAnyH_take (i := 16) (oi := { dst := Option.some 298, op := Go.Op.move (Go.Operand.tmp 1), type := 25, pos := "top17.go:71", after := #[{ on := 4, ground := Go.Ground.guard }], guard := Option.some (4, Bool.false) }) (v := ?vc16) rfl (by kernel_rfl) (by kernel_rfl) (by kernel_rfl) (fun _ _ _ h => h) (Or.inl ⟨by rfl, ?yc16⟩) (by assumption) ?rc16
          case yc16 => (intro w hSw; (try dsimp only at hSw); go_simp; try with_reducible rfl)
          simp only [Act.put, List.setIfInBounds_toArray, List.set_cons_zero, List.set_cons_succ]
          refine wpAnyH_take (i := 17) (oi := { dst := Option.some 299, op := Go.Op.move (Go.Operand.tmp 20), type := 3, pos := "top17.go:71", after := #[{ on := 4, ground := Go.Ground.guard }], guard := Option.some (4, Bool.false) }) (v := ?vc17) rfl (by kernel_rfl) (by kernel_rfl) (by kernel_rfl) (fun _ _ _ h => h) (Or.inl ⟨by rfl, ?yc17⟩) (by assumption) ?rc17
          case yc17 => (intro w hSw; (try dsimp only at hSw); go_simp; try with_reducible rfl)
          simp only [Act.put, List.setIfInBounds_toArray, List.set_cons_zero, List.set_cons_succ]
          refine wpAnyH_take (i := 18) (oi := { dst := Option.some 300, op := Go.Op.indexAddr 25 (Go.Operand.tmp 298) (Go.Operand.tmp 299), type := 0, pos := "top17.go:71", after := #[{ on := 16, ground := Go.Ground.data }, { on := 17, ground := Go.Ground.data }, { on := 4, ground := Go.Ground.guard }], guard := Option.some (4, Bool.false) }) (v := ?vc18) rfl (by kernel_rfl) (by kernel_rfl) (by kernel_rfl) (fun _ _ _ h => h) (Or.inl ⟨by rfl, ?yc18⟩) (by assumption) ?rc18
          case yc18 => (intro w hSw; (try dsimp only at hSw); go_simp; try with_reducible rfl)
          simp only [Act.put, List.setIfInBounds_toArray, List.set_cons_zero, List.set_cons_succ]
          refine wpAnyH_take (i := 19) (oi := { dst := Option.some 301, op := Go.Op.fieldAddr 59 (Go.Operand.tmp 300) 2, type := 0, pos := "top17.go:71", after := #[{ on := 18, ground := Go.Ground.data }, { on := 4, ground := Go.Ground.guard }], guard := Option.some (4, Bool.false) }) (v := ?vc19) rfl (by kernel_rfl) (by kernel_rfl) (by kernel_rfl) (fun _ _ _ h => h) (Or.inl ⟨by rfl, ?yc19⟩) (by assumption) ?rc19
          case yc19 => (intro w hSw; (try dsimp only at hSw); go_simp; try with_reducible rfl)
          simp only [Act.put, List.setIfInBounds_toArray, List.set_cons_zero, List.set_cons_succ]
          refine wpAnyH_take (i := 20) (oi := { dst := Option.some 302, op := Go.Op.load 3 (Go.Operand.tmp 301), type := 3, pos := "top17.go:71", after := #[{ on := 19, ground := Go.Ground.data }, { on := 4, ground := Go.Ground.guard }], guard := Option.some (4, Bool.false) }) (v := ?vc20) rfl (by kernel_rfl) (by kernel_rfl) (by kernel_rfl) (fun _ _ _ h => h) (Or.inl ⟨by rfl, ?yc20⟩) (by assumption) ?rc20
          case yc20 => (intro w hSw; (try dsimp only at hSw); go_simp; try with_reducible rfl)
          simp only [Act.put, List.setIfInBounds_toArray, List.set_cons_zero, List.set_cons_succ]
          refine wpAnyH_ready (rs := [21]) (by kernel_rfl) (by simp) ?_
          refine AllReadyH.cons rfl (fun K hK => ?_) AllReadyH.nil
          go_simp
          refine hK.out _ _ ?_ (fun hHeld => ?_)
          · (go_split_ands; refine ⟨?_, ?_, ?_, ?_⟩ <;> (repeat (first | (with_reducible assumption) | (with_reducible refine cells_drew ?_) | (with_reducible refine cell_drew1 ?_) | (with_reducible refine cells_alloc ?_ (by first | assumption | omega | (simp; omega)) _) | (with_reducible refine cell_alloc1 ?_ (by first | assumption | (dsimp only; omega) | (simp; omega))))))
          clear hK K
          refine wpAnyH_ready (rs := [22]) (by kernel_rfl) (by simp) ?_
          refine AllReadyH.cons rfl (fun K hK => ?_) AllReadyH.nil
          go_simp; go_at_call 17; (refine HTO.out.mono ?_); rintro e w6 ⟨rfl, hw6⟩; have HW6 := Lib.hid hw6; have q0 := blk_cell hw6.box; have q1 := (hw6.out.cell (p := ⟨tb, tof + n * 3, none⟩) HTB.out).trans T0.out; have q2 := (hw6.out.cell (p := ⟨tb, tof + n * 3 + 1, none⟩) HTB.out).trans T1.out; have q3 := (hw6.out.cell (p := ⟨tb, tof + n * 3 + 2, none⟩) HTB.out).trans T2.out; clear hw6; unfold planC plC at q0
          refine hK.out _ _ ?_ (fun hHeld => ?_)
          · (go_split_ands; refine ⟨?_, ?_, ?_, ?_⟩ <;> (repeat (first | (with_reducible assumption) | (with_reducible refine cells_drew ?_) | (with_reducible refine cell_drew1 ?_) | (with_reducible refine cells_alloc ?_ (by first | assumption | omega | (simp; omega)) _) | (with_reducible refine cell_alloc1 ?_ (by first | assumption | (dsimp only; omega) | (simp; omega))))))
          clear hK K
          refine wpAnyH_take (i := 23) (oi := { dst := Option.some 305, op := Go.Op.binOp Go.BinOp.neq 27 (Go.Operand.tmp 304) (Go.Operand.const (Go.Value.int Go.IntKind.i64 0)) 27, type := 4, pos := "top17.go:71", after := #[{ on := 22, ground := Go.Ground.data }, { on := 4, ground := Go.Ground.guard }], guard := Option.some (4, Bool.false) }) (v := ?vc23) rfl (by kernel_rfl) (by kernel_rfl) (by kernel_rfl) (fun _ _ _ h => h) (Or.inl ⟨by rfl, ?yc23⟩) (by assumption) ?rc23
          case yc23 => (intro w hSw; (try dsimp only at hSw); go_simp; try with_reducible rfl)
          simp only [Act.put, List.setIfInBounds_toArray, List.set_cons_zero, List.set_cons_succ]
          refine wpAnyH_take (i := 24) (oi := { dst := Option.some 306, op := Go.Op.pick (Go.Operand.tmp 286) (Go.Operand.const (Go.Value.bool Bool.true)) (Go.Operand.tmp 305), type := 4, pos := "top17.go:71", after := #[{ on := 4, ground := Go.Ground.data }, { on := 23, ground := Go.Ground.data }], guard := Option.none }) (v := ?vc24) rfl (by kernel_rfl) (by kernel_rfl) (by kernel_rfl) (fun _ _ _ h => h) (Or.inl ⟨by rfl, ?yc24⟩) (by assumption) ?rc24
          case yc24 => (intro w hSw; (try dsimp only at hSw); go_simp; try with_reducible rfl)
          simp only [Act.put, List.setIfInBounds_toArray, List.set_cons_zero, List.set_cons_succ]
          refine wpAnyH_take (i := 25) (oi := { dst := Option.some 307, op := Go.Op.move (Go.Operand.tmp 306), type := 4, pos := "top17.go:71", after := #[{ on := 24, ground := Go.Ground.data }, { on := 22, ground := Go.Ground.chain }], guard := Option.none }) (v := ?vc25) rfl (by kernel_rfl) (by kernel_rfl) (by kernel_rfl) (fun _ _ _ h => h) (Or.inl ⟨by rfl, ?yc25⟩) (by assumption) ?rc25
          case yc25 => (intro w hSw; (try dsimp only at hSw); go_simp; try with_reducible rfl)
          simp only [Act.put, List.setIfInBounds_toArray, List.set_cons_zero, List.set_cons_succ]
          refine wpAnyH_take (i := 26) (oi := { dst := Option.some 308, op := Go.Op.move (Go.Operand.tmp 5), type := 26, pos := "top17.go:71", after := #[{ on := 25, ground := Go.Ground.guard }], guard := Option.some (25, Bool.false) }) (v := ?vc26) rfl (by kernel_rfl) (by kernel_rfl) (by kernel_rfl) (fun _ _ _ h => h) (Or.inl ⟨by rfl, ?yc26⟩) (by assumption) ?rc26
          case yc26 => (intro w hSw; (try dsimp only at hSw); go_simp; try with_reducible rfl)
          simp only [Act.put, List.setIfInBounds_toArray, List.set_cons_zero, List.set_cons_succ]
          refine wpAnyH_take (i := 28) (oi := { dst := Option.some 310, op := Go.Op.fieldAddr 24 (Go.Operand.tmp 2) 0, type := 0, pos := "top17.go:71", after := #[{ on := 25, ground := Go.Ground.guard }], guard := Option.some (25, Bool.false) }) (v := ?vc28) rfl (by kernel_rfl) (by kernel_rfl) (by kernel_rfl) (fun _ _ _ h => h) (Or.inl ⟨by rfl, ?yc28⟩) (by assumption) ?rc28
          case yc28 => (intro w hSw; (try dsimp only at hSw); go_simp; try with_reducible rfl)
          simp only [Act.put, List.setIfInBounds_toArray, List.set_cons_zero, List.set_cons_succ]
          refine wpAnyH_take (i := 29) (oi := { dst := Option.some 311, op := Go.Op.load 3 (Go.Operand.tmp 310), type := 3, pos := "top17.go:71", after := #[{ on := 28, ground := Go.Ground.data }, { on := 25, ground := Go.Ground.guard }], guard := Option.some (25, Bool.false) }) (v := ?vc29) rfl (by kernel_rfl) (by kernel_rfl) (by kernel_rfl) (fun _ _ _ h => h) (Or.inl ⟨by rfl, ?yc29⟩) (by assumption) ?rc29
          case yc29 => (intro w hSw; (try dsimp only at hSw); go_simp; try with_reducible rfl)
          simp only [Act.put, List.setIfInBounds_toArray, List.set_cons_zero, List.set_cons_succ]
          refine wpAnyH_ready (rs := [27]) (by kernel_rfl) (by simp) ?_
          refine AllReadyH.cons rfl (fun K hK => ?_) AllReadyH.nil
          go_simp; go_at_call 18; (refine (drift_w HW6.out).mono ?_); rintro e w7 ⟨rfl, rfl⟩
          refine hK.out _ _ ?_ (fun hHeld => ?_)
          · (go_split_ands; refine ⟨?_, ?_, ?_, ?_⟩ <;> (repeat (first | (with_reducible assumption) | (with_reducible refine cells_drew ?_) | (with_reducible refine cell_drew1 ?_) | (with_reducible refine cells_alloc ?_ (by first | assumption | omega | (simp; omega)) _) | (with_reducible refine cell_alloc1 ?_ (by first | assumption | (dsimp only; omega) | (simp; omega))))))
          clear hK K
          refine wpAnyH_take (i := 30) (oi := { dst := Option.some 312, op := Go.Op.binOp Go.BinOp.gtr 3 (Go.Operand.tmp 309) (Go.Operand.tmp 311) 3, type := 4, pos := "top17.go:71", after := #[{ on := 27, ground := Go.Ground.data }, { on := 29, ground := Go.Ground.data }, { on := 25, ground := Go.Ground.guard }], guard := Option.some (25, Bool.false) }) (v := ?vc30) rfl (by kernel_rfl) (by kernel_rfl) (by kernel_rfl) (fun _ _ _ h => h) (Or.inl ⟨by rfl, ?yc30⟩) (by assumption) ?rc30
          case yc30 => (intro w hSw; (try dsimp only at hSw); go_simp; try with_reducible rfl)
          simp only [Act.put, List.setIfInBounds_toArray, List.set_cons_zero, List.set_cons_succ]
          refine wpAnyH_take (i := 31) (oi := { dst := Option.some 313, op := Go.Op.pick (Go.Operand.tmp 307) (Go.Operand.const (Go.Value.bool Bool.true)) (Go.Operand.tmp 312), type := 4, pos := "top17.go:71", after := #[{ on := 25, ground := Go.Ground.data }, { on := 30, ground := Go.Ground.data }], guard := Option.none }) (v := ?vc31) rfl (by kernel_rfl) (by kernel_rfl) (by kernel_rfl) (fun _ _ _ h => h) (Or.inl ⟨by rfl, ?yc31⟩) (by assumption) ?rc31
          case yc31 => (intro w hSw; (try dsimp only at hSw); go_simp; try with_reducible rfl)
          simp only [Act.put, List.setIfInBounds_toArray, List.set_cons_zero, List.set_cons_succ]
          refine wpAnyH_done (by kernel_rfl) ?_ _
          go_wp2_with fail
          go_meet
          exact ⟨rfl, HW6⟩
        case rest =>
          obtain ⟨rfl, HB⟩ := hcut
          obtain ⟨g', h', hgh⟩ := HI'.out.two
          have HGH := Lib.hid hgh
          clear b0 l0 k0 k1 s0 s1 s2 ltb hgh
          go_wp2_with fail
          exact HR.out _ _ _ _ _ _ _ _ _ _ _ _ _ _ _ _ _ _ _ _ _ _ _ _ _ _ _ _ _ _ _ _ _ c' g' h' _ HGH.out HI'.out HB.out
    · have HE := Lib.hid hE
      clear hE hc'
      go_upto_region 39 with fail
      go_cut [313] from 282 to 313 (fun u313 wd => u313 = .bool true ∧ Hid (Below W.heap.size W wd))
      case first =>
        refine wp_region_held_drew (S := (fun u => (∀ i, u.cell? ⟨W.heap.size, i, none⟩ = #[Value.int .i64 P.rho, Value.int .i64 P.T, Value.int .i64 P.sent, Value.int .i64 P.granted, Value.int .i64 P.come, Value.int .i64 P.renews, Value.string P.pa, Value.int .i64 P.m][i]?) ∧ u.cell? ⟨tb, tof + n * 3, none⟩ = some (.int .i64 d) ∧ u.cell? ⟨tb, tof + n * 3 + 1, none⟩ = some (.int .i64 tg) ∧ u.cell? ⟨tb, tof + n * 3 + 2, none⟩ = some (.int .i64 th))) (by kernel_rfl) ?_ (fun hHeld => ?_)
        · (go_split_ands; refine ⟨?_, ?_, ?_, ?_⟩ <;> (repeat (first | (with_reducible assumption) | (with_reducible refine cells_drew ?_) | (with_reducible refine cell_drew1 ?_) | (with_reducible refine cells_alloc ?_ (by first | assumption | omega | (simp; omega)) _) | (with_reducible refine cell_alloc1 ?_ (by first | assumption | (dsimp only; omega) | (simp; omega))))))
        refine wpAnyH_take (i := 0) (oi := { dst := Option.some 282, op := Go.Op.move (Go.Operand.tmp 20), type := 3, pos := "top17.go:71", after := #[], guard := Option.none }) (v := ?vd0) rfl (by kernel_rfl) (by kernel_rfl) (by kernel_rfl) (fun _ _ _ h => h) (Or.inl ⟨by rfl, ?yd0⟩) (by assumption) ?rd0
        case yd0 => (intro w hSw; (try dsimp only at hSw); go_simp; try with_reducible rfl)
        simp only [Act.put, List.setIfInBounds_toArray, List.set_cons_zero, List.set_cons_succ]
        refine wpAnyH_take (i := 1) (oi := { dst := Option.some 283, op := Go.Op.move (Go.Operand.tmp 1), type := 25, pos := "top17.go:71", after := #[], guard := Option.none }) (v := ?vd1) rfl (by kernel_rfl) (by kernel_rfl) (by kernel_rfl) (fun _ _ _ h => h) (Or.inl ⟨by rfl, ?yd1⟩) (by assumption) ?rd1
        case yd1 => (intro w hSw; (try dsimp only at hSw); go_simp; try with_reducible rfl)
        simp only [Act.put, List.setIfInBounds_toArray, List.set_cons_zero, List.set_cons_succ]
        refine wpAnyH_take (i := 2) (oi := { dst := Option.some 284, op := Go.Op.call { callee := Go.Callee.builtin Go.Builtin.len, args := #[Go.Operand.tmp 283], argTypes := #[25] }, type := 3, pos := "top17.go:71", after := #[{ on := 1, ground := Go.Ground.data }], guard := Option.none }) (v := ?vd2) rfl (by kernel_rfl) (by kernel_rfl) (by kernel_rfl) (fun _ _ _ h => h) (Or.inl ⟨by rfl, ?yd2⟩) (by assumption) ?rd2
        case yd2 => (intro w hSw; (try dsimp only at hSw); go_simp; try with_reducible rfl)
        simp only [Act.put, List.setIfInBounds_toArray, List.set_cons_zero, List.set_cons_succ]
        refine wpAnyH_take (i := 3) (oi := { dst := Option.some 285, op := Go.Op.binOp Go.BinOp.eql 3 (Go.Operand.tmp 282) (Go.Operand.tmp 284) 3, type := 4, pos := "top17.go:71", after := #[{ on := 0, ground := Go.Ground.data }, { on := 2, ground := Go.Ground.data }], guard := Option.none }) (v := ?vd3) rfl (by kernel_rfl) (by kernel_rfl) (by kernel_rfl) (fun _ _ _ h => h) (Or.inl ⟨by rfl, ?yd3⟩) (by assumption) ?rd3
        case yd3 => (intro w hSw; (try dsimp only at hSw); go_simp; try with_reducible rfl)
        simp only [Act.put, List.setIfInBounds_toArray, List.set_cons_zero, List.set_cons_succ]
        refine wpAnyH_take (i := 4) (oi := { dst := Option.some 286, op := Go.Op.move (Go.Operand.tmp 285), type := 4, pos := "top17.go:71", after := #[{ on := 3, ground := Go.Ground.data }], guard := Option.none }) (v := ?vd4) rfl (by kernel_rfl) (by kernel_rfl) (by kernel_rfl) (fun _ _ _ h => h) (Or.inl ⟨by rfl, ?yd4⟩) (by assumption) ?rd4
        case yd4 => (intro w hSw; (try dsimp only at hSw); go_simp; try with_reducible rfl)
        simp only [Act.put, List.setIfInBounds_toArray, List.set_cons_zero, List.set_cons_succ]
        refine wpAnyH_take (i := 5) (oi := { dst := Option.some 287, op := Go.Op.move (Go.Operand.tmp 5), type := 26, pos := "top17.go:71", after := #[{ on := 4, ground := Go.Ground.guard }], guard := Option.some (4, Bool.false) }) (v := ?vd5) rfl (by kernel_rfl) (by kernel_rfl) (by kernel_rfl) (fun _ _ _ h => h) (Or.inl ⟨by rfl, ?yd5⟩) (by assumption) ?rd5
        case yd5 => (intro w hSw; (try dsimp only at hSw); go_simp; try with_reducible rfl)
        simp only [Act.put, List.setIfInBounds_toArray, List.set_cons_zero, List.set_cons_succ]
        refine wpAnyH_take (i := 6) (oi := { dst := Option.some 288, op := Go.Op.move (Go.Operand.tmp 1), type := 25, pos := "top17.go:71", after := #[{ on := 4, ground := Go.Ground.guard }], guard := Option.some (4, Bool.false) }) (v := ?vd6) rfl (by kernel_rfl) (by kernel_rfl) (by kernel_rfl) (fun _ _ _ h => h) (Or.inl ⟨by rfl, ?yd6⟩) (by assumption) ?rd6
        case yd6 => (intro w hSw; (try dsimp only at hSw); go_simp; try with_reducible rfl)
        simp only [Act.put, List.setIfInBounds_toArray, List.set_cons_zero, List.set_cons_succ]
        refine wpAnyH_take (i := 7) (oi := { dst := Option.some 289, op := Go.Op.move (Go.Operand.tmp 20), type := 3, pos := "top17.go:71", after := #[{ on := 4, ground := Go.Ground.guard }], guard := Option.some (4, Bool.false) }) (v := ?vd7) rfl (by kernel_rfl) (by kernel_rfl) (by kernel_rfl) (fun _ _ _ h => h) (Or.inl ⟨by rfl, ?yd7⟩) (by assumption) ?rd7
        case yd7 => (intro w hSw; (try dsimp only at hSw); go_simp; try with_reducible rfl)
        simp only [Act.put, List.setIfInBounds_toArray, List.set_cons_zero, List.set_cons_succ]
        refine wpAnyH_take (i := 8) (oi := { dst := Option.some 290, op := Go.Op.indexAddr 25 (Go.Operand.tmp 288) (Go.Operand.tmp 289), type := 0, pos := "top17.go:71", after := #[{ on := 6, ground := Go.Ground.data }, { on := 7, ground := Go.Ground.data }, { on := 4, ground := Go.Ground.guard }], guard := Option.some (4, Bool.false) }) (v := ?vd8) rfl (by kernel_rfl) (by kernel_rfl) (by kernel_rfl) (fun _ _ _ h => h) (Or.inl ⟨by rfl, ?yd8⟩) (by assumption) ?rd8
        case yd8 => (intro w hSw; (try dsimp only at hSw); go_simp; try with_reducible rfl)
        simp only [Act.put, List.setIfInBounds_toArray, List.set_cons_zero, List.set_cons_succ]
        refine wpAnyH_take (i := 9) (oi := { dst := Option.some 291, op := Go.Op.fieldAddr 59 (Go.Operand.tmp 290) 0, type := 0, pos := "top17.go:71", after := #[{ on := 8, ground := Go.Ground.data }, { on := 4, ground := Go.Ground.guard }], guard := Option.some (4, Bool.false) }) (v := ?vd9) rfl (by kernel_rfl) (by kernel_rfl) (by kernel_rfl) (fun _ _ _ h => h) (Or.inl ⟨by rfl, ?yd9⟩) (by assumption) ?rd9
        case yd9 => (intro w hSw; (try dsimp only at hSw); go_simp; try with_reducible rfl)
        simp only [Act.put, List.setIfInBounds_toArray, List.set_cons_zero, List.set_cons_succ]
        refine wpAnyH_take (i := 10) (oi := { dst := Option.some 292, op := Go.Op.load 3 (Go.Operand.tmp 291), type := 3, pos := "top17.go:71", after := #[{ on := 9, ground := Go.Ground.data }, { on := 4, ground := Go.Ground.guard }], guard := Option.some (4, Bool.false) }) (v := ?vd10) rfl (by kernel_rfl) (by kernel_rfl) (by kernel_rfl) (fun _ _ _ h => h) (Or.inl ⟨by rfl, ?yd10⟩) (by assumption) ?rd10
        case yd10 => (intro w hSw; (try dsimp only at hSw); go_simp; try with_reducible rfl)
        simp only [Act.put, List.setIfInBounds_toArray, List.set_cons_zero, List.set_cons_succ]
        refine wpAnyH_take (i := 11) (oi := { dst := Option.some 293, op := Go.Op.move (Go.Operand.tmp 1), type := 25, pos := "top17.go:71", after := #[{ on := 4, ground := Go.Ground.guard }], guard := Option.some (4, Bool.false) }) (v := ?vd11) rfl (by kernel_rfl) (by kernel_rfl) (by kernel_rfl) (fun _ _ _ h => h) (Or.inl ⟨by rfl, ?yd11⟩) (by assumption) ?rd11
        case yd11 => (intro w hSw; (try dsimp only at hSw); go_simp; try with_reducible rfl)
        simp only [Act.put, List.setIfInBounds_toArray, List.set_cons_zero, List.set_cons_succ]
        refine wpAnyH_take (i := 12) (oi := { dst := Option.some 294, op := Go.Op.move (Go.Operand.tmp 20), type := 3, pos := "top17.go:71", after := #[{ on := 4, ground := Go.Ground.guard }], guard := Option.some (4, Bool.false) }) (v := ?vd12) rfl (by kernel_rfl) (by kernel_rfl) (by kernel_rfl) (fun _ _ _ h => h) (Or.inl ⟨by rfl, ?yd12⟩) (by assumption) ?rd12
        case yd12 => (intro w hSw; (try dsimp only at hSw); go_simp; try with_reducible rfl)
        simp only [Act.put, List.setIfInBounds_toArray, List.set_cons_zero, List.set_cons_succ]
        refine wpAnyH_take (i := 13) (oi := { dst := Option.some 295, op := Go.Op.indexAddr 25 (Go.Operand.tmp 293) (Go.Operand.tmp 294), type := 0, pos := "top17.go:71", after := #[{ on := 11, ground := Go.Ground.data }, { on := 12, ground := Go.Ground.data }, { on := 4, ground := Go.Ground.guard }], guard := Option.some (4, Bool.false) }) (v := ?vd13) rfl (by kernel_rfl) (by kernel_rfl) (by kernel_rfl) (fun _ _ _ h => h) (Or.inl ⟨by rfl, ?yd13⟩) (by assumption) ?rd13
        case yd13 => (intro w hSw; (try dsimp only at hSw); go_simp; try with_reducible rfl)
        simp only [Act.put, List.setIfInBounds_toArray, List.set_cons_zero, List.set_cons_succ]
        refine wpAnyH_take (i := 14) (oi := { dst := Option.some 296, op := Go.Op.fieldAddr 59 (Go.Operand.tmp 295) 1, type := 0, pos := "top17.go:71", after := #[{ on := 13, ground := Go.Ground.data }, { on := 4, ground := Go.Ground.guard }], guard := Option.some (4, Bool.false) }) (v := ?vd14) rfl (by kernel_rfl) (by kernel_rfl) (by kernel_rfl) (fun _ _ _ h => h) (Or.inl ⟨by rfl, ?yd14⟩) (by assumption) ?rd14
        case yd14 => (intro w hSw; (try dsimp only at hSw); go_simp; try with_reducible rfl)
        simp only [Act.put, List.setIfInBounds_toArray, List.set_cons_zero, List.set_cons_succ]
        refine wpAnyH_take (i := 15) (oi := { dst := Option.some 297, op := Go.Op.load 3 (Go.Operand.tmp 296), type := 3, pos := "top17.go:71", after := #[{ on := 14, ground := Go.Ground.data }, { on := 4, ground := Go.Ground.guard }], guard := Option.some (4, Bool.false) }) (v := ?vd15) rfl (by kernel_rfl) (by kernel_rfl) (by kernel_rfl) (fun _ _ _ h => h) (Or.inl ⟨by rfl, ?yd15⟩) (by assumption) ?rd15
        case yd15 => (intro w hSw; (try dsimp only at hSw); go_simp; try with_reducible rfl)
        simp only [Act.put, List.setIfInBounds_toArray, List.set_cons_zero, List.set_cons_succ]
        refine wpAnyH_take (i := 16) (oi := { dst := Option.some 298, op := Go.Op.move (Go.Operand.tmp 1), type := 25, pos := "top17.go:71", after := #[{ on := 4, ground := Go.Ground.guard }], guard := Option.some (4, Bool.false) }) (v := ?vd16) rfl (by kernel_rfl) (by kernel_rfl) (by kernel_rfl) (fun _ _ _ h => h) (Or.inl ⟨by rfl, ?yd16⟩) (by assumption) ?rd16
        case yd16 => (intro w hSw; (try dsimp only at hSw); go_simp; try with_reducible rfl)
        simp only [Act.put, List.setIfInBounds_toArray, List.set_cons_zero, List.set_cons_succ]
        refine wpAnyH_take (i := 17) (oi := { dst := Option.some 299, op := Go.Op.move (Go.Operand.tmp 20), type := 3, pos := "top17.go:71", after := #[{ on := 4, ground := Go.Ground.guard }], guard := Option.some (4, Bool.false) }) (v := ?vd17) rfl (by kernel_rfl) (by kernel_rfl) (by kernel_rfl) (fun _ _ _ h => h) (Or.inl ⟨by rfl, ?yd17⟩) (by assumption) ?rd17
        case yd17 => (intro w hSw; (try dsimp only at hSw); go_simp; try with_reducible rfl)
        simp only [Act.put, List.setIfInBounds_toArray, List.set_cons_zero, List.set_cons_succ]
        refine wpAnyH_take (i := 18) (oi := { dst := Option.some 300, op := Go.Op.indexAddr 25 (Go.Operand.tmp 298) (Go.Operand.tmp 299), type := 0, pos := "top17.go:71", after := #[{ on := 16, ground := Go.Ground.data }, { on := 17, ground := Go.Ground.data }, { on := 4, ground := Go.Ground.guard }], guard := Option.some (4, Bool.false) }) (v := ?vd18) rfl (by kernel_rfl) (by kernel_rfl) (by kernel_rfl) (fun _ _ _ h => h) (Or.inl ⟨by rfl, ?yd18⟩) (by assumption) ?rd18
        case yd18 => (intro w hSw; (try dsimp only at hSw); go_simp; try with_reducible rfl)
        simp only [Act.put, List.setIfInBounds_toArray, List.set_cons_zero, List.set_cons_succ]
        refine wpAnyH_take (i := 19) (oi := { dst := Option.some 301, op := Go.Op.fieldAddr 59 (Go.Operand.tmp 300) 2, type := 0, pos := "top17.go:71", after := #[{ on := 18, ground := Go.Ground.data }, { on := 4, ground := Go.Ground.guard }], guard := Option.some (4, Bool.false) }) (v := ?vd19) rfl (by kernel_rfl) (by kernel_rfl) (by kernel_rfl) (fun _ _ _ h => h) (Or.inl ⟨by rfl, ?yd19⟩) (by assumption) ?rd19
        case yd19 => (intro w hSw; (try dsimp only at hSw); go_simp; try with_reducible rfl)
        simp only [Act.put, List.setIfInBounds_toArray, List.set_cons_zero, List.set_cons_succ]
        refine wpAnyH_take (i := 20) (oi := { dst := Option.some 302, op := Go.Op.load 3 (Go.Operand.tmp 301), type := 3, pos := "top17.go:71", after := #[{ on := 19, ground := Go.Ground.data }, { on := 4, ground := Go.Ground.guard }], guard := Option.some (4, Bool.false) }) (v := ?vd20) rfl (by kernel_rfl) (by kernel_rfl) (by kernel_rfl) (fun _ _ _ h => h) (Or.inl ⟨by rfl, ?yd20⟩) (by assumption) ?rd20
        case yd20 => (intro w hSw; (try dsimp only at hSw); go_simp; try with_reducible rfl)
        simp only [Act.put, List.setIfInBounds_toArray, List.set_cons_zero, List.set_cons_succ]
        refine wpAnyH_ready (rs := [21]) (by kernel_rfl) (by simp) ?_
        refine AllReadyH.cons rfl (fun K hK => ?_) AllReadyH.nil
        go_simp
        refine hK.out _ _ ?_ (fun hHeld => ?_)
        · (go_split_ands; refine ⟨?_, ?_, ?_, ?_⟩ <;> (repeat (first | (with_reducible assumption) | (with_reducible refine cells_drew ?_) | (with_reducible refine cell_drew1 ?_) | (with_reducible refine cells_alloc ?_ (by first | assumption | omega | (simp; omega)) _) | (with_reducible refine cell_alloc1 ?_ (by first | assumption | (dsimp only; omega) | (simp; omega))))))
        clear hK K
        refine wpAnyH_ready (rs := [22]) (by kernel_rfl) (by simp) ?_
        refine AllReadyH.cons rfl (fun K hK => ?_) AllReadyH.nil
        go_simp; go_at_call 17; (refine HTK.out.mono ?_); rintro e w6 ⟨r, rfl, hq⟩; obtain ⟨hr, hw6⟩ : (r != 0) = true ∧ _ := (by rcases hq with hq | hq; exact hq; exact absurd hq.2.1 HE.out); have HW6 := Lib.hid hw6; have q0 := blk_cell hw6.box; have q1 := (hw6.out.cell (p := ⟨tb, tof + n * 3, none⟩) HTB.out).trans T0.out; have q2 := (hw6.out.cell (p := ⟨tb, tof + n * 3 + 1, none⟩) HTB.out).trans T1.out; have q3 := (hw6.out.cell (p := ⟨tb, tof + n * 3 + 2, none⟩) HTB.out).trans T2.out; clear hq hw6; unfold planC plC at q0
        refine hK.out _ _ ?_ (fun hHeld => ?_)
        · (go_split_ands; refine ⟨?_, ?_, ?_, ?_⟩ <;> (repeat (first | (with_reducible assumption) | (with_reducible refine cells_drew ?_) | (with_reducible refine cell_drew1 ?_) | (with_reducible refine cells_alloc ?_ (by first | assumption | omega | (simp; omega)) _) | (with_reducible refine cell_alloc1 ?_ (by first | assumption | (dsimp only; omega) | (simp; omega))))))
        clear hK K
        refine wpAnyH_take (i := 23) (oi := { dst := Option.some 305, op := Go.Op.binOp Go.BinOp.neq 27 (Go.Operand.tmp 304) (Go.Operand.const (Go.Value.int Go.IntKind.i64 0)) 27, type := 4, pos := "top17.go:71", after := #[{ on := 22, ground := Go.Ground.data }, { on := 4, ground := Go.Ground.guard }], guard := Option.some (4, Bool.false) }) (v := ?vd23) rfl (by kernel_rfl) (by kernel_rfl) (by kernel_rfl) (fun _ _ _ h => h) (Or.inl ⟨by rfl, ?yd23⟩) (by assumption) ?rd23
        case yd23 => (intro w hSw; (try dsimp only at hSw); go_simp; try with_reducible rfl)
        simp only [Act.put, List.setIfInBounds_toArray, List.set_cons_zero, List.set_cons_succ]
        refine wpAnyH_take (i := 24) (oi := { dst := Option.some 306, op := Go.Op.pick (Go.Operand.tmp 286) (Go.Operand.const (Go.Value.bool Bool.true)) (Go.Operand.tmp 305), type := 4, pos := "top17.go:71", after := #[{ on := 4, ground := Go.Ground.data }, { on := 23, ground := Go.Ground.data }], guard := Option.none }) (v := ?vd24) rfl (by kernel_rfl) (by kernel_rfl) (by kernel_rfl) (fun _ _ _ h => h) (Or.inl ⟨by rfl, ?yd24⟩) (by assumption) ?rd24
        case yd24 => (intro w hSw; (try dsimp only at hSw); go_simp; try with_reducible rfl)
        simp only [Act.put, List.setIfInBounds_toArray, List.set_cons_zero, List.set_cons_succ]
        refine wpAnyH_take (i := 25) (oi := { dst := Option.some 307, op := Go.Op.move (Go.Operand.tmp 306), type := 4, pos := "top17.go:71", after := #[{ on := 24, ground := Go.Ground.data }, { on := 22, ground := Go.Ground.chain }], guard := Option.none }) (v := ?vd25) rfl (by kernel_rfl) (by kernel_rfl) (by kernel_rfl) (fun _ _ _ h => h) (Or.inl ⟨by rfl, ?yd25⟩) (by assumption) ?rd25
        case yd25 => (intro w hSw; (try dsimp only at hSw); go_simp; try with_reducible rfl)
        simp only [Act.put, List.setIfInBounds_toArray, List.set_cons_zero, List.set_cons_succ]
        refine wpAnyH_take (i := 26) (oi := { dst := Option.some 308, op := Go.Op.move (Go.Operand.tmp 5), type := 26, pos := "top17.go:71", after := #[{ on := 25, ground := Go.Ground.guard }], guard := Option.some (25, Bool.false) }) (v := undef) rfl (by kernel_rfl) (by kernel_rfl) (by kernel_rfl) (fun _ _ _ h => h) (Or.inr ⟨by rfl, rfl⟩) (by assumption) ?_
        simp only [Act.put, List.setIfInBounds_toArray, List.set_cons_zero, List.set_cons_succ]
        refine wpAnyH_take (i := 27) (oi := { dst := Option.some 309, op := Go.Op.call { callee := Go.Callee.value (Go.Operand.func 18), args := #[Go.Operand.tmp 308], argTypes := #[26] }, type := 3, pos := "top17.go:71", after := #[{ on := 26, ground := Go.Ground.data }, { on := 25, ground := Go.Ground.chain }, { on := 25, ground := Go.Ground.guard }], guard := Option.some (25, Bool.false) }) (v := undef) rfl (by kernel_rfl) (by kernel_rfl) (by kernel_rfl) (fun _ _ _ h => h) (Or.inr ⟨by rfl, rfl⟩) (by assumption) ?_
        simp only [Act.put, List.setIfInBounds_toArray, List.set_cons_zero, List.set_cons_succ]
        refine wpAnyH_take (i := 28) (oi := { dst := Option.some 310, op := Go.Op.fieldAddr 24 (Go.Operand.tmp 2) 0, type := 0, pos := "top17.go:71", after := #[{ on := 25, ground := Go.Ground.guard }], guard := Option.some (25, Bool.false) }) (v := undef) rfl (by kernel_rfl) (by kernel_rfl) (by kernel_rfl) (fun _ _ _ h => h) (Or.inr ⟨by rfl, rfl⟩) (by assumption) ?_
        simp only [Act.put, List.setIfInBounds_toArray, List.set_cons_zero, List.set_cons_succ]
        refine wpAnyH_take (i := 29) (oi := { dst := Option.some 311, op := Go.Op.load 3 (Go.Operand.tmp 310), type := 3, pos := "top17.go:71", after := #[{ on := 28, ground := Go.Ground.data }, { on := 25, ground := Go.Ground.guard }], guard := Option.some (25, Bool.false) }) (v := undef) rfl (by kernel_rfl) (by kernel_rfl) (by kernel_rfl) (fun _ _ _ h => h) (Or.inr ⟨by rfl, rfl⟩) (by assumption) ?_
        simp only [Act.put, List.setIfInBounds_toArray, List.set_cons_zero, List.set_cons_succ]
        refine wpAnyH_take (i := 30) (oi := { dst := Option.some 312, op := Go.Op.binOp Go.BinOp.gtr 3 (Go.Operand.tmp 309) (Go.Operand.tmp 311) 3, type := 4, pos := "top17.go:71", after := #[{ on := 27, ground := Go.Ground.data }, { on := 29, ground := Go.Ground.data }, { on := 25, ground := Go.Ground.guard }], guard := Option.some (25, Bool.false) }) (v := undef) rfl (by kernel_rfl) (by kernel_rfl) (by kernel_rfl) (fun _ _ _ h => h) (Or.inr ⟨by rfl, rfl⟩) (by assumption) ?_
        simp only [Act.put, List.setIfInBounds_toArray, List.set_cons_zero, List.set_cons_succ]
        refine wpAnyH_take (i := 31) (oi := { dst := Option.some 313, op := Go.Op.pick (Go.Operand.tmp 307) (Go.Operand.const (Go.Value.bool Bool.true)) (Go.Operand.tmp 312), type := 4, pos := "top17.go:71", after := #[{ on := 25, ground := Go.Ground.data }, { on := 30, ground := Go.Ground.data }], guard := Option.none }) (v := ?vd31) rfl (by kernel_rfl) (by kernel_rfl) (by kernel_rfl) (fun _ _ _ h => h) (Or.inl ⟨by rfl, ?yd31⟩) (by assumption) ?rd31
        case yd31 => (intro w hSw; (try dsimp only at hSw); go_simp; try with_reducible rfl)
        simp only [Act.put, List.setIfInBounds_toArray, List.set_cons_zero, List.set_cons_succ]
        refine wpAnyH_done (by kernel_rfl) ?_ _
        go_wp2_with fail
        go_meet
        exact ⟨rfl, Lib.hid HW6.out.out⟩
      case rest =>
        obtain ⟨rfl, HB⟩ := hcut
        clear b0 l0 k0 k1 s0 s1 s2 ltb
        go_wp2_with fail
        exact HT.out _ _ _ _ _ _ _ _ _ _ _ _ _ _ _ _ _ _ _ _ _ _ _ _ _ _ _ _ _ _ _ _ _ HB.out
end Go.Proofs.YtchdfogifhfclaaGreatDoor
