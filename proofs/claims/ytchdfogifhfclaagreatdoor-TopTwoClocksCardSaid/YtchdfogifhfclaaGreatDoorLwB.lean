/- TopTwoClocks: it is granted (printed by mklw.py). -/
import Derived.Test.YtchdfogifhfclaaGreatDoorLwAM
namespace Go.Proofs.YtchdfogifhfclaaGreatDoor
open Go.RowKit Go.Maps Go.MapKept

/-- Behind Grant. -/
def GrB (W : World) (P : Pn) (pc gc : Nat) (q : Gs) (hb : Nat) (c : Ck8.Ck) (x g i0 r : Int) (w : World) : Prop :=
  ((r != 0) = true ∧ i0 = 0 ∧ ((r == 10) || (r == 11)) = true ∧ Wd W P pc gc q hb (fun _ => False) c (LOf P 0) none x none w) ∨ (r = 0 ∧ i0 = 1 ∧ pathOK P.pa = true ∧ ModeB P.m = true ∧ Wd W P pc gc q hb (fun _ => False) c (LOf P 1) (osOf P 1) (g + P.t) none w)
theorem GrB.mk {W : World} {P : Pn} {pc gc : Nat} {q : Gs} {hb : Nat} {Z : Nat → Prop} {c : Ck8.Ck} {x g i0 r : Int} {w6 w7 : World}
    (h : ((r != 0) = true ∧ i0 = 0 ∧ ((r == 10) || (r == 11)) = true ∧ Wd W P pc gc q hb Z c (LOf P 0) none x none w6) ∨ (r = 0 ∧ i0 = 1 ∧ pathOK P.pa = true ∧ ModeB P.m = true ∧ Wd W P pc gc q hb Z c (LOf P 1) (osOf P 1) (g + P.t) none w6))
    (hk : ∀ L os x ol, Wd W P pc gc q hb Z c L os x ol w6 → Wd W P pc gc q hb (fun _ => False) c L os x ol w7) : GrB W P pc gc q hb c x g i0 r w7 := by
  rcases h with ⟨h1, h2, h3, h4⟩ | ⟨h1, h2, h3, h4, h5⟩
  · exact .inl ⟨h1, h2, h3, hk _ _ _ _ h4⟩
  · exact .inr ⟨h1, h2, h3, h4, hk _ _ _ _ h5⟩
set_option maxRecDepth 100000 in
set_option maxHeartbeats 8000000 in
theorem stB {W : World} {P : Pn} {pc gc : Nat} {q : Gs} {hb : Nat} {ta : Option Addr} {tn tc : Nat} {sent since id : Int} {n : Nat} {wr : World} {KK : Act → World → Prop} {QR : Act → World → Prop} {ds : List Deferred} {u0 u3 u4 u6 u7 u8 u9 u10 u12 u14 u19 u21 u22 u23 u24 u25 u26 u27 u28 u29 u30 u31 u32 u33 u34 u35 u36 u37 u38 u39 u40 u41 u42 u43 u44 u45 u46 u47 u48 u49 u50 u51 u52 u53 u54 u55 u56 u57 u58 u59 u60 u61 u62 u63 u64 u65 u66 u67 u68 u69 u70 u71 u72 u73 u74 u75 u76 u77 u78 u79 u80 u81 u82 u83 u84 u85 u86 u87 u88 u89 u90 u91 u92 u93 u94 u95 u96 u97 u98 u99 u100 u101 u102 u103 u104 u105 u106 u107 u108 u109 u110 u111 u112 u113 u114 u115 u116 u117 u118 u119 u120 u121 u122 u123 u124 u125 u126 u127 u128 u129 u130 u131 u132 u133 u134 u135 u136 u137 u138 u139 u140 u141 u142 u143 u144 u145 u146 u147 u148 u149 u150 u151 u152 u153 u154 u155 u156 u157 u158 u159 u160 u161 u162 u163 u164 u165 u166 u167 u168 u169 u170 u171 u172 u173 u174 u175 u176 u177 u178 u179 u180 u181 u182 u183 u184 u185 u186 u187 u188 u189 u190 u191 u192 u193 u194 u195 u196 u197 u198 u199 u200 u201 u202 u203 u204 u205 u206 u207 u208 u209 u210 u211 u212 u213 u214 u215 u216 u217 u218 u219 u220 u221 u222 u223 u224 u225 u226 u227 u228 u229 u230 u231 u232 u233 u234 u235 u236 u237 u238 u239 u240 u241 u242 u243 u244 u245 u246 u247 u248 u249 u250 u251 u252 u253 u254 u255 u256 u257 u258 u259 u260 u261 u262 u263 u264 u265 u266 u267 u268 u269 u270 u271 u272 u273 u274 u275 u276 u277 u278 u279 u280 u281 u282 u283 u284 u285 u286 u287 u288 u289 u290 u291 u292 u293 u294 u295 u296 u297 u298 u299 u300 u301 u302 u303 u304 u305 u306 u307 u308 u309 u310 u311 u312 u313 : Value} {gs : Nat} {c : Ck8.Ck} {x : Int} {ol : Option Ls} {g h : Int}
    (hc : c.now = [g, h]) (hid : (gs = 0 ∧ id = 0 ∨ gs ≠ 0 ∧ id = 1)) (hs : P.pa.size ≤ 140737488355328) (I : Inv P n n n gs c x ol sent) (H : Wd W P pc gc q hb (fun _ => False) c (LOf P gs) (osOf P gs) x ol wr)
    (hrest : ∀ v4 v21 v22 v122 v123 v124 v125 v126 v127 v128 v129 v130 v131 v132 v133 v134 v135 v136 v137 v138 v139 v140 v141 v142 v143 v144 v145 v146 v147 v148 v149 v150 v151 v152 v153 v154 v155 v156 v157 v158 (since' id' : Int) (gs' : Nat) (x' : Int) (wc : World), (gs' = 0 ∧ id' = 0 ∨ gs' ≠ 0 ∧ id' = 1) → Inv P (n + 1) n n gs' c x' ol sent → Wd W P pc gc q hb (fun _ => False) c (LOf P gs') (osOf P gs') x' ol wc → KK ⟨#[u0, .slice ta tn tc, .pointer (some ⟨W.heap.size, 0, none⟩), u3, v4, .pointer (some ⟨pc, 0, none⟩), u6, u7, u8, u9, u10, .pointer (some ⟨q.g, 0, none⟩), u12, .pointer (some ⟨hb, 0, none⟩), u14, .int .i64 P.t, .int .i64 sent, .int .i64 since', .int .i64 id', u19, .int .i64 (n : Int), v21, v22, u23, u24, u25, u26, u27, u28, u29, u30, u31, u32, u33, u34, u35, u36, u37, u38, u39, u40, u41, u42, u43, u44, u45, u46, u47, u48, u49, u50, u51, u52, u53, u54, u55, u56, u57, u58, u59, u60, u61, u62, u63, u64, u65, u66, u67, u68, u69, u70, u71, u72, u73, u74, u75, u76, u77, u78, u79, u80, u81, u82, u83, u84, u85, u86, u87, u88, u89, u90, u91, u92, u93, u94, u95, u96, u97, u98, u99, u100, u101, u102, u103, u104, u105, u106, u107, u108, u109, u110, u111, u112, u113, u114, u115, u116, u117, u118, u119, u120, u121, v122, v123, v124, v125, v126, v127, v128, v129, v130, v131, v132, v133, v134, v135, v136, v137, v138, v139, v140, v141, v142, v143, v144, v145, v146, v147, v148, v149, v150, v151, v152, v153, v154, v155, v156, v157, v158, u159, u160, u161, u162, u163, u164, u165, u166, u167, u168, u169, u170, u171, u172, u173, u174, u175, u176, u177, u178, u179, u180, u181, u182, u183, u184, u185, u186, u187, u188, u189, u190, u191, u192, u193, u194, u195, u196, u197, u198, u199, u200, u201, u202, u203, u204, u205, u206, u207, u208, u209, u210, u211, u212, u213, u214, u215, u216, u217, u218, u219, u220, u221, u222, u223, u224, u225, u226, u227, u228, u229, u230, u231, u232, u233, u234, u235, u236, u237, u238, u239, u240, u241, u242, u243, u244, u245, u246, u247, u248, u249, u250, u251, u252, u253, u254, u255, u256, u257, u258, u259, u260, u261, u262, u263, u264, u265, u266, u267, u268, u269, u270, u271, u272, u273, u274, u275, u276, u277, u278, u279, u280, u281, u282, u283, u284, u285, u286, u287, u288, u289, u290, u291, u292, u293, u294, u295, u296, u297, u298, u299, u300, u301, u302, u303, u304, u305, u306, u307, u308, u309, u310, u311, u312, u313], ds⟩ wc)
    (hret : ∀ v17 v18 v21 v22 v122 v123 v124 v125 v126 v127 v128 v129 v130 v131 v132 v133 v134 v135 v136 v137 v138 v139 v140 v141 v142 v143 v144 v145 v146 v147 v148 v149 v150 v151 v152 v153 v154 v155 v156 v157 v158 wc, Below W.heap.size W wc → QR ⟨#[u0, .slice ta tn tc, .pointer (some ⟨W.heap.size, 0, none⟩), u3, .bool true, .pointer (some ⟨pc, 0, none⟩), u6, u7, u8, u9, u10, .pointer (some ⟨q.g, 0, none⟩), u12, .pointer (some ⟨hb, 0, none⟩), u14, .int .i64 P.t, .int .i64 sent, v17, v18, u19, .int .i64 (n : Int), v21, v22, u23, u24, u25, u26, u27, u28, u29, u30, u31, u32, u33, u34, u35, u36, u37, u38, u39, u40, u41, u42, u43, u44, u45, u46, u47, u48, u49, u50, u51, u52, u53, u54, u55, u56, u57, u58, u59, u60, u61, u62, u63, u64, u65, u66, u67, u68, u69, u70, u71, u72, u73, u74, u75, u76, u77, u78, u79, u80, u81, u82, u83, u84, u85, u86, u87, u88, u89, u90, u91, u92, u93, u94, u95, u96, u97, u98, u99, u100, u101, u102, u103, u104, u105, u106, u107, u108, u109, u110, u111, u112, u113, u114, u115, u116, u117, u118, u119, u120, u121, v122, v123, v124, v125, v126, v127, v128, v129, v130, v131, v132, v133, v134, v135, v136, v137, v138, v139, v140, v141, v142, v143, v144, v145, v146, v147, v148, v149, v150, v151, v152, v153, v154, v155, v156, v157, v158, u159, u160, u161, u162, u163, u164, u165, u166, u167, u168, u169, u170, u171, u172, u173, u174, u175, u176, u177, u178, u179, u180, u181, u182, u183, u184, u185, u186, u187, u188, u189, u190, u191, u192, u193, u194, u195, u196, u197, u198, u199, u200, u201, u202, u203, u204, u205, u206, u207, u208, u209, u210, u211, u212, u213, u214, u215, u216, u217, u218, u219, u220, u221, u222, u223, u224, u225, u226, u227, u228, u229, u230, u231, u232, u233, u234, u235, u236, u237, u238, u239, u240, u241, u242, u243, u244, u245, u246, u247, u248, u249, u250, u251, u252, u253, u254, u255, u256, u257, u258, u259, u260, u261, u262, u263, u264, u265, u266, u267, u268, u269, u270, u271, u272, u273, u274, u275, u276, u277, u278, u279, u280, u281, u282, u283, u284, u285, u286, u287, u288, u289, u290, u291, u292, u293, u294, u295, u296, u297, u298, u299, u300, u301, u302, u303, u304, u305, u306, u307, u308, u309, u310, u311, u312, u313], ds⟩ wc) :
    ((Tryz.f3.body.bind (Cd.stm 18)).getD .skip).wp Tryz.prog (Exit.then KK (retQ QR)) ⟨#[u0, .slice ta tn tc, .pointer (some ⟨W.heap.size, 0, none⟩), u3, u4, .pointer (some ⟨pc, 0, none⟩), u6, u7, u8, u9, u10, .pointer (some ⟨q.g, 0, none⟩), u12, .pointer (some ⟨hb, 0, none⟩), u14, .int .i64 P.t, .int .i64 sent, .int .i64 since, .int .i64 id, u19, .int .i64 (n : Int), u21, u22, u23, u24, u25, u26, u27, u28, u29, u30, u31, u32, u33, u34, u35, u36, u37, u38, u39, u40, u41, u42, u43, u44, u45, u46, u47, u48, u49, u50, u51, u52, u53, u54, u55, u56, u57, u58, u59, u60, u61, u62, u63, u64, u65, u66, u67, u68, u69, u70, u71, u72, u73, u74, u75, u76, u77, u78, u79, u80, u81, u82, u83, u84, u85, u86, u87, u88, u89, u90, u91, u92, u93, u94, u95, u96, u97, u98, u99, u100, u101, u102, u103, u104, u105, u106, u107, u108, u109, u110, u111, u112, u113, u114, u115, u116, u117, u118, u119, u120, u121, u122, u123, u124, u125, u126, u127, u128, u129, u130, u131, u132, u133, u134, u135, u136, u137, u138, u139, u140, u141, u142, u143, u144, u145, u146, u147, u148, u149, u150, u151, u152, u153, u154, u155, u156, u157, u158, u159, u160, u161, u162, u163, u164, u165, u166, u167, u168, u169, u170, u171, u172, u173, u174, u175, u176, u177, u178, u179, u180, u181, u182, u183, u184, u185, u186, u187, u188, u189, u190, u191, u192, u193, u194, u195, u196, u197, u198, u199, u200, u201, u202, u203, u204, u205, u206, u207, u208, u209, u210, u211, u212, u213, u214, u215, u216, u217, u218, u219, u220, u221, u222, u223, u224, u225, u226, u227, u228, u229, u230, u231, u232, u233, u234, u235, u236, u237, u238, u239, u240, u241, u242, u243, u244, u245, u246, u247, u248, u249, u250, u251, u252, u253, u254, u255, u256, u257, u258, u259, u260, u261, u262, u263, u264, u265, u266, u267, u268, u269, u270, u271, u272, u273, u274, u275, u276, u277, u278, u279, u280, u281, u282, u283, u284, u285, u286, u287, u288, u289, u290, u291, u292, u293, u294, u295, u296, u297, u298, u299, u300, u301, u302, u303, u304, u305, u306, u307, u308, u309, u310, u311, u312, u313], ds⟩ wr := by
  dsimp [Tryz.f3, Cd.stm, Cd.first, Option.bind, Option.or, Option.getD]
  have b0 := blk_cell H.box
  have l0 := lt_of_heap H.box
  have HW := Lib.hid H
  have HI := Lib.hid I
  have HC := Lib.hid hc
  have HS := Lib.hid hs
  have HID := Lib.hid hid
  have HR := Lib.hid hrest
  have HT := Lib.hid hret
  clear H I hc hrest hret hs hid
  unfold planC plC at b0
  have k0 : (0 : Int) ≤ (n : Int) := by omega
  by_cases h1 : (n : Int) = P.granted ∧ 0 ≤ sent
  · have e1 : ((n : Int) == P.granted) = true := by rw [h1.1]; simp
    have e2 : decide (0 ≤ sent) = true := decide_eq_true h1.2
    obtain rfl := HI.out.none0 (by rw [h1.1]; exact Int.le_refl _)
    obtain rfl := HI.out.g0 rfl
    have HH := Lib.hid h1
    have HNOW := Lib.hid (show ∀ w1, Wd W P pc gc q hb (fun _ => False) c (LOf P 0) (osOf P 0) x none w1 → _ from fun w1 h1 => now0_w h1 HC.out)
    clear h1
    go_upto_region 19 with fail
    go_cut [21, 22] from 130 to 142 (fun u21 u22 wc => ∃ (gb : Nat) (i0 r : Int), u21 = .pointer (some ⟨gb, 0, none⟩) ∧ u22 = .int .i64 r ∧ wc.cell? ⟨gb, 0, none⟩ = some (.int .i64 i0) ∧ Hid (GrB W P pc gc q hb c x g i0 r wc))
    case first =>
      go_region_held_law (fun u => ∀ i, u.cell? ⟨W.heap.size, i, none⟩ = #[Value.int .i64 P.rho, Value.int .i64 P.T, Value.int .i64 P.sent, Value.int .i64 P.granted, Value.int .i64 P.come, Value.int .i64 P.renews, Value.string P.pa, Value.int .i64 P.m][i]?) ((refine ?_; (repeat (first | (with_reducible assumption) | (with_reducible refine cells_drew ?_) | ((with_reducible refine cells_set ?_ _ _ ?_); rotate_left; (dsimp only; omega)) | (with_reducible refine cells_alloc ?_ (by first | assumption | omega | (simp; omega)) _))))) (first
        | (go_simp; go_at_call 9; first
          | ((refine (HNOW.out _ HW.out.drew).mono ?_); rintro e w5 ⟨rfl, rfl⟩)
          | ((refine (now0_w (HW.out.drew.alloc (.cells #[.int .i64 0, .int .i64 0, .string ⟨#[]⟩, .int .i64 0, .slice none 0 0, .int .i64 0] 45)) HC.out).mono ?_); rintro e w5 ⟨rfl, rfl⟩))
        | (go_simp; go_at_call 11; (refine (root_any _).mono ?_); rintro e w5 ⟨rfl, hb5⟩; first
          | (have hchk : Below wr.drew.heap.size wr.drew w5 := hb5; have HB5 := Lib.hid (below_step (Ck8.below_drew wr) hchk); have q0 := blk_cell ((HB5.out.block _ l0).trans HW.out.box); have q3 : W.heap.size < w5.heap.size := Nat.lt_of_lt_of_le l0 HB5.out.size; clear hb5 hchk; unfold planC plC at q0)
          | (have hchk : Below (wr.drew.alloc (.cells #[.int .i64 0, .int .i64 0, .string ⟨#[]⟩, .int .i64 0, .slice none 0 0, .int .i64 0] 45)).heap.size (wr.drew.alloc (.cells #[.int .i64 0, .int .i64 0, .string ⟨#[]⟩, .int .i64 0, .slice none 0 0, .int .i64 0] 45)) w5 := hb5; have HB5 := Lib.hid (below_step (Ck8.below_drew wr) (below_step (below_one wr.drew _) hchk)); have HWZ := Lib.hid ((HW.out.drew.alloc (.cells #[.int .i64 0, .int .i64 0, .string ⟨#[]⟩, .int .i64 0, .slice none 0 0, .int .i64 0] 45)).below hchk); have HZ := Lib.hid ((hchk.block wr.heap.size (by simp)).trans (heap_at wr.drew (.cells #[.int .i64 0, .int .i64 0, .string ⟨#[]⟩, .int .i64 0, .slice none 0 0, .int .i64 0] 45) wr.heap.size rfl)); have q0 := blk_cell ((HB5.out.block _ l0).trans HW.out.box); have q3 : W.heap.size < w5.heap.size := Nat.lt_of_lt_of_le l0 HB5.out.size; clear hb5 hchk; unfold planC plC at q0); unfold rootC estr)
        | (go_simp; go_at_call 10; first
          | ((refine (grant_w HWZ.out (HI.out.bounds HC.out).1 HS.out).mono ?_); rintro e w6 ⟨i0, i1, s, a3, ad, nn, cc, a5, r, rfl, hkz, hq⟩; have HQ := Lib.hid hq; have z6 := (hkz wr.heap.size (.inr rfl)).trans HZ.out; have HZ6 := Lib.hid z6; have z0 := blk_cell z6; have zf := blk_free z6; have zl := lt_of_heap z6; have q6 : ∀ i, w6.cell? ⟨W.heap.size, i, none⟩ = #[Value.int .i64 P.rho, Value.int .i64 P.T, Value.int .i64 P.sent, Value.int .i64 P.granted, Value.int .i64 P.come, Value.int .i64 P.renews, Value.string P.pa, Value.int .i64 P.m][i]? := (by rcases hq with hq | hq; exact blk_cell hq.2.2.2.box; exact blk_cell hq.2.2.2.2.box); have q9 : W.heap.size < w6.heap.size := (by rcases hq with hq | hq; exact lt_of_heap hq.2.2.2.box; exact lt_of_heap hq.2.2.2.2.box); clear hq hkz z6; unfold GcV)
          | ((refine (grant_w (HW.out.below HB5.out) (HI.out.bounds HC.out).1 HS.out).mono ?_); rintro e w6 ⟨i0, i1, s, a3, ad, nn, cc, a5, r, rfl, hkz, hq⟩; have HQ := Lib.hid hq; have q6 : ∀ i, w6.cell? ⟨W.heap.size, i, none⟩ = #[Value.int .i64 P.rho, Value.int .i64 P.T, Value.int .i64 P.sent, Value.int .i64 P.granted, Value.int .i64 P.come, Value.int .i64 P.renews, Value.string P.pa, Value.int .i64 P.m][i]? := (by rcases hq with hq | hq; exact blk_cell hq.2.2.2.box; exact blk_cell hq.2.2.2.2.box); have q9 : W.heap.size < w6.heap.size := (by rcases hq with hq | hq; exact lt_of_heap hq.2.2.2.box; exact lt_of_heap hq.2.2.2.2.box); clear hq hkz; unfold GcV)
          | ((refine (grant_w ((HW.out.below HB5.out).alloc (.cells #[.int .i64 0, .int .i64 0, .string ⟨#[]⟩, .int .i64 0, .slice none 0 0, .int .i64 0] 45)) (HI.out.bounds HC.out).1 HS.out).mono ?_); rintro e w6 ⟨i0, i1, s, a3, ad, nn, cc, a5, r, rfl, hkz, hq⟩; have HQ := Lib.hid hq; have z6 := (hkz w5.heap.size (.inr rfl)).trans (heap_at w5 (.cells #[.int .i64 0, .int .i64 0, .string ⟨#[]⟩, .int .i64 0, .slice none 0 0, .int .i64 0] 45) _ rfl); have HZ6 := Lib.hid z6; have z0 := blk_cell z6; have zf := blk_free z6; have zl := lt_of_heap z6; have q6 : ∀ i, w6.cell? ⟨W.heap.size, i, none⟩ = #[Value.int .i64 P.rho, Value.int .i64 P.T, Value.int .i64 P.sent, Value.int .i64 P.granted, Value.int .i64 P.come, Value.int .i64 P.renews, Value.string P.pa, Value.int .i64 P.m][i]? := (by rcases hq with hq | hq; exact blk_cell hq.2.2.2.box; exact blk_cell hq.2.2.2.2.box); have q9 : W.heap.size < w6.heap.size := (by rcases hq with hq | hq; exact lt_of_heap hq.2.2.2.box; exact lt_of_heap hq.2.2.2.2.box); have HB9 := Lib.hid q3; clear hq hkz z6; unfold GcV)))
      all_goals first
        | (obtain ⟨w7, hw7⟩ : ∃ w7, w7 = ((((((w6.setCell ⟨wr.heap.size, 0, none⟩ (.int .i64 i0)).setCell ⟨wr.heap.size, 1, none⟩ (.int .i64 i1)).setCell ⟨wr.heap.size, 2, none⟩ (.string s)).setCell ⟨wr.heap.size, 3, none⟩ (.int .i64 a3)).setCell ⟨wr.heap.size, 4, none⟩ (.slice ad nn cc)).setCell ⟨wr.heap.size, 5, none⟩ (.int .i64 a5)) := ⟨_, rfl⟩; rw [← hw7]; obtain ⟨gb, hgb⟩ : ∃ gb, gb = wr.heap.size := ⟨_, rfl⟩
           have HC7 := Lib.hid (show w7.cell? ⟨gb, 0, none⟩ = some (.int .i64 i0) by
             have hz : w7.heap[wr.heap.size]? = some (.cells #[.int .i64 i0, .int .i64 i1, .string s, .int .i64 a3, .slice ad nn cc, .int .i64 a5] 45 (0, 0)) := by rw [hw7]; exact blk_set (blk_set (blk_set (blk_set (blk_set (blk_set HZ6.out 0 _) 1 _) 2 _) 3 _) 4 _) 5 _
             rw [hgb]; exact blk_cell hz 0)
           have HG7 := Lib.hid (show GrB W P pc gc q hb c x g i0 r w7 by
             obtain ⟨s1, s2, s3⟩ := sets_far w6 wr.heap.size [(0, .int .i64 i0), (1, .int .i64 i1), (2, .string s), (3, .int .i64 a3), (4, .slice ad nn cc), (5, .int .i64 a5)]
             rw [hw7]
             exact GrB.mk HQ.out (fun L os x ol hW => (hW.write (.inr rfl) s1 s2 s3).forget (fun k hk => hk.elim)))
           rw [← hgb])
        | (obtain ⟨w7, hw7⟩ : ∃ w7, w7 = ((((((w6.setCell ⟨w5.heap.size, 0, none⟩ (.int .i64 i0)).setCell ⟨w5.heap.size, 1, none⟩ (.int .i64 i1)).setCell ⟨w5.heap.size, 2, none⟩ (.string s)).setCell ⟨w5.heap.size, 3, none⟩ (.int .i64 a3)).setCell ⟨w5.heap.size, 4, none⟩ (.slice ad nn cc)).setCell ⟨w5.heap.size, 5, none⟩ (.int .i64 a5)) := ⟨_, rfl⟩; rw [← hw7]; obtain ⟨gb, hgb⟩ : ∃ gb, gb = w5.heap.size := ⟨_, rfl⟩
           have HC7 := Lib.hid (show w7.cell? ⟨gb, 0, none⟩ = some (.int .i64 i0) by
             have hz : w7.heap[w5.heap.size]? = some (.cells #[.int .i64 i0, .int .i64 i1, .string s, .int .i64 a3, .slice ad nn cc, .int .i64 a5] 45 (0, 0)) := by rw [hw7]; exact blk_set (blk_set (blk_set (blk_set (blk_set (blk_set HZ6.out 0 _) 1 _) 2 _) 3 _) 4 _) 5 _
             rw [hgb]; exact blk_cell hz 0)
           have HG7 := Lib.hid (show GrB W P pc gc q hb c x g i0 r w7 by
             obtain ⟨s1, s2, s3⟩ := sets_far w6 w5.heap.size [(0, .int .i64 i0), (1, .int .i64 i1), (2, .string s), (3, .int .i64 a3), (4, .slice ad nn cc), (5, .int .i64 a5)]
             rw [hw7]
             exact GrB.mk HQ.out (fun L os x ol hW => (hW.write (.inr rfl) s1 s2 s3).forget (fun k hk => hk.elim)))
           rw [← hgb])
        | (obtain ⟨w7, hw7⟩ : ∃ w7, w7 = w6.alloc (.cells #[.int .i64 i0, .int .i64 i1, .string s, .int .i64 a3, .slice ad nn cc, .int .i64 a5] 45) := ⟨_, rfl⟩; rw [← hw7]; obtain ⟨gb, hgb⟩ : ∃ gb, gb = w6.heap.size := ⟨_, rfl⟩
           have HC7 := Lib.hid (show w7.cell? ⟨gb, 0, none⟩ = some (.int .i64 i0) by
             rw [hw7, hgb]; exact blk_cell (heap_at w6 (.cells #[.int .i64 i0, .int .i64 i1, .string s, .int .i64 a3, .slice ad nn cc, .int .i64 a5] 45) _ rfl) 0)
           have HG7 := Lib.hid (show GrB W P pc gc q hb c x g i0 r w7 by
             rw [hw7]
             exact GrB.mk HQ.out (fun L os x ol hW => hW.below (below_one _ _)))
           rw [← hgb])
      all_goals
        clear hw7 hgb
        go_wp2_with fail
        go_meet
        exact ⟨gb, i0, r, rfl, rfl, HC7.out, HG7⟩
    case rest =>
      obtain ⟨gb, i0, r, rfl, rfl, hcell, HG⟩ := hcut
      clear b0 l0 k0
      rcases HG.out with ⟨h1, rfl, h3, h4⟩ | ⟨rfl, rfl, h3, h4, h5⟩
      · have HW4 := Lib.hid h4
        have hr : r = 10 ∨ r = 11 := by
          rcases Bool.or_eq_true _ _ |>.mp h3 with h | h
          · exact .inl (by simpa using h)
          · exact .inr (by simpa using h)
        clear h1 h3 h4 HG
        rcases hr with rfl | rfl
        all_goals
          go_wp2_with fail
          exact HT.out _ _ _ _ _ _ _ _ _ _ _ _ _ _ _ _ _ _ _ _ _ _ _ _ _ _ _ _ _ _ _ _ _ _ _ _ _ _ _ _ _ wc HW4.out.out
      · have HW5 := Lib.hid h5
        have HP := Lib.hid h3
        have HM := Lib.hid h4
        clear h3 h4 h5 HG
        go_wp2_with fail
        exact HR.out _ _ _ _ _ _ _ _ _ _ _ _ _ _ _ _ _ _ _ _ _ _ _ _ _ _ _ _ _ _ _ _ _ _ _ _ _ _ _ _ (n : Int) 1 1 (g + P.t) wc (.inr ⟨by decide, rfl⟩) (HI.out.grant HC.out HH.out.2 HP.out HM.out (by have := HH.out.1; omega)) HW5.out
  · have hd : ((n : Int) == P.granted) = false ∨ (((n : Int) == P.granted) = true ∧ decide (0 ≤ sent) = false) := by
      by_cases h : (n : Int) = P.granted
      · exact .inr ⟨by rw [h]; simp, decide_eq_false (fun hh => h1 ⟨h, hh⟩)⟩
      · exact .inl (by simpa using h)
    clear h1
    rcases hd with e1 | ⟨e1, e2⟩
    all_goals
      go_wp2_with fail
      exact HR.out _ _ _ _ _ _ _ _ _ _ _ _ _ _ _ _ _ _ _ _ _ _ _ _ _ _ _ _ _ _ _ _ _ _ _ _ _ _ _ _ since id gs x wr HID.out (HI.out.wide (by omega) (Int.le_refl _) (Int.le_refl _)) HW.out
end Go.Proofs.YtchdfogifhfclaaGreatDoor
