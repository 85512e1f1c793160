/- TopTwoClocks: it is renewed (printed by mklw.py). -/
import Derived.Test.YtchdfogifhfclaaGreatDoorLwAM
namespace Go.Proofs.YtchdfogifhfclaaGreatDoor
open Go.RowKit Go.Maps Go.MapKept

set_option maxRecDepth 100000 in
set_option maxHeartbeats 8000000 in
theorem stD {W : World} {P : Pn} {pc gc : Nat} {q : Gs} {hb : Nat} {ta : Option Addr} {tn tc : Nat} {sent since id : Int} {n : Nat} {wr : World} {KK : Act → World → Prop} {QR : Act → World → Prop} {ds : List Deferred} {u0 u3 u4 u6 u7 u8 u9 u10 u12 u14 u19 u21 u22 u23 u24 u25 u26 u27 u28 u29 u30 u31 u32 u33 u34 u35 u36 u37 u38 u39 u40 u41 u42 u43 u44 u45 u46 u47 u48 u49 u50 u51 u52 u53 u54 u55 u56 u57 u58 u59 u60 u61 u62 u63 u64 u65 u66 u67 u68 u69 u70 u71 u72 u73 u74 u75 u76 u77 u78 u79 u80 u81 u82 u83 u84 u85 u86 u87 u88 u89 u90 u91 u92 u93 u94 u95 u96 u97 u98 u99 u100 u101 u102 u103 u104 u105 u106 u107 u108 u109 u110 u111 u112 u113 u114 u115 u116 u117 u118 u119 u120 u121 u122 u123 u124 u125 u126 u127 u128 u129 u130 u131 u132 u133 u134 u135 u136 u137 u138 u139 u140 u141 u142 u143 u144 u145 u146 u147 u148 u149 u150 u151 u152 u153 u154 u155 u156 u157 u158 u159 u160 u161 u162 u163 u164 u165 u166 u167 u168 u169 u170 u171 u172 u173 u174 u175 u176 u177 u178 u179 u180 u181 u182 u183 u184 u185 u186 u187 u188 u189 u190 u191 u192 u193 u194 u195 u196 u197 u198 u199 u200 u201 u202 u203 u204 u205 u206 u207 u208 u209 u210 u211 u212 u213 u214 u215 u216 u217 u218 u219 u220 u221 u222 u223 u224 u225 u226 u227 u228 u229 u230 u231 u232 u233 u234 u235 u236 u237 u238 u239 u240 u241 u242 u243 u244 u245 u246 u247 u248 u249 u250 u251 u252 u253 u254 u255 u256 u257 u258 u259 u260 u261 u262 u263 u264 u265 u266 u267 u268 u269 u270 u271 u272 u273 u274 u275 u276 u277 u278 u279 u280 u281 u282 u283 u284 u285 u286 u287 u288 u289 u290 u291 u292 u293 u294 u295 u296 u297 u298 u299 u300 u301 u302 u303 u304 u305 u306 u307 u308 u309 u310 u311 u312 u313 : Value} {gs : Nat} {c : Ck8.Ck} {x : Int} {ol : Option Ls} {g h : Int}
    (hc : c.now = [g, h]) (hid : (gs = 0 ∧ id = 0 ∨ gs ≠ 0 ∧ id = 1)) (hs : P.pa.size ≤ 140737488355328) (I : Inv P (n + 1) (n + 1) n gs c x ol sent) (H : Wd W P pc gc q hb (fun _ => False) c (LOf P gs) (osOf P gs) x ol wr)
    (hrest : ∀ v4 v19 v26 v27 v28 v29 v210 v211 v212 v213 v214 v215 v216 v217 v218 v219 v220 v221 v222 v223 v224 v225 v226 v227 v228 v229 v230 v231 v232 v233 v234 v235 v236 v237 v238 v239 v240 v241 v242 v243 v244 v245 v246 v247 v248 v249 v250 v251 v252 v253 v254 v255 v256 v257 v258 v259 (gs' : Nat) (x' : Int) (ol' : Option Ls) (wc : World), (gs' = 0 ∧ id = 0 ∨ gs' ≠ 0 ∧ id = 1) → Inv P (n + 1) (n + 1) (n + 1) gs' c x' ol' sent → Wd W P pc gc q hb (fun _ => False) c (LOf P gs') (osOf P gs') x' ol' wc → KK ⟨#[u0, .slice ta tn tc, .pointer (some ⟨W.heap.size, 0, none⟩), u3, v4, .pointer (some ⟨pc, 0, none⟩), u6, u7, u8, u9, u10, .pointer (some ⟨q.g, 0, none⟩), u12, .pointer (some ⟨hb, 0, none⟩), u14, .int .i64 P.t, .int .i64 sent, .int .i64 since, .int .i64 id, v19, .int .i64 (n : Int), u21, u22, u23, u24, u25, v26, v27, v28, v29, u30, u31, u32, u33, u34, u35, u36, u37, u38, u39, u40, u41, u42, u43, u44, u45, u46, u47, u48, u49, u50, u51, u52, u53, u54, u55, u56, u57, u58, u59, u60, u61, u62, u63, u64, u65, u66, u67, u68, u69, u70, u71, u72, u73, u74, u75, u76, u77, u78, u79, u80, u81, u82, u83, u84, u85, u86, u87, u88, u89, u90, u91, u92, u93, u94, u95, u96, u97, u98, u99, u100, u101, u102, u103, u104, u105, u106, u107, u108, u109, u110, u111, u112, u113, u114, u115, u116, u117, u118, u119, u120, u121, u122, u123, u124, u125, u126, u127, u128, u129, u130, u131, u132, u133, u134, u135, u136, u137, u138, u139, u140, u141, u142, u143, u144, u145, u146, u147, u148, u149, u150, u151, u152, u153, u154, u155, u156, u157, u158, u159, u160, u161, u162, u163, u164, u165, u166, u167, u168, u169, u170, u171, u172, u173, u174, u175, u176, u177, u178, u179, u180, u181, u182, u183, u184, u185, u186, u187, u188, u189, u190, u191, u192, u193, u194, u195, u196, u197, u198, u199, u200, u201, u202, u203, u204, u205, u206, u207, u208, u209, v210, v211, v212, v213, v214, v215, v216, v217, v218, v219, v220, v221, v222, v223, v224, v225, v226, v227, v228, v229, v230, v231, v232, v233, v234, v235, v236, v237, v238, v239, v240, v241, v242, v243, v244, v245, v246, v247, v248, v249, v250, v251, v252, v253, v254, v255, v256, v257, v258, v259, u260, u261, u262, u263, u264, u265, u266, u267, u268, u269, u270, u271, u272, u273, u274, u275, u276, u277, u278, u279, u280, u281, u282, u283, u284, u285, u286, u287, u288, u289, u290, u291, u292, u293, u294, u295, u296, u297, u298, u299, u300, u301, u302, u303, u304, u305, u306, u307, u308, u309, u310, u311, u312, u313], ds⟩ wc) :
    ((Tryz.f3.body.bind (Cd.stm 28)).getD .skip).wp Tryz.prog (Exit.then KK (retQ QR)) ⟨#[u0, .slice ta tn tc, .pointer (some ⟨W.heap.size, 0, none⟩), u3, u4, .pointer (some ⟨pc, 0, none⟩), u6, u7, u8, u9, u10, .pointer (some ⟨q.g, 0, none⟩), u12, .pointer (some ⟨hb, 0, none⟩), u14, .int .i64 P.t, .int .i64 sent, .int .i64 since, .int .i64 id, u19, .int .i64 (n : Int), u21, u22, u23, u24, u25, u26, u27, u28, u29, u30, u31, u32, u33, u34, u35, u36, u37, u38, u39, u40, u41, u42, u43, u44, u45, u46, u47, u48, u49, u50, u51, u52, u53, u54, u55, u56, u57, u58, u59, u60, u61, u62, u63, u64, u65, u66, u67, u68, u69, u70, u71, u72, u73, u74, u75, u76, u77, u78, u79, u80, u81, u82, u83, u84, u85, u86, u87, u88, u89, u90, u91, u92, u93, u94, u95, u96, u97, u98, u99, u100, u101, u102, u103, u104, u105, u106, u107, u108, u109, u110, u111, u112, u113, u114, u115, u116, u117, u118, u119, u120, u121, u122, u123, u124, u125, u126, u127, u128, u129, u130, u131, u132, u133, u134, u135, u136, u137, u138, u139, u140, u141, u142, u143, u144, u145, u146, u147, u148, u149, u150, u151, u152, u153, u154, u155, u156, u157, u158, u159, u160, u161, u162, u163, u164, u165, u166, u167, u168, u169, u170, u171, u172, u173, u174, u175, u176, u177, u178, u179, u180, u181, u182, u183, u184, u185, u186, u187, u188, u189, u190, u191, u192, u193, u194, u195, u196, u197, u198, u199, u200, u201, u202, u203, u204, u205, u206, u207, u208, u209, u210, u211, u212, u213, u214, u215, u216, u217, u218, u219, u220, u221, u222, u223, u224, u225, u226, u227, u228, u229, u230, u231, u232, u233, u234, u235, u236, u237, u238, u239, u240, u241, u242, u243, u244, u245, u246, u247, u248, u249, u250, u251, u252, u253, u254, u255, u256, u257, u258, u259, u260, u261, u262, u263, u264, u265, u266, u267, u268, u269, u270, u271, u272, u273, u274, u275, u276, u277, u278, u279, u280, u281, u282, u283, u284, u285, u286, u287, u288, u289, u290, u291, u292, u293, u294, u295, u296, u297, u298, u299, u300, u301, u302, u303, u304, u305, u306, u307, u308, u309, u310, u311, u312, u313], ds⟩ wr := by
  dsimp [Tryz.f3, Cd.stm, Cd.first, Option.bind, Option.or, Option.getD]
  have b0 := blk_cell H.box
  have l0 := lt_of_heap H.box
  have HW := Lib.hid H
  have HI := Lib.hid I
  have HC := Lib.hid hc
  have HS := Lib.hid hs
  have HID := Lib.hid hid
  have HR := Lib.hid hrest
  clear H I hc hrest hs hid
  unfold planC plC at b0
  have k0 : (0 : Int) ≤ (n : Int) := by omega
  by_cases h1 : (n : Int) = P.renews ∧ id = 1 ∧ P.come ≤ (n : Int)
  · obtain ⟨h1, rfl, h3⟩ := h1
    have e1 : ((n : Int) == P.renews) = true := by rw [h1]; simp
    have e3 : decide (P.come ≤ (n : Int)) = true := decide_eq_true h3
    have hg : gs ≠ 0 := by have := HID.out; omega
    obtain rfl := HI.out.is1 hg (by rw [h1]; exact Int.le_refl _)
    have HH := Lib.hid h1
    clear h1 h3 hg
    go_wp2_with fail
    refine (now1_w HW.out HC.out).mono ?_
    rintro e w9 ⟨rfl, rfl⟩
    go_wp2_with fail
    refine (now0_w HW.out HC.out).mono ?_
    rintro e w9 ⟨rfl, rfl⟩
    go_wp2_with fail
    refine (root_any _).mono ?_
    rintro e w5 ⟨rfl, hb5⟩
    have HW5 := Lib.hid (HW.out.below hb5)
    clear hb5 b0 l0
    go_wp2_with fail
    refine (renew_w HW5.out HI.out (HI.out.bounds HC.out).1).mono ?_
    rintro e w6 ⟨i0, i1, s, a3, ad, nn, cc, a5, r, rfl, hq⟩
    unfold GcV
    rcases hq with ⟨rfl, hx, hw⟩ | ⟨rfl, hx, hiv, hw⟩
    · have hlv : live ol h = false := by
        cases hl : live ol h with
        | false => rfl
        | true => have := (HI.out.safe HC.out hl).2; omega
      have HLV := Lib.hid hlv
      go_upto_region 33 with fail
      obtain ⟨wu, hwu⟩ : ∃ wu, wu = w6.alloc (.cells #[.int .i64 i0, .int .i64 i1, .string s, .int .i64 a3, .slice ad nn cc, .int .i64 a5] 45) := ⟨_, rfl⟩
      rw [← hwu]
      have HWA := Lib.hid (show Wd W P pc gc q hb (fun _ => False) c (LOf P 1) (osOf P 1) x ol wu by rw [hwu]; exact hw.below (below_one _ _))
      have b0 := blk_cell HWA.out.box
      have l0 := lt_of_heap HWA.out.box
      clear hwu hw hx hlv
      unfold planC plC at b0
      go_cut [29] from 247 to 257 (fun u29 wd => ∃ (r : Int), u29 = .int .i64 r ∧ (r == 0) = live ol h ∧ Hid (Wd W P pc gc q hb (fun _ => False) c (LOf P 1) (osOf P 1) x ol wd))
      case first =>
        go_region_held_law (fun u => ∀ i, u.cell? ⟨W.heap.size, i, none⟩ = #[Value.int .i64 P.rho, Value.int .i64 P.T, Value.int .i64 P.sent, Value.int .i64 P.granted, Value.int .i64 P.come, Value.int .i64 P.renews, Value.string P.pa, Value.int .i64 P.m][i]?) ((refine ?_; (repeat (first | (with_reducible assumption) | (with_reducible refine cells_drew ?_) | ((with_reducible refine cells_set ?_ _ _ ?_); rotate_left; (dsimp only; omega)) | (with_reducible refine cells_alloc ?_ (by first | assumption | omega | (simp; omega)) _))))) (first
          | (go_simp; go_at_call 9; first
            | ((refine (now1_w HWA.out.drew HC.out).mono ?_); rintro e w5 ⟨rfl, rfl⟩)
            | ((refine (now1_w (HWA.out.drew.alloc (.cells #[.int .i64 0, .int .i64 0, .string ⟨#[]⟩, .int .i64 0, .slice none 0 0, .int .i64 0, .int .i64 0, .int .i64 0, .bool false] 49)) HC.out).mono ?_); rintro e w5 ⟨rfl, rfl⟩))
          | (go_simp; go_at_call 13; first
            | ((refine (use_w (h := h) HWA.out.drew HI.out HS.out).mono ?_); rintro e w6 ⟨a0, a1, s, a3, ad, nn, cc, a5, a6, a7, b8, r, rfl, hlv, hb6⟩; have HV7 := Lib.hid hlv; have HU6 := Lib.hid (HWA.out.drew.below hb6); have q6 := blk_cell HU6.out.box; have q9 := lt_of_heap HU6.out.box; clear hlv hb6; unfold planC plC at q6; unfold LcV)
            | ((refine (use_w (h := h) (HWA.out.drew.alloc (.cells #[.int .i64 0, .int .i64 0, .string ⟨#[]⟩, .int .i64 0, .slice none 0 0, .int .i64 0, .int .i64 0, .int .i64 0, .bool false] 49)) HI.out HS.out).mono ?_); rintro e w6 ⟨a0, a1, s, a3, ad, nn, cc, a5, a6, a7, b8, r, rfl, hlv, hb6⟩; have HV7 := Lib.hid hlv; have HU6 := Lib.hid ((HWA.out.drew.alloc (.cells #[.int .i64 0, .int .i64 0, .string ⟨#[]⟩, .int .i64 0, .slice none 0 0, .int .i64 0, .int .i64 0, .int .i64 0, .bool false] 49)).below hb6); have z6 := (hb6.block wu.heap.size (by simp)).trans (heap_at wu.drew (.cells #[.int .i64 0, .int .i64 0, .string ⟨#[]⟩, .int .i64 0, .slice none 0 0, .int .i64 0, .int .i64 0, .int .i64 0, .bool false] 49) wu.heap.size rfl); have z0 := blk_cell z6; have zf := blk_free z6; have zl := lt_of_heap z6; have q6 := blk_cell HU6.out.box; have q9 := lt_of_heap HU6.out.box; clear hlv hb6 z6; unfold planC plC at q6; unfold LcV)))
        all_goals first
          | (obtain ⟨w7, hw7⟩ : ∃ w7, w7 = (((((((((w6.setCell ⟨wu.heap.size, 0, none⟩ (.int .i64 a0)).setCell ⟨wu.heap.size, 1, none⟩ (.int .i64 a1)).setCell ⟨wu.heap.size, 2, none⟩ (.string s)).setCell ⟨wu.heap.size, 3, none⟩ (.int .i64 a3)).setCell ⟨wu.heap.size, 4, none⟩ (.slice ad nn cc)).setCell ⟨wu.heap.size, 5, none⟩ (.int .i64 a5)).setCell ⟨wu.heap.size, 6, none⟩ (.int .i64 a6)).setCell ⟨wu.heap.size, 7, none⟩ (.int .i64 a7)).setCell ⟨wu.heap.size, 8, none⟩ (.bool b8)) := ⟨_, rfl⟩; rw [← hw7]
             have HU7 := Lib.hid (show Wd W P pc gc q hb (fun _ => False) c (LOf P 1) (osOf P 1) x ol w7 by
               obtain ⟨s1, s2, s3⟩ := sets_far w6 wu.heap.size [(0, .int .i64 a0), (1, .int .i64 a1), (2, .string s), (3, .int .i64 a3), (4, .slice ad nn cc), (5, .int .i64 a5), (6, .int .i64 a6), (7, .int .i64 a7), (8, .bool b8)]
               rw [hw7]
               exact (HU6.out.write (.inr rfl) s1 s2 s3).forget (fun k hk => hk.elim)))
          | (obtain ⟨w7, hw7⟩ : ∃ w7, w7 = w6.alloc (.cells #[.int .i64 a0, .int .i64 a1, .string s, .int .i64 a3, .slice ad nn cc, .int .i64 a5, .int .i64 a6, .int .i64 a7, .bool b8] 49) := ⟨_, rfl⟩; rw [← hw7]
             have HU7 := Lib.hid (show Wd W P pc gc q hb (fun _ => False) c (LOf P 1) (osOf P 1) x ol w7 by
               rw [hw7]
               exact HU6.out.below (below_one _ _)))
        all_goals
          clear hw7
          go_wp2_with fail
          go_meet
          exact ⟨r, rfl, HV7.out, HU7⟩
      case rest =>
        obtain ⟨r, rfl, hlv, HU⟩ := hcut
        rw [HLV.out] at hlv
        clear b0 l0 k0
        go_wp2_with fail
        exact HR.out _ _ _ _ _ _ _ _ _ _ _ _ _ _ _ _ _ _ _ _ _ _ _ _ _ _ _ _ _ _ _ _ _ _ _ _ _ _ _ _ _ _ _ _ _ _ _ _ _ _ _ _ _ _ _ _ 1 x ol _ HID.out (HI.out.wide (Int.le_refl _) (Int.le_refl _) (by omega)) HU.out
    · go_upto_region 32 with fail
      obtain ⟨wu, hwu⟩ : ∃ wu, wu = w6.alloc (.cells #[.int .i64 i0, .int .i64 i1, .string s, .int .i64 a3, .slice ad nn cc, .int .i64 a5] 45) := ⟨_, rfl⟩
      rw [← hwu]
      have HWA := Lib.hid (show Wd W P pc gc q hb (fun _ => False) c (LOf P 2) (osOf P 2) (max x (g + P.t)) ol wu by rw [hwu]; exact hw.below (below_one _ _))
      have HIV := Lib.hid (show Ck8.IntsV (fun k => w5.heap.size ≤ k) wu (.slice ad nn cc) [2] by rw [hwu]; exact hiv.below (below_one _ _))
      have g0 := blk_cell (show wu.heap[w6.heap.size]? = some (.cells #[.int .i64 i0, .int .i64 i1, .string s, .int .i64 a3, .slice ad nn cc, .int .i64 a5] 45 (0, 0)) by rw [hwu]; exact heap_at w6 (.cells #[.int .i64 i0, .int .i64 i1, .string s, .int .i64 a3, .slice ad nn cc, .int .i64 a5] 45) _ rfl)
      have HRN := Lib.hid (renewed_w (h := h) HWA.out.drew HI.out HC.out (by have := HH.out; omega) (HIV.out.below (Ck8.below_drew wu)))
      clear hwu hw hx hiv k0
      go_region_law (first
        | (go_simp; go_at_call 9; (refine (now1_w HWA.out.drew HC.out).mono ?_); rintro e w8 ⟨rfl, rfl⟩)
        | (go_simp; go_at_call 15; (refine HRN.out.mono ?_); rintro e w8 ⟨bb, ol', rfl, hw8, hi8⟩; have HW8 := Lib.hid hw8; have HI8 := Lib.hid hi8; clear hw8 hi8; skip))
      all_goals exact HR.out _ _ _ _ _ _ _ _ _ _ _ _ _ _ _ _ _ _ _ _ _ _ _ _ _ _ _ _ _ _ _ _ _ _ _ _ _ _ _ _ _ _ _ _ _ _ _ _ _ _ _ _ _ _ _ _ 2 (max x (g + P.t)) ol' w8 (by first | exact .inr ⟨by decide, rfl⟩ | exact .inr ⟨by decide, trivial⟩ | simp) HI8.out HW8.out
  · have hd : ((n : Int) == P.renews) = false ∨ (((n : Int) == P.renews) = true ∧ decide (0 < id) = false) ∨ (((n : Int) == P.renews) = true ∧ decide (0 < id) = true ∧ decide (P.come ≤ (n : Int)) = false) := by
      by_cases h : (n : Int) = P.renews
      · right
        have h' : ((n : Int) == P.renews) = true := by rw [h]; simp
        by_cases h2 : 0 < id
        · refine .inr ⟨h', decide_eq_true h2, decide_eq_false (fun hh => h1 ⟨h, ?_, hh⟩)⟩
          have := HID.out
          omega
        · exact .inl ⟨h', decide_eq_false h2⟩
      · exact .inl (by simpa using h)
    clear h1
    rcases hd with e1 | ⟨e1, e2⟩ | ⟨e1, e2, e3⟩
    all_goals
      go_wp2_with fail
      exact HR.out _ _ _ _ _ _ _ _ _ _ _ _ _ _ _ _ _ _ _ _ _ _ _ _ _ _ _ _ _ _ _ _ _ _ _ _ _ _ _ _ _ _ _ _ _ _ _ _ _ _ _ _ _ _ _ _ gs x ol wr HID.out (HI.out.wide (Int.le_refl _) (Int.le_refl _) (by omega)) HW.out
end Go.Proofs.YtchdfogifhfclaaGreatDoor
