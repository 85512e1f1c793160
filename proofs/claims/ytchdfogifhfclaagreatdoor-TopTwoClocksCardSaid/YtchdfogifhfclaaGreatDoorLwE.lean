/- TopTwoClocks: who may use the lease has a grant that stands (printed by mklw.py). -/
import Derived.Test.YtchdfogifhfclaaGreatDoorLwAM
namespace Go.Proofs.YtchdfogifhfclaaGreatDoor
open Go.RowKit Go.Maps Go.MapKept

set_option maxRecDepth 100000 in
set_option maxHeartbeats 8000000 in
theorem stE {W : World} {P : Pn} {pc gc : Nat} {q : Gs} {hb : Nat} {ta : Option Addr} {tn tc : Nat} {sent since id : Int} {n : Nat} {wr : World} {KK : Act → World → Prop} {QR : Act → World → Prop} {ds : List Deferred} {u0 u3 u4 u6 u7 u8 u9 u10 u12 u14 u19 u21 u22 u23 u24 u25 u26 u27 u28 u29 u30 u31 u32 u33 u34 u35 u36 u37 u38 u39 u40 u41 u42 u43 u44 u45 u46 u47 u48 u49 u50 u51 u52 u53 u54 u55 u56 u57 u58 u59 u60 u61 u62 u63 u64 u65 u66 u67 u68 u69 u70 u71 u72 u73 u74 u75 u76 u77 u78 u79 u80 u81 u82 u83 u84 u85 u86 u87 u88 u89 u90 u91 u92 u93 u94 u95 u96 u97 u98 u99 u100 u101 u102 u103 u104 u105 u106 u107 u108 u109 u110 u111 u112 u113 u114 u115 u116 u117 u118 u119 u120 u121 u122 u123 u124 u125 u126 u127 u128 u129 u130 u131 u132 u133 u134 u135 u136 u137 u138 u139 u140 u141 u142 u143 u144 u145 u146 u147 u148 u149 u150 u151 u152 u153 u154 u155 u156 u157 u158 u159 u160 u161 u162 u163 u164 u165 u166 u167 u168 u169 u170 u171 u172 u173 u174 u175 u176 u177 u178 u179 u180 u181 u182 u183 u184 u185 u186 u187 u188 u189 u190 u191 u192 u193 u194 u195 u196 u197 u198 u199 u200 u201 u202 u203 u204 u205 u206 u207 u208 u209 u210 u211 u212 u213 u214 u215 u216 u217 u218 u219 u220 u221 u222 u223 u224 u225 u226 u227 u228 u229 u230 u231 u232 u233 u234 u235 u236 u237 u238 u239 u240 u241 u242 u243 u244 u245 u246 u247 u248 u249 u250 u251 u252 u253 u254 u255 u256 u257 u258 u259 u260 u261 u262 u263 u264 u265 u266 u267 u268 u269 u270 u271 u272 u273 u274 u275 u276 u277 u278 u279 u280 u281 u282 u283 u284 u285 u286 u287 u288 u289 u290 u291 u292 u293 u294 u295 u296 u297 u298 u299 u300 u301 u302 u303 u304 u305 u306 u307 u308 u309 u310 u311 u312 u313 : Value} {gs : Nat} {c : Ck8.Ck} {x : Int} {ol : Option Ls} {g h : Int}
    (hc : c.now = [g, h]) (hid : (gs = 0 ∧ id = 0 ∨ gs ≠ 0 ∧ id = 1)) (hs : P.pa.size ≤ 140737488355328) (I : Inv P (n + 1) (n + 1) (n + 1) gs c x ol sent) (H : Wd W P pc gc q hb (fun _ => False) c (LOf P gs) (osOf P gs) x ol wr)
    (hrest : ∀ v4 v30 v31 v260 v261 v262 v263 v264 v265 v266 v267 v268 v269 v270 v271 v272 v273 v274 v275 v276 v277 v278 v279 v280 v281 (wc : World), Wd W P pc gc q hb (fun _ => False) c (LOf P gs) (osOf P gs) x ol wc → KK ⟨#[u0, .slice ta tn tc, .pointer (some ⟨W.heap.size, 0, none⟩), u3, v4, .pointer (some ⟨pc, 0, none⟩), u6, u7, u8, u9, u10, .pointer (some ⟨q.g, 0, none⟩), u12, .pointer (some ⟨hb, 0, none⟩), u14, .int .i64 P.t, .int .i64 sent, .int .i64 since, .int .i64 id, u19, .int .i64 (n : Int), u21, u22, u23, u24, u25, u26, u27, u28, u29, v30, v31, u32, u33, u34, u35, u36, u37, u38, u39, u40, u41, u42, u43, u44, u45, u46, u47, u48, u49, u50, u51, u52, u53, u54, u55, u56, u57, u58, u59, u60, u61, u62, u63, u64, u65, u66, u67, u68, u69, u70, u71, u72, u73, u74, u75, u76, u77, u78, u79, u80, u81, u82, u83, u84, u85, u86, u87, u88, u89, u90, u91, u92, u93, u94, u95, u96, u97, u98, u99, u100, u101, u102, u103, u104, u105, u106, u107, u108, u109, u110, u111, u112, u113, u114, u115, u116, u117, u118, u119, u120, u121, u122, u123, u124, u125, u126, u127, u128, u129, u130, u131, u132, u133, u134, u135, u136, u137, u138, u139, u140, u141, u142, u143, u144, u145, u146, u147, u148, u149, u150, u151, u152, u153, u154, u155, u156, u157, u158, u159, u160, u161, u162, u163, u164, u165, u166, u167, u168, u169, u170, u171, u172, u173, u174, u175, u176, u177, u178, u179, u180, u181, u182, u183, u184, u185, u186, u187, u188, u189, u190, u191, u192, u193, u194, u195, u196, u197, u198, u199, u200, u201, u202, u203, u204, u205, u206, u207, u208, u209, u210, u211, u212, u213, u214, u215, u216, u217, u218, u219, u220, u221, u222, u223, u224, u225, u226, u227, u228, u229, u230, u231, u232, u233, u234, u235, u236, u237, u238, u239, u240, u241, u242, u243, u244, u245, u246, u247, u248, u249, u250, u251, u252, u253, u254, u255, u256, u257, u258, u259, v260, v261, v262, v263, v264, v265, v266, v267, v268, v269, v270, v271, v272, v273, v274, v275, v276, v277, v278, v279, v280, v281, u282, u283, u284, u285, u286, u287, u288, u289, u290, u291, u292, u293, u294, u295, u296, u297, u298, u299, u300, u301, u302, u303, u304, u305, u306, u307, u308, u309, u310, u311, u312, u313], ds⟩ wc) :
    ((Tryz.f3.body.bind (Cd.stm 36)).getD .skip).wp Tryz.prog (Exit.then KK (retQ QR)) ⟨#[u0, .slice ta tn tc, .pointer (some ⟨W.heap.size, 0, none⟩), u3, u4, .pointer (some ⟨pc, 0, none⟩), u6, u7, u8, u9, u10, .pointer (some ⟨q.g, 0, none⟩), u12, .pointer (some ⟨hb, 0, none⟩), u14, .int .i64 P.t, .int .i64 sent, .int .i64 since, .int .i64 id, u19, .int .i64 (n : Int), u21, u22, u23, u24, u25, u26, u27, u28, u29, u30, u31, u32, u33, u34, u35, u36, u37, u38, u39, u40, u41, u42, u43, u44, u45, u46, u47, u48, u49, u50, u51, u52, u53, u54, u55, u56, u57, u58, u59, u60, u61, u62, u63, u64, u65, u66, u67, u68, u69, u70, u71, u72, u73, u74, u75, u76, u77, u78, u79, u80, u81, u82, u83, u84, u85, u86, u87, u88, u89, u90, u91, u92, u93, u94, u95, u96, u97, u98, u99, u100, u101, u102, u103, u104, u105, u106, u107, u108, u109, u110, u111, u112, u113, u114, u115, u116, u117, u118, u119, u120, u121, u122, u123, u124, u125, u126, u127, u128, u129, u130, u131, u132, u133, u134, u135, u136, u137, u138, u139, u140, u141, u142, u143, u144, u145, u146, u147, u148, u149, u150, u151, u152, u153, u154, u155, u156, u157, u158, u159, u160, u161, u162, u163, u164, u165, u166, u167, u168, u169, u170, u171, u172, u173, u174, u175, u176, u177, u178, u179, u180, u181, u182, u183, u184, u185, u186, u187, u188, u189, u190, u191, u192, u193, u194, u195, u196, u197, u198, u199, u200, u201, u202, u203, u204, u205, u206, u207, u208, u209, u210, u211, u212, u213, u214, u215, u216, u217, u218, u219, u220, u221, u222, u223, u224, u225, u226, u227, u228, u229, u230, u231, u232, u233, u234, u235, u236, u237, u238, u239, u240, u241, u242, u243, u244, u245, u246, u247, u248, u249, u250, u251, u252, u253, u254, u255, u256, u257, u258, u259, u260, u261, u262, u263, u264, u265, u266, u267, u268, u269, u270, u271, u272, u273, u274, u275, u276, u277, u278, u279, u280, u281, u282, u283, u284, u285, u286, u287, u288, u289, u290, u291, u292, u293, u294, u295, u296, u297, u298, u299, u300, u301, u302, u303, u304, u305, u306, u307, u308, u309, u310, u311, u312, u313], ds⟩ wr := by
  dsimp [Tryz.f3, Cd.stm, Cd.first, Option.bind, Option.or, Option.getD]
  have b0 := blk_cell H.box
  have l0 := lt_of_heap H.box
  have HWA := Lib.hid H
  have HI := Lib.hid I
  have HC := Lib.hid hc
  have HS := Lib.hid hs
  have HID := Lib.hid hid
  have HR := Lib.hid hrest
  clear I hc hrest hs hid
  obtain ⟨wu, hwu⟩ : ∃ wu, wu = wr := ⟨_, rfl⟩
  obtain rfl := hwu
  clear H
  unfold planC plC at b0
  go_upto_region 36 with fail
  go_cut [31] from 260 to 270 (fun u31 wd => ∃ (r : Int), u31 = .int .i64 r ∧ (r == 0) = live ol h ∧ Hid (Wd W P pc gc q hb (fun _ => False) c (LOf P gs) (osOf P gs) x ol wd))
  case first =>
    go_region_held_law (fun u => ∀ i, u.cell? ⟨W.heap.size, i, none⟩ = #[Value.int .i64 P.rho, Value.int .i64 P.T, Value.int .i64 P.sent, Value.int .i64 P.granted, Value.int .i64 P.come, Value.int .i64 P.renews, Value.string P.pa, Value.int .i64 P.m][i]?) ((refine ?_; (repeat (first | (with_reducible assumption) | (with_reducible refine cells_drew ?_) | ((with_reducible refine cells_set ?_ _ _ ?_); rotate_left; (dsimp only; omega)) | (with_reducible refine cells_alloc ?_ (by first | assumption | omega | (simp; omega)) _))))) (first
      | (go_simp; go_at_call 9; first
        | ((refine (now1_w HWA.out.drew HC.out).mono ?_); rintro e w5 ⟨rfl, rfl⟩)
        | ((refine (now1_w (HWA.out.drew.alloc (.cells #[.int .i64 0, .int .i64 0, .string ⟨#[]⟩, .int .i64 0, .slice none 0 0, .int .i64 0, .int .i64 0, .int .i64 0, .bool false] 49)) HC.out).mono ?_); rintro e w5 ⟨rfl, rfl⟩))
      | (go_simp; go_at_call 13; first
        | ((refine (use_w (h := h) HWA.out.drew HI.out HS.out).mono ?_); rintro e w6 ⟨a0, a1, s, a3, ad, nn, cc, a5, a6, a7, b8, r, rfl, hlv, hb6⟩; have HV7 := Lib.hid hlv; have HU6 := Lib.hid (HWA.out.drew.below hb6); have q6 := blk_cell HU6.out.box; have q9 := lt_of_heap HU6.out.box; clear hlv hb6; unfold planC plC at q6; unfold LcV)
        | ((refine (use_w (h := h) (HWA.out.drew.alloc (.cells #[.int .i64 0, .int .i64 0, .string ⟨#[]⟩, .int .i64 0, .slice none 0 0, .int .i64 0, .int .i64 0, .int .i64 0, .bool false] 49)) HI.out HS.out).mono ?_); rintro e w6 ⟨a0, a1, s, a3, ad, nn, cc, a5, a6, a7, b8, r, rfl, hlv, hb6⟩; have HV7 := Lib.hid hlv; have HU6 := Lib.hid ((HWA.out.drew.alloc (.cells #[.int .i64 0, .int .i64 0, .string ⟨#[]⟩, .int .i64 0, .slice none 0 0, .int .i64 0, .int .i64 0, .int .i64 0, .bool false] 49)).below hb6); have z6 := (hb6.block wu.heap.size (by simp)).trans (heap_at wu.drew (.cells #[.int .i64 0, .int .i64 0, .string ⟨#[]⟩, .int .i64 0, .slice none 0 0, .int .i64 0, .int .i64 0, .int .i64 0, .bool false] 49) wu.heap.size rfl); have z0 := blk_cell z6; have zf := blk_free z6; have zl := lt_of_heap z6; have q6 := blk_cell HU6.out.box; have q9 := lt_of_heap HU6.out.box; clear hlv hb6 z6; unfold planC plC at q6; unfold LcV)))
    all_goals first
      | (obtain ⟨w7, hw7⟩ : ∃ w7, w7 = (((((((((w6.setCell ⟨wu.heap.size, 0, none⟩ (.int .i64 a0)).setCell ⟨wu.heap.size, 1, none⟩ (.int .i64 a1)).setCell ⟨wu.heap.size, 2, none⟩ (.string s)).setCell ⟨wu.heap.size, 3, none⟩ (.int .i64 a3)).setCell ⟨wu.heap.size, 4, none⟩ (.slice ad nn cc)).setCell ⟨wu.heap.size, 5, none⟩ (.int .i64 a5)).setCell ⟨wu.heap.size, 6, none⟩ (.int .i64 a6)).setCell ⟨wu.heap.size, 7, none⟩ (.int .i64 a7)).setCell ⟨wu.heap.size, 8, none⟩ (.bool b8)) := ⟨_, rfl⟩; rw [← hw7]
         have HU7 := Lib.hid (show Wd W P pc gc q hb (fun _ => False) c (LOf P gs) (osOf P gs) x ol w7 by
           obtain ⟨s1, s2, s3⟩ := sets_far w6 wu.heap.size [(0, .int .i64 a0), (1, .int .i64 a1), (2, .string s), (3, .int .i64 a3), (4, .slice ad nn cc), (5, .int .i64 a5), (6, .int .i64 a6), (7, .int .i64 a7), (8, .bool b8)]
           rw [hw7]
           exact (HU6.out.write (.inr rfl) s1 s2 s3).forget (fun k hk => hk.elim)))
      | (obtain ⟨w7, hw7⟩ : ∃ w7, w7 = w6.alloc (.cells #[.int .i64 a0, .int .i64 a1, .string s, .int .i64 a3, .slice ad nn cc, .int .i64 a5, .int .i64 a6, .int .i64 a7, .bool b8] 49) := ⟨_, rfl⟩; rw [← hw7]
         have HU7 := Lib.hid (show Wd W P pc gc q hb (fun _ => False) c (LOf P gs) (osOf P gs) x ol w7 by
           rw [hw7]
           exact HU6.out.below (below_one _ _)))
    all_goals
      clear hw7
      go_wp2_with fail
      go_meet
      exact ⟨r, rfl, HV7.out, HU7⟩
  case rest =>
    obtain ⟨r, rfl, hlv, HU⟩ := hcut
    clear b0 l0
    cases hl : live ol h with
    | false =>
      rw [hl] at hlv
      clear hl
      go_upto_region 37 with fail
      go_quiet (fail)
      obtain ⟨n1, rfl⟩ : ∃ n1 : Nat, n1 = nq := ⟨_, rfl⟩
      go_wp2_with fail
      exact HR.out _ _ _ _ _ _ _ _ _ _ _ _ _ _ _ _ _ _ _ _ _ _ _ _ _ _ (HU.out.below (Ck8.below_drewN _ n1))
    | true =>
      have HST := Lib.hid (stands_w HU.out.drew HI.out HC.out hl)
      have b1 := blk_cell HU.out.box
      have l1 := lt_of_heap HU.out.box
      have hg := (HI.out.safe HC.out hl).1
      obtain rfl : id = 1 := by have := HID.out; omega
      rw [hl] at hlv
      clear hl hg
      unfold planC plC at b1 HST
      go_upto_region 37 with fail
      go_cut [281] from 271 to 281 (fun u281 wd' => u281 = .bool false ∧ Hid (Wd W P pc gc q hb (fun _ => False) c (LOf P gs) (osOf P gs) x ol wd'))
      case first =>
        go_region_held_law (fun u => ∀ i, u.cell? ⟨W.heap.size, i, none⟩ = #[Value.int .i64 P.rho, Value.int .i64 P.T, Value.int .i64 P.sent, Value.int .i64 P.granted, Value.int .i64 P.come, Value.int .i64 P.renews, Value.string P.pa, Value.int .i64 P.m][i]?) ((refine ?_; (repeat (first | (with_reducible assumption) | (with_reducible refine cells_drew ?_) | ((with_reducible refine cells_set ?_ _ _ ?_); rotate_left; (dsimp only; omega)) | (with_reducible refine cells_alloc ?_ (by first | assumption | omega | (simp; omega)) _))))) (first
          | (go_simp; go_at_call 9; (refine (now0_w HU.out.drew HC.out).mono ?_); rintro e w8 ⟨rfl, rfl⟩)
          | (go_simp; go_at_call 16; (refine HST.out.mono ?_); rintro e w8 ⟨rfl, hw8⟩; have HW8 := Lib.hid hw8; have q8 := blk_cell hw8.box; clear hw8; unfold planC plC at q8))
        all_goals
          go_wp2_with fail
          go_meet
          exact ⟨rfl, HW8⟩
      case rest =>
        obtain ⟨rfl, HU2⟩ := hcut
        go_wp2_with fail
        exact HR.out _ _ _ _ _ _ _ _ _ _ _ _ _ _ _ _ _ _ _ _ _ _ _ _ _ _ HU2.out
end Go.Proofs.YtchdfogifhfclaaGreatDoor
