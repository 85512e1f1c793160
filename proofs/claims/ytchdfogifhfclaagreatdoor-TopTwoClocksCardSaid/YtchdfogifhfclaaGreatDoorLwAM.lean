/- A statement of a function's text, found by its first region's number.  TopTwoClocks: the request is sent (printed by mklw.py). -/
import Derived.Test.YtchdfogifhfclaaGreatDoorLwaM
import Derived.Deep.CutRange
import Derived.Deep.CutBlock
namespace Go.Proofs.YtchdfogifhfclaaGreatDoor
open Go.RowKit

/-- The number of a statement's first region (blocks and loops have none). -/
def Cd.first : Code → Option Nat
  | .seq x _ => Cd.first x
  | .region n _ _ => some n
  | _ => none
/-- The outermost statement ahead of others whose first region is n. -/
def Cd.stm (n : Nat) : Code → Option Code
  | .seq x y => if Cd.first x = some n then some x else (Cd.stm n x).or (Cd.stm n y)
  | .cond _ x y => (Cd.stm n x).or (Cd.stm n y)
  | .block _ x => Cd.stm n x
  | .loop x => Cd.stm n x
  | _ => none
/-- A statement that goes on or returns, and does nothing else. -/
def retQ (QR : Act → World → Prop) : Exit → Act → World → Prop := fun e a w => match e with
  | .ret => QR a w
  | _ => False
theorem wp_ret {P : Program} {s : Code} {K QR : Act → World → Prop} {Q : Exit → Act → World → Prop} {a : Act} {w : World} (h : s.wp P (Exit.then K (retQ QR)) a w) (hq : ∀ a w, QR a w → Q .ret a w) : s.wp P (Exit.then K Q) a w :=
  wp_mono h fun e a w h => by
    cases e with
    | normal => exact h
    | ret => exact hq a w h
    | _ => exact absurd h id
end Go.Proofs.YtchdfogifhfclaaGreatDoor
namespace Go.Proofs.YtchdfogifhfclaaGreatDoor
open Go.RowKit Go.Maps Go.MapKept

set_option maxRecDepth 100000 in
set_option maxHeartbeats 8000000 in
theorem stA {W : World} {P : Pn} {pc gc : Nat} {q : Gs} {hb : Nat} {ta : Option Addr} {tn tc : Nat} {sent since id : Int} {n : Nat} {wr : World} {KK : Act → World → Prop} {QR : Act → World → Prop} {ds : List Deferred} {u0 u3 u4 u6 u7 u8 u9 u10 u12 u14 u19 u21 u22 u23 u24 u25 u26 u27 u28 u29 u30 u31 u32 u33 u34 u35 u36 u37 u38 u39 u40 u41 u42 u43 u44 u45 u46 u47 u48 u49 u50 u51 u52 u53 u54 u55 u56 u57 u58 u59 u60 u61 u62 u63 u64 u65 u66 u67 u68 u69 u70 u71 u72 u73 u74 u75 u76 u77 u78 u79 u80 u81 u82 u83 u84 u85 u86 u87 u88 u89 u90 u91 u92 u93 u94 u95 u96 u97 u98 u99 u100 u101 u102 u103 u104 u105 u106 u107 u108 u109 u110 u111 u112 u113 u114 u115 u116 u117 u118 u119 u120 u121 u122 u123 u124 u125 u126 u127 u128 u129 u130 u131 u132 u133 u134 u135 u136 u137 u138 u139 u140 u141 u142 u143 u144 u145 u146 u147 u148 u149 u150 u151 u152 u153 u154 u155 u156 u157 u158 u159 u160 u161 u162 u163 u164 u165 u166 u167 u168 u169 u170 u171 u172 u173 u174 u175 u176 u177 u178 u179 u180 u181 u182 u183 u184 u185 u186 u187 u188 u189 u190 u191 u192 u193 u194 u195 u196 u197 u198 u199 u200 u201 u202 u203 u204 u205 u206 u207 u208 u209 u210 u211 u212 u213 u214 u215 u216 u217 u218 u219 u220 u221 u222 u223 u224 u225 u226 u227 u228 u229 u230 u231 u232 u233 u234 u235 u236 u237 u238 u239 u240 u241 u242 u243 u244 u245 u246 u247 u248 u249 u250 u251 u252 u253 u254 u255 u256 u257 u258 u259 u260 u261 u262 u263 u264 u265 u266 u267 u268 u269 u270 u271 u272 u273 u274 u275 u276 u277 u278 u279 u280 u281 u282 u283 u284 u285 u286 u287 u288 u289 u290 u291 u292 u293 u294 u295 u296 u297 u298 u299 u300 u301 u302 u303 u304 u305 u306 u307 u308 u309 u310 u311 u312 u313 : Value} {gs : Nat} {c : Ck8.Ck} {x : Int} {ol : Option Ls} {g h : Int}
    (hc : c.now = [g, h]) (I : Inv P n n n gs c x ol sent) (H : Wd W P pc gc q hb (fun _ => False) c (LOf P gs) (osOf P gs) x ol wr)
    (hrest : ∀ v110 v111 v112 v113 v114 v115 v116 v117 v118 v119 v120 v121 (sent' : Int), Inv P n n n gs c x ol sent' → KK ⟨#[u0, .slice ta tn tc, .pointer (some ⟨W.heap.size, 0, none⟩), u3, u4, .pointer (some ⟨pc, 0, none⟩), u6, u7, u8, u9, u10, .pointer (some ⟨q.g, 0, none⟩), u12, .pointer (some ⟨hb, 0, none⟩), u14, .int .i64 P.t, .int .i64 sent', .int .i64 since, .int .i64 id, u19, .int .i64 (n : Int), u21, u22, u23, u24, u25, u26, u27, u28, u29, u30, u31, u32, u33, u34, u35, u36, u37, u38, u39, u40, u41, u42, u43, u44, u45, u46, u47, u48, u49, u50, u51, u52, u53, u54, u55, u56, u57, u58, u59, u60, u61, u62, u63, u64, u65, u66, u67, u68, u69, u70, u71, u72, u73, u74, u75, u76, u77, u78, u79, u80, u81, u82, u83, u84, u85, u86, u87, u88, u89, u90, u91, u92, u93, u94, u95, u96, u97, u98, u99, u100, u101, u102, u103, u104, u105, u106, u107, u108, u109, v110, v111, v112, v113, v114, v115, v116, v117, v118, v119, v120, v121, u122, u123, u124, u125, u126, u127, u128, u129, u130, u131, u132, u133, u134, u135, u136, u137, u138, u139, u140, u141, u142, u143, u144, u145, u146, u147, u148, u149, u150, u151, u152, u153, u154, u155, u156, u157, u158, u159, u160, u161, u162, u163, u164, u165, u166, u167, u168, u169, u170, u171, u172, u173, u174, u175, u176, u177, u178, u179, u180, u181, u182, u183, u184, u185, u186, u187, u188, u189, u190, u191, u192, u193, u194, u195, u196, u197, u198, u199, u200, u201, u202, u203, u204, u205, u206, u207, u208, u209, u210, u211, u212, u213, u214, u215, u216, u217, u218, u219, u220, u221, u222, u223, u224, u225, u226, u227, u228, u229, u230, u231, u232, u233, u234, u235, u236, u237, u238, u239, u240, u241, u242, u243, u244, u245, u246, u247, u248, u249, u250, u251, u252, u253, u254, u255, u256, u257, u258, u259, u260, u261, u262, u263, u264, u265, u266, u267, u268, u269, u270, u271, u272, u273, u274, u275, u276, u277, u278, u279, u280, u281, u282, u283, u284, u285, u286, u287, u288, u289, u290, u291, u292, u293, u294, u295, u296, u297, u298, u299, u300, u301, u302, u303, u304, u305, u306, u307, u308, u309, u310, u311, u312, u313], ds⟩ wr) :
    ((Tryz.f3.body.bind (Cd.stm 16)).getD .skip).wp Tryz.prog (Exit.then KK (retQ QR)) ⟨#[u0, .slice ta tn tc, .pointer (some ⟨W.heap.size, 0, none⟩), u3, u4, .pointer (some ⟨pc, 0, none⟩), u6, u7, u8, u9, u10, .pointer (some ⟨q.g, 0, none⟩), u12, .pointer (some ⟨hb, 0, none⟩), u14, .int .i64 P.t, .int .i64 sent, .int .i64 since, .int .i64 id, u19, .int .i64 (n : Int), u21, u22, u23, u24, u25, u26, u27, u28, u29, u30, u31, u32, u33, u34, u35, u36, u37, u38, u39, u40, u41, u42, u43, u44, u45, u46, u47, u48, u49, u50, u51, u52, u53, u54, u55, u56, u57, u58, u59, u60, u61, u62, u63, u64, u65, u66, u67, u68, u69, u70, u71, u72, u73, u74, u75, u76, u77, u78, u79, u80, u81, u82, u83, u84, u85, u86, u87, u88, u89, u90, u91, u92, u93, u94, u95, u96, u97, u98, u99, u100, u101, u102, u103, u104, u105, u106, u107, u108, u109, u110, u111, u112, u113, u114, u115, u116, u117, u118, u119, u120, u121, u122, u123, u124, u125, u126, u127, u128, u129, u130, u131, u132, u133, u134, u135, u136, u137, u138, u139, u140, u141, u142, u143, u144, u145, u146, u147, u148, u149, u150, u151, u152, u153, u154, u155, u156, u157, u158, u159, u160, u161, u162, u163, u164, u165, u166, u167, u168, u169, u170, u171, u172, u173, u174, u175, u176, u177, u178, u179, u180, u181, u182, u183, u184, u185, u186, u187, u188, u189, u190, u191, u192, u193, u194, u195, u196, u197, u198, u199, u200, u201, u202, u203, u204, u205, u206, u207, u208, u209, u210, u211, u212, u213, u214, u215, u216, u217, u218, u219, u220, u221, u222, u223, u224, u225, u226, u227, u228, u229, u230, u231, u232, u233, u234, u235, u236, u237, u238, u239, u240, u241, u242, u243, u244, u245, u246, u247, u248, u249, u250, u251, u252, u253, u254, u255, u256, u257, u258, u259, u260, u261, u262, u263, u264, u265, u266, u267, u268, u269, u270, u271, u272, u273, u274, u275, u276, u277, u278, u279, u280, u281, u282, u283, u284, u285, u286, u287, u288, u289, u290, u291, u292, u293, u294, u295, u296, u297, u298, u299, u300, u301, u302, u303, u304, u305, u306, u307, u308, u309, u310, u311, u312, u313], ds⟩ wr := by
  dsimp [Tryz.f3, Cd.stm, Cd.first, Option.bind, Option.or, Option.getD]
  have b0 := blk_cell H.box
  have l0 := lt_of_heap H.box
  have HW := Lib.hid H
  have HI := Lib.hid I
  have HC := Lib.hid hc
  have HR := Lib.hid hrest
  clear H I hc hrest
  unfold planC plC at b0
  have k0 : (0 : Int) ≤ (n : Int) := by omega
  by_cases h1 : (n : Int) = P.sent ∧ (n : Int) ≤ P.granted
  · have e1 : ((n : Int) == P.sent) = true := by rw [h1.1]; simp
    have e2 : decide ((n : Int) ≤ P.granted) = true := decide_eq_true h1.2
    have HH := Lib.hid h1
    clear h1
    go_wp2_with fail
    refine (now1_w HW.out HC.out).mono ?_
    rintro e w9 ⟨rfl, rfl⟩
    go_wp2_with fail
    exact HR.out _ _ _ _ _ _ _ _ _ _ _ _ h (HI.out.send HC.out HH.out.2)
  · have hd : ((n : Int) == P.sent) = false ∨ (((n : Int) == P.sent) = true ∧ decide ((n : Int) ≤ P.granted) = false) := by
      by_cases h : (n : Int) = P.sent
      · exact .inr ⟨by rw [h]; simp, decide_eq_false (fun hh => h1 ⟨h, hh⟩)⟩
      · exact .inl (by simpa using h)
    clear h1
    rcases hd with e1 | ⟨e1, e2⟩
    all_goals
      go_wp2_with fail
      exact HR.out _ _ _ _ _ _ _ _ _ _ _ _ sent HI.out
end Go.Proofs.YtchdfogifhfclaaGreatDoor
