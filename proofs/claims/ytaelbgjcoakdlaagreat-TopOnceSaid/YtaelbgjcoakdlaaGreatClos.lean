/- What a field's closures do, whichever field it is. -/
import Derived.Test.YtaelbgjcoakdlaaGreatFields
namespace Go.Proofs.YtaelbgjcoakdlaaGreat
open Go.RowKit

/-- A call of it enters it. -/
def Enters (f : Nat) : Prop := ∀ (args : Array Value) (w : World), (callFunc f args).run Tryz.prog w = .ok (.enter f args) w
theorem enters {f : Nat} {fn : Func} {c : Code} (hf : Tryz.prog.funcs[f]? = some fn) (hname : (fn.name == "runtime.NumGoroutine") = false) (hb : fn.body = some c) : Enters f := fun args w => by
  have h1 : ¬ fn.name = "runtime.NumGoroutine" := by simpa using hname
  simp [callFunc, hf, h1, hb]
section
variable {w : World} {F : Nat → Prop} {k : FK} {c0 c1 c2 : Value}
theorem FieldV.write (h : FieldV w F k c0 c1 c2) (hk : k ≠ .bad) (G : Nat → Prop) (pw pm : Nat) (l : List UInt8) (m : Ms) (hw : WrAt G w pw l) (hm : MsgAt w pm m) (hn : k.get m ≤ 9223372036854775807) (hl : l.length + 9 ≤ 140737488355328) (hF : ∀ b, F b → ¬ G b) (hgm : ¬ G pm) :
    ∃ f caps, c0 = .func (.func f) #[] caps ∧ Enters f ∧ Calls Tryz.prog f (#[.pointer (some ⟨pw, 0, none⟩), .pointer (some ⟨pm, 0, none⟩)] ++ caps) w (Wrote G pw l (k.get m) w) := by
  cases k
  · obtain ⟨⟨b1, b2, b3, ⟨g1, g2, g3⟩, rfl, _, h1, h2, h3⟩, _⟩ := h
    exact ⟨_, _, rfl, enters Tryz.func87 (by kernel_rfl) rfl, write_boot G pw pm b1 b3 l m w hw hm h1 h3 hn hl (hF _ g1) (hF _ g3) hgm⟩
  · obtain ⟨⟨b1, b2, b3, ⟨g1, g2, g3⟩, rfl, _, h1, h2, h3⟩, _⟩ := h
    exact ⟨_, _, rfl, enters Tryz.func87 (by kernel_rfl) rfl, write_seq G pw pm b1 b3 l m w hw hm h1 h3 hn hl (hF _ g1) (hF _ g3) hgm⟩
  · obtain ⟨⟨b1, b2, b3, ⟨g1, g2, g3⟩, rfl, _, h1, h2, h3⟩, _⟩ := h
    exact ⟨_, _, rfl, enters Tryz.func87 (by kernel_rfl) rfl, write_low G pw pm b1 b3 l m w hw hm h1 h3 hn hl (hF _ g1) (hF _ g3) hgm⟩
  · obtain ⟨b1, b2, ⟨g1, g2⟩, rfl, _, _, h1, h2⟩ := h
    exact ⟨_, _, rfl, enters Tryz.func89 (by kernel_rfl) rfl, write_verb G pw pm b1 l m w hw hm h1 hn hl⟩
  · obtain ⟨b1, b2, ⟨g1, g2⟩, rfl, _, _, h1, h2⟩ := h
    exact ⟨_, _, rfl, enters Tryz.func97 (by kernel_rfl) rfl, write_code G pw pm b1 l m w hw hm h1 hn hl⟩
  · obtain ⟨⟨b1, b2, b3, ⟨g1, g2, g3⟩, rfl, _, h1, h2, h3⟩, _⟩ := h
    exact ⟨_, _, rfl, enters Tryz.func87 (by kernel_rfl) rfl, write_id G pw pm b1 b3 l m w hw hm h1 h3 hn hl (hF _ g1) (hF _ g3) hgm⟩
  · obtain ⟨⟨b1, b2, b3, ⟨g1, g2, g3⟩, rfl, _, h1, h2, h3⟩, _⟩ := h
    exact ⟨_, _, rfl, enters Tryz.func87 (by kernel_rfl) rfl, write_term G pw pm b1 b3 l m w hw hm h1 h3 hn hl (hF _ g1) (hF _ g3) hgm⟩
  · obtain ⟨rfl, _, _⟩ := h
    exact ⟨_, _, rfl, enters Tryz.func101 (by kernel_rfl) rfl, write_stamp G pw pm l m w hw hm hl hgm⟩
  · exact absurd rfl hk
theorem FieldV.read (h : FieldV w F k c0 c1 c2) (hk : k ≠ .bad) (G : Nat → Prop) (pr pm : Nat) (r : Rd) (m : Ms) (hr : RdAt G w pr r) (hm : MsgAt w pm m) (hF : ∀ b, F b → ¬ G b) (hgm : ¬ G pm) (h0 : k = .stamp → r.num = 0) :
    ∃ f caps, c1 = .func (.func f) #[] caps ∧ Enters f ∧ Calls Tryz.prog f (#[.pointer (some ⟨pr, 0, none⟩), .pointer (some ⟨pm, 0, none⟩)] ++ caps) w (ReadF G k pr pm r m w) := by
  cases k
  · obtain ⟨⟨b1, b2, b3, ⟨g1, g2, g3⟩, _, rfl, h1, h2, h3⟩, _⟩ := h
    exact ⟨_, _, rfl, enters Tryz.func88 (by kernel_rfl) rfl, read_boot G pr pm b2 b3 r m w hr hm h2 h3 (hF _ g2) (hF _ g3) hgm⟩
  · obtain ⟨⟨b1, b2, b3, ⟨g1, g2, g3⟩, _, rfl, h1, h2, h3⟩, _⟩ := h
    exact ⟨_, _, rfl, enters Tryz.func88 (by kernel_rfl) rfl, read_seq G pr pm b2 b3 r m w hr hm h2 h3 (hF _ g2) (hF _ g3) hgm⟩
  · obtain ⟨⟨b1, b2, b3, ⟨g1, g2, g3⟩, _, rfl, h1, h2, h3⟩, _⟩ := h
    exact ⟨_, _, rfl, enters Tryz.func88 (by kernel_rfl) rfl, read_low G pr pm b2 b3 r m w hr hm h2 h3 (hF _ g2) (hF _ g3) hgm⟩
  · obtain ⟨b1, b2, ⟨g1, g2⟩, _, rfl, _, h1, h2⟩ := h
    exact ⟨_, _, rfl, enters Tryz.func90 (by kernel_rfl) rfl, read_verb G pr pm b1 r m w hr hm h1 hgm⟩
  · obtain ⟨b1, b2, ⟨g1, g2⟩, _, rfl, _, h1, h2⟩ := h
    exact ⟨_, _, rfl, enters Tryz.func98 (by kernel_rfl) rfl, read_code G pr pm b1 r m w hr hm h1 hgm⟩
  · obtain ⟨⟨b1, b2, b3, ⟨g1, g2, g3⟩, _, rfl, h1, h2, h3⟩, _⟩ := h
    exact ⟨_, _, rfl, enters Tryz.func88 (by kernel_rfl) rfl, read_id G pr pm b2 b3 r m w hr hm h2 h3 (hF _ g2) (hF _ g3) hgm⟩
  · obtain ⟨⟨b1, b2, b3, ⟨g1, g2, g3⟩, _, rfl, h1, h2, h3⟩, _⟩ := h
    exact ⟨_, _, rfl, enters Tryz.func88 (by kernel_rfl) rfl, read_term G pr pm b2 b3 r m w hr hm h2 h3 (hF _ g2) (hF _ g3) hgm⟩
  · obtain ⟨_, rfl, _⟩ := h
    exact ⟨_, _, rfl, enters Tryz.func102 (by kernel_rfl) rfl, read_stamp G pr pm r m w hr hm hgm (h0 rfl)⟩
  · exact absurd rfl hk
theorem FieldV.fine (h : FieldV w F k c0 c1 c2) (pm : Nat) (m : Ms) (hm : MsgAt w pm m) (hf : FineOK k m) :
    ∃ f caps, c2 = .func (.func f) #[] caps ∧ Enters f ∧ Calls Tryz.prog f (#[.pointer (some ⟨pm, 0, none⟩)] ++ caps) w (Yes w) := by
  cases k
  · obtain ⟨_, b, g, rfl, h1⟩ := h
    exact ⟨_, _, rfl, enters Tryz.func85 (by kernel_rfl) rfl, fine_boot pm b m w hm h1 hf⟩
  · obtain ⟨_, b, g, rfl, h1⟩ := h
    exact ⟨_, _, rfl, enters Tryz.func85 (by kernel_rfl) rfl, fine_seq pm b m w hm h1 hf⟩
  · obtain ⟨_, rfl⟩ := h
    exact ⟨_, _, rfl, enters Tryz.func54 (by kernel_rfl) rfl, fine_low pm m w hm hf⟩
  · obtain ⟨b1, b2, ⟨g1, g2⟩, _, _, rfl, h1, h2⟩ := h
    exact ⟨_, _, rfl, enters Tryz.func91 (by kernel_rfl) rfl, fine_verb pm b1 b2 m w hm h1 h2 hf⟩
  · obtain ⟨b1, b2, ⟨g1, g2⟩, _, _, rfl, h1, h2⟩ := h
    exact ⟨_, _, rfl, enters Tryz.func99 (by kernel_rfl) rfl, fine_code pm b1 b2 m w hm h1 h2 hf⟩
  · obtain ⟨_, b, g, rfl, h1⟩ := h
    exact ⟨_, _, rfl, enters Tryz.func85 (by kernel_rfl) rfl, fine_id pm b m w hm h1 hf⟩
  · obtain ⟨_, rfl⟩ := h
    exact ⟨_, _, rfl, enters Tryz.func69 (by kernel_rfl) rfl, fine_term pm m w hm hf⟩
  · obtain ⟨_, _, rfl⟩ := h
    exact ⟨_, _, rfl, enters Tryz.func103 (by kernel_rfl) rfl, fine_stamp pm m w hm⟩
  · exact hf.elim
end
end Go.Proofs.YtaelbgjcoakdlaaGreat
