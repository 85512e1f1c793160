/- lay; what it lays is read back. -/
import Derived.Test.YtflacchpgcggnaaOk
import Derived.Test.YtflacchpgcggnaaOpenThing
import Derived.Test.YtflacchpgcggnaaWake
namespace Go.Proofs.Ytflacchpgcggnaa
open Go.RowKit

def encThing (t : Th) : List UInt8 := if t.isText then encText t.s.data.toList else enc t.n.toNat
def encAll (l : List Th) : List UInt8 := l.flatMap encThing
theorem encAll_snoc (l : List Th) (t : Th) : encAll (l ++ [t]) = encAll l ++ encThing t := by simp [encAll]
theorem encAll_cons (l : List Th) (t : Th) : encAll (t :: l) = encThing t ++ encAll l := by simp [encAll]
theorem encThing_length (t : Th) (h1 : t.n ≤ 9223372036854775807) (h2 : t.s.size ≤ 9223372036854775807) : (encThing t).length ≤ 9 + t.s.size := by
  unfold encThing
  split
  · unfold encText
    have := enc_int t.s.data.toList.length (by simp; omega)
    simp at this ⊢
    omega
  · have := enc_int t.n.toNat (by omega)
    omega
theorem total_cons (t : Th) (l : List Th) : total (t :: l) = t.s.size + total l := by simp [total]
theorem encAll_length : ∀ (l : List Th), (∀ q ∈ l, -9223372036854775808 ≤ q.n ∧ q.n ≤ 9223372036854775807) → total l ≤ 9223372036854775807 → (encAll l).length ≤ 9 * l.length + total l
  | [], _, _ => by simp [encAll]
  | t :: l, h, hs => by
    rw [total_cons] at hs ⊢
    have h1 := encThing_length t (h t (List.mem_cons_self ..)).2 (by omega)
    have h2 := encAll_length l (fun q hq => h q (List.mem_cons_of_mem _ hq)) (by omega)
    rw [encAll_cons]
    simp
    omega
theorem total_take (l : List Th) (k : Nat) : total (l.take k) ≤ total l := by
  induction l generalizing k with
  | nil => simp [total]
  | cons t l ih =>
    cases k with
    | zero => simp [total]
    | succ k => rw [List.take_succ_cons, total_cons, total_cons]; have := ih k; omega
theorem total_at {l : List Th} {k : Nat} {t : Th} (h : l[k]? = some t) : total (l.take k) + t.s.size ≤ total l := by
  have h1 := total_take l (k + 1)
  rw [List.take_add_one, h] at h1
  have h2 : total (l.take k ++ (some t).toList) = total (l.take k) + t.s.size := by simp [total]
  omega

set_option maxHeartbeats 2000000 in
theorem lay_k {w0 w : World} {p : Nat} {l0 : List UInt8} {pr pm : Option (Nat × Rd)} {ps : List (Value × List UInt8)} {ks : List (Nat × Obj)} (T : Ok w0 (some (p, l0)) pr pm ps ks w) (tl : List Th) (tv : Value) (htv : ThingsIn w0 tv tl)
    (hn : ∀ q ∈ tl, -9223372036854775808 ≤ q.n ∧ q.n ≤ 9223372036854775807) (hl : l0.length + 9 * tl.length + total tl ≤ 140737488355328) :
    Calls Try.prog 17 #[.pointer (some ⟨p, 0, none⟩), tv] w fun e w' => e = .returned (.tuple #[]) ∧ Ok w0 (some (p, l0 ++ encAll tl)) pr pm ps ks w' := by
  have HTV := Lib.hid htv
  have HN := Lib.hid hn
  have HT := Lib.hid T
  clear hn T
  obtain ⟨ta, tc, rfl, _⟩ := htv
  go_enter Try.func17, Try.ntmps17
  go_wp2_with fail
  go_loopw [8] (fun i wr => ∃ j : Nat, j ≤ tl.length ∧ i = .int .i64 j ∧ Ok w0 (some (p, l0 ++ encAll (tl.take j))) pr pm ps ks wr) (fun i _ => tl.length - (intOf i).toNat)
  case atStart => exact ⟨0, by omega, rfl, by simpa [encAll] using HT.out⟩
  case round =>
    obtain ⟨j, hj, rfl, T⟩ := hrel
    have hB := T.out
    have HTj := Lib.hid T
    clear T
    by_cases hlt : j < tl.length
    · obtain ⟨x, hx⟩ : ∃ x, tl[j]? = some x := ⟨_, List.getElem?_eq_getElem hlt⟩
      obtain ⟨b', o, c1, e1, hc', hm', hbs, t0, t1, t2⟩ := HTV.out.at_ hx
      injection e1 with e1 _ e2
      subst e1 e2
      have p0 := (hB.cell (p := ⟨b', o + j * 3, none⟩) hbs).trans t0
      have p1 := (hB.cell (p := ⟨b', o + j * 3 + 1, none⟩) hbs).trans t1
      have p2 := (hB.cell (p := ⟨b', o + j * 3 + 2, none⟩) hbs).trans t2
      have k0 : (0 : Int) ≤ (j : Int) := by omega
      have k1 : (j : Int) < (tl.length : Int) := by omega
      have hq := HN.out x (List.mem_of_getElem? hx)
      have htk : tl.take (j + 1) = tl.take j ++ [x] := by rw [List.take_add_one, hx]; rfl
      have HTK := Lib.hid htk
      have htot := total_at hx
      have hlen : (encAll (tl.take j)).length ≤ 9 * j + total (tl.take j) := by
        have := encAll_length (tl.take j) (fun q hq => HN.out q (List.mem_of_mem_take hq)) (by omega)
        rw [List.length_take, Nat.min_eq_left hj] at this
        exact this
      have hll : (l0 ++ encAll (tl.take j)).length + 9 + x.s.size ≤ 140737488355328 := by rw [List.length_append]; omega
      obtain ⟨hq1, hq2⟩ := hq
      have HLL := Lib.hid hll
      clear t0 t1 t2 htk hlen hll htot hx
      cases hxt : x.isText with
      | true =>
        rw [hxt] at p0
        have he : encThing x = encText x.s.data.toList := by unfold encThing; rw [if_pos hxt]
        have HE := Lib.hid he
        clear hxt he
        go_wp2_with fail
        refine (wtext_k (HTj.out.box _) x.s HLL.out).mono ?_
        rintro e w3 ⟨rfl, T3⟩
        rw [List.append_assoc, ← HE.out, ← encAll_snoc, ← HTK.out] at T3
        go_wp2_with fail
        exact ⟨⟨j + 1, by omega, by push_cast; rfl, T3⟩, by simp only [intOf]; omega⟩
      | false =>
        rw [hxt] at p0
        have he : encThing x = enc x.n.toNat := by unfold encThing; rw [hxt]; rfl
        have HE := Lib.hid he
        clear hxt he
        go_wp2_with fail
        refine (wnum_k (HTj.out.box _) x.n (by omega) (by have := HLL.out; omega)).mono ?_
        rintro e w3 ⟨rfl, T3⟩
        rw [List.append_assoc, ← HE.out, ← encAll_snoc, ← HTK.out] at T3
        go_wp2_with fail
        exact ⟨⟨j + 1, by omega, by push_cast; rfl, T3⟩, by simp only [intOf]; omega⟩
    · obtain rfl : j = tl.length := by omega
      have T := HTj.out
      rw [List.take_length] at T
      have HTF := Lib.hid T
      clear T
      go_wp2_with fail
      go_end0
      exact ⟨rfl, HTF.out⟩

/-- What was written is read. -/
theorem rd_num {n : Nat} (hn : n < 9223372036854775808) (rest : List UInt8) : (Rd.mk (enc n ++ rest) 0).num = n ∧ (Rd.mk (enc n ++ rest) 0).numR = ⟨rest, 0⟩ := by
  have h := tk_enc n rest 0 0 (by simpa using hn) (Or.inl rfl)
  simp at h
  unfold Rd.num Rd.numR
  simp [h]
theorem rd_text (s rest : List UInt8) (hs : s.length < 9223372036854775808) : (Rd.mk (encText s ++ rest) 0).text s.length = s ∧ (Rd.mk (encText s ++ rest) 0).textR s.length = ⟨rest, 0⟩ := by
  have h := tk_enc s.length (s ++ rest) 0 0 (by simpa using hs) (Or.inl rfl)
  simp at h
  have he : encText s ++ rest = enc s.length ++ (s ++ rest) := by simp [encText]
  have ht : tkText (encText s ++ rest) (s.length : Int) = (s, (enc s.length).length + s.length, 0) := by
    unfold tkText tkT
    rw [he]
    simp only [h]
    have hM : (max (s.length : Int) 0).toNat = s.length := by omega
    rw [hM, if_neg (by simp), if_neg (by omega), if_neg (by simp)]
    simp
  unfold Rd.text Rd.textR
  simp only [ht, if_true]
  refine ⟨trivial, ?_⟩
  rw [he, ← List.append_assoc, List.drop_left' (by simp)]
theorem strOf_self (s : ByteArray) : strOf s.data.toList = s := by cases s; simp [strOf]
end Go.Proofs.Ytflacchpgcggnaa
