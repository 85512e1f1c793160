/- TopTwoClocks: the loop. -/
import Derived.Test.YtchdfogifhfclaaGreatDoorLwC
import Derived.Test.YtchdfogifhfclaaGreatDoorLwD
import Derived.Test.YtchdfogifhfclaaGreatDoorLwE
import Derived.Test.YtchdfogifhfclaaGreatDoorLwF
namespace Go.Proofs.YtchdfogifhfclaaGreatDoor
open Go.RowKit Go.Maps Go.MapKept

/-- What holds when a round begins. -/
structure Rd (W : World) (P : Pn) (pc gc : Nat) (q : Gs) (hb : Nat) (ng nc nr : Int) (sent id : Int) (w : World) : Prop where
  st : ∃ gs c x ol g h, (gs = 0 ∧ id = 0 ∨ gs ≠ 0 ∧ id = 1) ∧ c.now = [g, h] ∧ Inv P ng nc nr gs c x ol sent ∧ Wd W P pc gc q hb (fun _ => False) c (LOf P gs) (osOf P gs) x ol w
set_option maxRecDepth 100000 in
set_option maxHeartbeats 8000000 in
theorem two_yes (P : Pn) (v : Value) (l : List (Int × Int × Int)) (W : World) (hr : 0 ≤ P.rho ∧ P.rho ≤ 999) (hv : TkIn W v l) (hs : P.pa.size ≤ 140737488355328) :
    Calls Tryz.prog 3 #[.agg (planC P), v] W (fun e w' => e = .returned (.bool true) ∧ Below W.heap.size W w') := by
  obtain ⟨W1, hW1⟩ : ∃ W1, W1 = W.alloc (.cells (planC P) 24) := ⟨_, rfl⟩
  have HW1 := Lib.hid hW1
  have HX1 := Lib.hid (show W1.heap[W.heap.size]? = some (.cells (planC P) 24 (0, 0)) by rw [hW1]; exact heap_at _ _ _ rfl)
  have HR := Lib.hid hr
  have HS := Lib.hid hs
  have HTK := Lib.hid hv
  obtain ⟨ta, tc, rfl, htc, htm, hcells⟩ := hv
  have HTC := Lib.hid (And.intro htc htm)
  have HC := Lib.hid hcells
  clear hr hs htc htm hcells
  unfold planC plC at hW1
  unfold planC plC
  go_enter Tryz.func3, Tryz.ntmps3
  go_upto_region 1 with fail
  rw [← hW1]
  clear hW1
  go_wp2_with fail
  refine (Ck8.new_ok 2 _ (by omega)).mono ?_
  rintro e w1 ⟨pc, gc, rfl, hck, hp, hg, hbc⟩
  have HNC := Lib.hid (show Ck8.NewCk 2 W1 (.returned (.tuple #[.pointer (some ⟨pc, 0, none⟩), .int .i64 0])) w1 from ⟨pc, gc, rfl, hck, hp, hg, hbc⟩)
  have HX2 := Lib.hid ((hbc.block _ (lt_of_heap HX1.out)).trans HX1.out)
  clear hck hp hg hbc
  go_wp2_with fail
  refine (newDisk_any _).mono ?_
  rintro e w2 ⟨rfl, hda, hbd⟩
  have HDA := Lib.hid hda
  have HB2 := Lib.hid hbd
  have HX3 := Lib.hid ((hbd.block _ (lt_of_heap HX2.out)).trans HX2.out)
  have HS1 := Lib.hid (show W.heap.size < w1.heap.size from lt_of_heap HX2.out)
  clear hda hbd
  go_wp2_with fail
  refine (openLed_any _ _ _ HDA.out).mono ?_
  rintro e w3 ⟨lp, rfl, hlp, hlw, hdk, hm⟩
  have hb2s := HB2.out.size
  have hled : LedAt (fun k => w1.heap.size ≤ k ∧ k < w3.heap.size) lp (w1.heap.size + 1) w1.heap.size 0 1 0 none w3 := (LedNew.at_ (w := w2) hlp hdk).mono (fun k hk hf => ⟨by rcases hf with rfl | rfl | rfl <;> omega, hk⟩)
  have HM3 := Lib.hid (show w2.heap.size ≤ w3.heap.size ∧ Mod (fun k => w1.heap.size ≤ k) w2 w3 from ⟨hm.size, hm.mono (fun k _ hk => by rcases hk with rfl | rfl <;> omega)⟩)
  have HX4 := Lib.hid ((hm.block _ (lt_of_heap HX3.out) (fun hk => by have := HS1.out; rcases hk with hk | hk <;> omega)).trans HX3.out)
  have HLED := Lib.hid hled
  have HG := Lib.hid (openG_any _ lp _ _ w3 hled (fun k hk => hk.2))
  clear hlp hlw hdk hm hled hb2s
  go_wp2_with fail
  refine HG.out.mono ?_
  rintro e w4 ⟨q, rfl, hq1, hq2, hq3, hgr, hb4⟩
  have HQ := Lib.hid (And.intro hq1 (And.intro hq2 hq3))
  have HGR := Lib.hid hgr
  have HB4 := Lib.hid hb4
  have HX5 := Lib.hid ((hb4.block _ (lt_of_heap HX4.out)).trans HX4.out)
  have c5 := blk_cell HX5.out
  clear hb4 hgr hq1 hq2 hq3
  unfold planC plC at c5
  go_wp2_with fail
  refine (newH_ok P.rho _ HR.out).mono ?_
  rintro e w5 ⟨hb, rfl, hho, hb5⟩
  obtain ⟨gc, hmade⟩ := made_of (P := P) (q := q) (hb := hb) HW1.out HNC.out HB2.out HM3.out (by obtain ⟨e1, e2, e3⟩ := HQ.out; rw [e1, e2, e3]; exact HLED.out) HGR.out HB4.out hho hb5
  have HMADE := Lib.hid hmade
  have c6 := blk_cell ((hb5.block _ (lt_of_heap HX5.out)).trans HX5.out)
  clear hb5 hho hmade c5
  clear HW1 HX1 HX2 HX3 HX4 HX5 HNC HDA HB2 HS1 HM3 HLED HG HQ HGR HB4
  unfold planC plC at c6
  go_upto_region 11 with fail
  rw [show min (max P.T 4) 1048576 = P.t from rfl]
  clear c6
  go_wp2_with fail
  go_loopw [16, 17, 18, 20] (fun vs vi vd vn wr => ∃ (n : Nat) (sent since id : Int), vs = .int .i64 sent ∧ vi = .int .i64 since ∧ vd = .int .i64 id ∧ vn = .int .i64 (n : Int) ∧ Hid (n ≤ 200 ∧ Rd W P pc gc q hb n n n sent id wr)) (fun _ _ _ vn _ => 200 - (Go.RowKit.intOf vn).toNat)
  case atStart => exact ⟨0, -1, 0, 0, rfl, rfl, rfl, rfl, Lib.hid ⟨by omega, ⟨0, _, 0, none, 0, 0, .inl ⟨rfl, rfl⟩, rfl, Inv.start HR.out, HMADE.out.wd⟩⟩⟩
  case round =>
    obtain ⟨n, sent, since, id, rfl, rfl, rfl, rfl, HI⟩ := hrel
    clear HMADE
    have k0 : (0 : Int) ≤ (n : Int) := by omega
    by_cases hn : n ≤ l.length ∧ n < 200
    · have d1 : decide (n ≤ l.length) = true := decide_eq_true (by omega)
      have d2 : decide (n < 200) = true := decide_eq_true (by omega)
      have d3 : decide ((n : Int) < 200) = true := decide_eq_true (by omega)
      have HN := Lib.hid hn
      obtain ⟨gs, c, x, ol, g, h, hid, hc, I, H⟩ := HI.out.2.st
      have HID := Lib.hid hid
      have HCN := Lib.hid hc
      have HINV := Lib.hid I
      have HWD := Lib.hid H
      clear hn hid hc I H HI
      go_upto_block 1 with fail
      clear d1 d2 d3
      refine wp_block ?_
      refine wp_seq_k fun KA hKA => ?_
      refine wp_ret ?_ (fun _ _ h => h)
      refine stA HCN.out HINV.out HWD.out ?_
      intros
      rename_i sent' hI
      refine hKA _ _ ?_
      refine wp_seq_k fun KB hKB => ?_
      refine wp_ret ?_ (fun _ _ h => h)
      refine stB HCN.out HID.out HS.out hI HWD.out ?_ ?_
      rotate_left
      · intros
        rename_i hb'
        show bodyPost Tryz.prog Tryz.f3 (fun e w' => e = .returned (.bool true) ∧ Below W.heap.size W w') .ret _ _
        exact bodyPost_ret (results_tmp rfl _ _ _) rfl ⟨rfl, hb'⟩
      intros
      rename_i since' id' gs' x' wB hid' hI' hW'
      clear hI HWD HINV HID
      refine hKB _ _ ?_
      refine wp_seq_k fun KC hKC => ?_
      refine wp_ret ?_ (fun _ _ h => h)
      refine stC HCN.out hid' HS.out hI' hW' ?_
      intros
      rename_i olC wC hIC hWC
      refine hKC _ _ ?_
      refine wp_seq_k fun KD hKD => ?_
      refine wp_ret ?_ (fun _ _ h => h)
      refine stD HCN.out hid' HS.out hIC hWC ?_
      intros
      rename_i gsD xD olD wD hidD hID hWD
      refine hKD _ _ ?_
      refine wp_seq_k fun KE hKE => ?_
      refine wp_ret ?_ (fun _ _ h => h)
      refine stE HCN.out hidD HS.out hID hWD ?_
      intros
      rename_i wE hWE
      refine hKE _ _ ?_
      refine wp_end ?_ (fun _ _ h => h) (fun _ _ h => h)
      refine stF (g := 0) (h := 0) HTK.out HN.out.1 hID hWE ?_ ?_
      rotate_left
      · intros
        rename_i hb'
        show bodyPost Tryz.prog Tryz.f3 (fun e w' => e = .returned (.bool true) ∧ Below W.heap.size W w') .ret _ _
        exact bodyPost_ret (results_tmp rfl _ _ _) rfl ⟨rfl, hb'⟩
      intros
      rename_i cF gF hF wF hcF hIF hWF
      have HF := Lib.hid (show Rd W P pc gc q hb ((n + 1 : Nat) : Int) ((n + 1 : Nat) : Int) ((n + 1 : Nat) : Int) sent' id' wF from ⟨gsD, cF, xD, olD, gF, hF, hidD, hcF, hIF, hWF⟩)
      have hn2 : (n : Int) < 200 := by have := HN.out.2; omega
      clear hKA hKB hKC hKD hKE hIF hWF hWE hID hWD hIC hWC hI' hW' hid' hidD hcF
      go_wp2_with fail
      go_roundw
      case rel => exact ⟨n + 1, sent', since', id', rfl, rfl, rfl, rfl, Lib.hid ⟨by have := HN.out.2; omega, HF.out⟩⟩
      case measure => simp only [Go.RowKit.intOf]; omega
    · have hd : decide (n ≤ l.length) = false ∨ (decide (n ≤ l.length) = true ∧ decide (n < 200) = false ∧ decide ((n : Int) < 200) = false) := by
        by_cases h : n ≤ l.length
        · exact .inr ⟨decide_eq_true (by omega), decide_eq_false (by omega), decide_eq_false (by omega)⟩
        · exact .inl (decide_eq_false (by omega))
      have HOUT := Lib.hid (show Below W.heap.size W wr by obtain ⟨_, gs, c, x, ol, g, h, _, _, _, hw⟩ := HI.out; exact hw.out)
      clear hn HI
      rcases hd with d1 | ⟨d1, d2, d3⟩
      all_goals
        go_wp2_with fail
        go_ret
        exact ⟨rfl, HOUT.out⟩
end Go.Proofs.YtchdfogifhfclaaGreatDoor
