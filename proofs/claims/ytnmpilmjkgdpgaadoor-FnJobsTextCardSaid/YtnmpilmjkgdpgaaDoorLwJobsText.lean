/-
  The walk of the law FnJobsText.
-/
import Derived.Test.YtnmpilmjkgdpgaaDoorLwWorstText
import Derived.Test.YtnmpilmjkgdpgaaDoorGE


namespace Go.Proofs.YtnmpilmjkgdpgaaDoor
open Go.RowKit

/-- What of hands back. -/
def OfEnd (w : World) (base G p : Nat) (l : List (List UInt8)) (e : Ending) (w' : World) : Prop := ∃ x, e = .returned (sB x) ∧ x ∈ l ∧ Dr w w' base G (p + 1)
set_option maxHeartbeats 800000 in
theorem of_any (w : World) (base G p g : Nat) (l : List (List UInt8)) (c : Nat) (hr : Rd w base G p) (hp : p ≤ 1000000) (hl : 0 < l.length) (hl1 : l.length ≤ 100) (hg : g ≠ G) (hi : Str w g l) :
    Calls Tryd.prog 37 #[.pointer (some ⟨G, 0, none⟩), .slice (some ⟨g, 0, none⟩) l.length c] w (OfEnd w base G p l) := by
  have HR := Lib.hid hr
  have HI := Lib.hid hi
  clear hr hi
  go_enter Tryd.func37, Tryd.ntmps37
  go_wp2_with fail
  refine (pick_any _ base G p _ HR.out hp).mono ?_
  rintro e w1 ⟨r, rfl, hr, hd⟩
  have hrl : r < l.length := by omega
  obtain ⟨x, hx⟩ := getSome hrl
  have hm := List.mem_of_getElem? hx
  have hc1 := cell_hit hd.2 (str_cell HI.out hx) (by omega)
  have HX := Lib.hid hx
  have HD := Lib.hid hd
  have HM := Lib.hid hm
  clear hx hd hm
  clear hr
  go_wp2
  go_ret
  exact ⟨x, rfl, HM.out, HD.out⟩
theorem str_to {B : List UInt8} {k : Nat} (h : k ≤ B.length) (W : World) : (Instr.slice 9 (.string ⟨B.toArray⟩) none (some (.int .i64 (k : Int))) none).run Tryd.prog W = .ok (sB (B.take k)) W := by
  have hs : (⟨B.toArray⟩ : ByteArray).size = B.length := by show B.toArray.size = _; simp
  rw [run_slice_string_to_if _ _ _ _ _ Tryd.underlying9, if_pos (by omega), Lib.extract_eq]
  simp
theorem str_from {B : List UInt8} {k r : Nat} (h : k + r ≤ B.length) (W : World) : (Instr.slice 9 (.string ⟨B.toArray⟩) (some (.int .i64 ((k : Int) + (r : Int)))) none none).run Tryd.prog W = .ok (sB (B.drop (k + r))) W := by
  have hs : (⟨B.toArray⟩ : ByteArray).size = B.length := by show B.toArray.size = _; simp
  rw [run_slice_string_from_if _ _ _ _ _ Tryd.underlying9, if_pos (by omega), Lib.extract_eq, hs]
  have e : ((k : Int) + (r : Int)).toNat = k + r := by omega
  rw [e, List.take_of_length_le (by simp)]
/-- A drawn text. -/
def TextD (w : World) (e : Ending) (w' : World) : Prop := ∃ B : List UInt8, e = .returned (sB B) ∧ B.length ≤ 1048576 ∧ Bw w w'
theorem fj_small2 (js : List Jb) : (fjB js).length ≤ 4000 := by
  by_cases h : toldB js = true
  · rw [fjB, if_pos h]
    have hl := told_len h
    have hL := lens_le 65 (js.map jobT) (fun x hx => by obtain ⟨j, hj, rfl⟩ := List.mem_map.1 hx; exact jobT_len (told_all h j hj))
    rw [List.length_map] at hL
    cases hq : js.map jobT with
    | nil => simp [Lib.join_nil]
    | cons x r =>
      have hr : (x :: r).length = js.length := by rw [← hq]; simp
      rw [hq] at hL
      rw [Lib.join_length]
      simp at hr hL ⊢
      omega
  · rw [fjB, if_neg h]; simp
abbrev picks : List (List UInt8) := [[], [32], [64], [58], [48], [49]]
set_option maxRecDepth 100000 in
set_option maxHeartbeats 3200000 in
theorem DrawParseJobs_any {w0 w : World} {v : Value} (hv : RawB w0 v) (hb : Bw w0 w) : Calls Tryd.prog 18 #[v] w (TextD w) := by
  have HV := Lib.hid hv
  clear hv
  go_enter Tryd.func18, Tryd.ntmps18
  go_wp2_with fail
  refine (l6Case_any HV.out hb).mono ?_
  rintro e w1 ⟨ao, c, l, bj, d, js, rfl, ⟨_, _, _, hj, hj61, _, hb1⟩⟩
  have HJ := Lib.hid (sj_row hj (by omega))
  clear hj
  have hBl := fj_small2 js
  go_wp2_with fail
  refine (fj_spec HJ.out).mono ?_
  obtain ⟨B, hB⟩ : ∃ B, fjB js = B := ⟨_, rfl⟩
  rw [hB] at hBl ⊢
  clear hB
  rintro e w2 ⟨rfl, hb2⟩
  go_wp2_with fail
  refine (l11Open_any HV.out (bw_trans hb (bw_trans hb1 hb2))).mono ?_
  rintro e w3 ⟨rfl, hrd, hb3⟩
  have hb03 := bw_trans hb1 (bw_trans hb2 hb3)
  have hG := hrd.lt
  obtain ⟨G, hGe⟩ : ∃ G, w2.heap.size = G := ⟨_, rfl⟩
  have hG0 : w.heap.size ≤ G := by have := (bw_trans hb1 hb2).size; omega
  rw [hGe] at hrd hG ⊢
  clear hGe
  cases B with
  | nil =>
    clear hrd
    go_wp2
    go_ret
    exact ⟨[], rfl, by simp, hb03⟩
  | cons b0 B0 =>
    obtain ⟨B, hBe⟩ : ∃ B, b0 :: B0 = B := ⟨_, rfl⟩
    have hB1 : 1 ≤ B.length := by rw [← hBe]; simp
    rw [hBe] at hBl ⊢
    clear hBe
    have hs0 := sB_size B
    have hs1 : B.toArray.size = B.length := by simp
    have hd0 : ((B.length : Int) == 0) = false := by rw [beq_eq_false_iff_ne]; omega
    go_wp2_with fail
    refine (pick_any _ G G 0 2 hrd (by omega)).mono ?_
    rintro e w4 ⟨r1, rfl, hr1, hd4⟩
    have hb04 : Bw w w4 := bw_hit hb03 hd4.2 hG0
    have HD4 := Lib.hid hd4.1
    have hz4 := hd4.2.size
    clear hd4 hrd
    by_cases hr : r1 = 0
    · subst hr
      go_wp2
      go_ret
      exact ⟨B, rfl, by omega, hb04⟩
    · have hr2 : r1 = 1 := by omega
      subst hr2
      have hd1 : (((1 : Nat) : Int) == 0) = false := by decide
      go_wp2_with fail
      refine (pick_any _ G G 1 B.length HD4.out (by omega)).mono ?_
      rintro e w5 ⟨k, rfl, hk, hd5⟩
      have hb05 : Bw w w5 := bw_hit hb04 hd5.2 hG0
      have HD5 := Lib.hid hd5.1
      have hz5 := hd5.2.size
      have hkl : k < B.length := by omega
      clear hd5 HD4 hk
      have hto := str_to (B := B) (k := k) (by omega)
      have hTl : (B.take k).length ≤ 4000 := by simp; omega
      obtain ⟨T, hT⟩ : ∃ T, B.take k = T := ⟨_, rfl⟩
      rw [hT] at hto hTl
      clear hT
      go_wp2_with fail
      generalize hW : w5 = W5 at *
      go_region_held3 (fun _ => True) (exact trivial)
        (first | (go_at_call 37; refine (of_any _ G G (1 + 1) W5.heap.size picks 6 (by first | exact HD5.out.bw (bw_trans (bw_drew _) (bw_alloc _ _)) | exact HD5.out.bw (bw_trans (bw_alloc _ _) (bw_drew _))) (by omega) (by simp) (by simp) (by omega) (by first | exact heap_alloc_new _ _ | (have := heap_alloc_new W5.drew (.cells (picks.map sB).toArray 9); simpa using this))).mono ?_; rintro e w6 ⟨x, rfl, hx, hd6⟩; have hb06 : Bw w w6 := bw_hit (bw_trans hb05 (bw_trans (bw_drew _) (bw_alloc _ _))) hd6.2 hG0; have HD6 := Lib.hid hd6.1; clear hd6; have hxl : x.length ≤ 1 := (by simp at hx; rcases hx with rfl | rfl | rfl | rfl | rfl | rfl <;> simp); clear hx; have add1 := str_addL Tryd.prog T x (by omega) (by omega); have hUl : (T ++ x).length ≤ 4001 := (by simp; omega); obtain ⟨U, hU⟩ : ∃ U, T ++ x = U := ⟨_, rfl⟩; rw [hU] at add1 hUl; clear hU) | (go_at_call 28; refine (pick_any _ G G (1 + 1 + 1) 2 HD6.out (by omega)).mono ?_; rintro e w7 ⟨r2, rfl, hr2, hd7⟩; have hb07 : Bw w w7 := bw_hit hb06 hd7.2 hG0; clear hd7; have hr3 : r2 ≤ 1 := (by omega); have hwr := IntWalk.i64_in ((k : Int) + (r2 : Int)) (by omega); have hfr := str_from (B := B) (k := k) (r := r2) (by omega); have hDl : (B.drop (k + r2)).length ≤ 4000 := (by simp; omega); obtain ⟨D, hD⟩ : ∃ D, B.drop (k + r2) = D := ⟨_, rfl⟩; rw [hD] at hfr hDl; clear hD; have add2 := str_addL Tryd.prog U D (by omega) (by omega); have hEl : (U ++ D).length ≤ 8001 := (by simp; omega); obtain ⟨E, hE⟩ : ∃ E, U ++ D = E := ⟨_, rfl⟩; rw [hE] at add2 hEl; clear hE))
      go_wp2
      go_ret
      exact ⟨E, rfl, by omega, hb07⟩
set_option maxHeartbeats 1600000 in
theorem DrawFormatJobs_anyT {w0 w : World} {v : Value} (hv : RawB w0 v) (hb : Bw w0 w) : Calls Tryd.prog 16 #[v] w (fun e w' => ∃ (bo : Option Addr) (d : Nat) (js : List Jb), e = .returned (.slice bo js.length d) ∧ Js w w' bo d js) := by
  have HV := Lib.hid hv
  clear hv
  go_enter Tryd.func16, Tryd.ntmps16
  go_wp2_with fail
  refine (l6Case_any HV.out hb).mono ?_
  rintro e w1 ⟨ao, c, l, bj, d, js, rfl, ⟨_, _, _, hj, hj61, hsj, hb1⟩⟩
  have HJ := Lib.hid hj
  have HSJ := Lib.hid hsj
  clear hj hsj
  go_wp2
  go_ret
  exact ⟨bj, d, js, rfl, HJ.out, hj61, HSJ.out, hb1⟩
set_option maxRecDepth 100000 in
set_option maxHeartbeats 6400000 in
theorem law_FnJobsText (v v' : Value) (w : World) (hv : RawB w v) (hv' : RawB w v') (hE : Env w) : Calls Tryd.prog 5 #[v, v'] w fun e w' => e = .returned (.bool true) ∧ Bw w w' := by
  have HE := Lib.hid hE
  clear hE
  have HV := Lib.hid hv
  have HV2 := Lib.hid hv'
  obtain ⟨⟨bo, n, cc, rfl, hc, hm, _⟩⟩ := hv
  obtain ⟨⟨bo', n', cc', rfl, hc', hm', _⟩⟩ := hv'
  unfold maxLen at hm hm'
  by_cases hn : 1048576 < n
  · have hnd : decide (1048576 < (n : Int)) = true := decide_eq_true (by omega)
    go_enter Tryd.func5, Tryd.ntmps5
    go_wp2
    go_ret
    exact ⟨rfl, Bw.refl _⟩
  have hnd : decide (1048576 < (n : Int)) = false := decide_eq_false (by omega)
  by_cases hn2 : 1048576 < n'
  · have hnd2 : decide (1048576 < (n' : Int)) = true := decide_eq_true (by omega)
    go_enter Tryd.func5, Tryd.ntmps5
    go_wp2
    go_ret
    exact ⟨rfl, Bw.refl _⟩
  have hnd2 : decide (1048576 < (n' : Int)) = false := decide_eq_false (by omega)
  go_enter Tryd.func5, Tryd.ntmps5
  go_wp2_with fail
  refine (DrawFormatJobs_anyT HV.out (Bw.refl _)).mono ?_
  clear hnd hnd2
  rintro e w1 ⟨bj, d, js, rfl, ⟨hjow, hj61, _, hb1⟩⟩
  have hj : js.length ≤ 1048576 := by omega
  have HJ := Lib.hid (sj_row hjow hj)
  have HK := Lib.hid (Own.ofRow hjow).rj
  clear hjow
  go_wp2_with fail
  refine (fj_impl HJ.out (env_bw HE.out hb1).1).mono ?_
  have hBl := fj_small2 js
  obtain ⟨B, hB⟩ : ∃ B, fjB js = B := ⟨_, rfl⟩
  have HBE := Lib.hid hB
  rw [hB] at hBl ⊢
  clear hB
  rintro e w2 ⟨rfl, hb2⟩
  go_wp2_with fail
  refine (fj_spec (HJ.out.bw hb2)).mono ?_
  rw [HBE.out]
  rintro e w3 ⟨rfl, hb3⟩
  have h13 := bw_trans hb2 hb3
  have hw3 := bw_trans hb1 h13
  cases B with
  | nil =>
    go_wp2_with fail
    refine (DrawParseJobs_any HV2.out hw3).mono ?_
    rintro e wa ⟨T, rfl, hTl, hba⟩
    have hwa := bw_trans hw3 hba
    cases hip : ipB T with
    | none =>
      have pim := parse_impl T hTl
      have psp := parse_spec T hTl
      rw [hip] at pim psp
      dsimp only [optJ] at pim psp
      have PIM := Lib.hid pim
      have PSP := Lib.hid psp
      clear pim psp hip
      go_wp2_with fail
      refine (PIM.out _ (env_bw HE.out hwa)).mono ?_
      rintro e wb ⟨ap, cp, rfl, hp, hbb⟩
      go_wp2_with fail
      refine (PSP.out _).mono ?_
      rintro e wc ⟨aq, cq, rfl, hq, hbc⟩
      go_wp2_with fail
      refine (dmJobs_any _ _ _ _ _ _ _ (RJ.nil _ _) (RJ.nil _ _) (by simp) (by simp)).mono ?_
      rw [decide_eq_true rfl]
      rintro e wd ⟨rfl, hbd⟩
      go_wp2
      go_ret
      exact ⟨rfl, bw_trans hwa (bw_trans hbb (bw_trans hbc hbd))⟩
    | some js2 =>
      have pim := parse_impl T hTl
      have psp := parse_spec T hTl
      have hln := ip_len (B := T)
      have hfj := ip_some hip
      rw [hip] at pim psp hln
      dsimp only [optJ] at pim psp hln
      have hl2 : js2.length ≤ 1048576 := by omega
      have PIM := Lib.hid pim
      have PSP := Lib.hid psp
      have HFJ := Lib.hid hfj
      clear pim psp hip hfj hln
      go_wp2_with fail
      refine (PIM.out _ (env_bw HE.out hwa)).mono ?_
      rintro e wb ⟨ap, cp, rfl, hp, hbb⟩
      have HP2 := Lib.hid hp
      clear hp
      go_wp2_with fail
      refine (PSP.out _).mono ?_
      rintro e wc ⟨aq, cq, rfl, hq, hbc⟩
      have HQ2 := Lib.hid (Own.ofRow hq).rj
      clear hq
      go_wp2_with fail
      refine (dmJobs_any _ _ _ _ _ _ _ (Own.ofRow (row_bw HP2.out hbc)).rj HQ2.out hl2 hl2).mono ?_
      rw [decide_eq_true rfl]
      rintro e wd ⟨rfl, hbd⟩
      have hbcd := bw_trans hbc hbd
      have hwd := bw_trans hwa (bw_trans hbb hbcd)
      have HJ2 := Lib.hid (sj_row (row_bw HP2.out hbcd) hl2)
      go_wp2_with fail
      refine (fj_impl HJ2.out (env_bw HE.out hwd).1).mono ?_
      rw [HFJ.out]
      rintro e we ⟨rfl, hbe⟩
      go_wp2
      go_ret
      exact ⟨rfl, bw_trans hwd hbe⟩
  | cons b0 B0 =>
    have hip := ip_told HBE.out (by simp)
    obtain ⟨B, hBB⟩ : ∃ B, b0 :: B0 = B := ⟨_, rfl⟩
    have hne : B.isEmpty = false := by rw [← hBB]; rfl
    rw [hBB] at hip hBl ⊢
    clear hBB HBE
    have pim := parse_impl B (by omega)
    rw [hip] at pim
    dsimp only [optJ] at pim
    have PIM := Lib.hid pim
    clear pim hip
    go_wp2_with fail
    refine (PIM.out _ (env_bw HE.out hw3)).mono ?_
    rintro e w4 ⟨ax, cx, rfl, hx, hb4⟩
    have HX := Lib.hid (Own.ofRow hx).rj
    clear hx
    have h14 := bw_trans h13 hb4
    have hw4 := bw_trans hb1 h14
    go_wp2_with fail
    refine (dmJobs_any _ _ _ _ _ _ _ HX.out (HK.out.bw h14) hj hj).mono ?_
    rw [decide_eq_true rfl]
    rintro e w5 ⟨rfl, hb5⟩
    have hw5 := bw_trans hw4 hb5
    clear PIM
    go_wp2_with fail
    refine (DrawParseJobs_any HV2.out hw5).mono ?_
    rintro e wa ⟨T, rfl, hTl, hba⟩
    have hwa := bw_trans hw5 hba
    cases hip : ipB T with
    | none =>
      have pim := parse_impl T hTl
      have psp := parse_spec T hTl
      rw [hip] at pim psp
      dsimp only [optJ] at pim psp
      have PIM := Lib.hid pim
      have PSP := Lib.hid psp
      clear pim psp hip
      go_wp2_with fail
      refine (PIM.out _ (env_bw HE.out hwa)).mono ?_
      rintro e wb ⟨ap, cp, rfl, hp, hbb⟩
      go_wp2_with fail
      refine (PSP.out _).mono ?_
      rintro e wc ⟨aq, cq, rfl, hq, hbc⟩
      go_wp2_with fail
      refine (dmJobs_any _ _ _ _ _ _ _ (RJ.nil _ _) (RJ.nil _ _) (by simp) (by simp)).mono ?_
      rw [decide_eq_true rfl]
      rintro e wd ⟨rfl, hbd⟩
      go_wp2
      go_ret
      exact ⟨rfl, bw_trans hwa (bw_trans hbb (bw_trans hbc hbd))⟩
    | some js2 =>
      have pim := parse_impl T hTl
      have psp := parse_spec T hTl
      have hln := ip_len (B := T)
      have hfj := ip_some hip
      rw [hip] at pim psp hln
      dsimp only [optJ] at pim psp hln
      have hl2 : js2.length ≤ 1048576 := by omega
      have PIM := Lib.hid pim
      have PSP := Lib.hid psp
      have HFJ := Lib.hid hfj
      clear pim psp hip hfj hln
      go_wp2_with fail
      refine (PIM.out _ (env_bw HE.out hwa)).mono ?_
      rintro e wb ⟨ap, cp, rfl, hp, hbb⟩
      have HP2 := Lib.hid hp
      clear hp
      go_wp2_with fail
      refine (PSP.out _).mono ?_
      rintro e wc ⟨aq, cq, rfl, hq, hbc⟩
      have HQ2 := Lib.hid (Own.ofRow hq).rj
      clear hq
      go_wp2_with fail
      refine (dmJobs_any _ _ _ _ _ _ _ (Own.ofRow (row_bw HP2.out hbc)).rj HQ2.out hl2 hl2).mono ?_
      rw [decide_eq_true rfl]
      rintro e wd ⟨rfl, hbd⟩
      have hbcd := bw_trans hbc hbd
      have hwd := bw_trans hwa (bw_trans hbb hbcd)
      have HJ2 := Lib.hid (sj_row (row_bw HP2.out hbcd) hl2)
      go_wp2_with fail
      refine (fj_impl HJ2.out (env_bw HE.out hwd).1).mono ?_
      rw [HFJ.out]
      rintro e we ⟨rfl, hbe⟩
      go_wp2
      go_ret
      exact ⟨rfl, bw_trans hwd hbe⟩
end Go.Proofs.YtnmpilmjkgdpgaaDoor
