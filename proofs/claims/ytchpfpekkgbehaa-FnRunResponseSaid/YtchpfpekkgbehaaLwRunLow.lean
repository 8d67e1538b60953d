/-
  The walk of the law FnRunLow.
-/
import Derived.Test.YtchpfpekkgbehaaGH
import Derived.Test.YtchpfpekkgbehaaGJ
import Derived.Deep.RegionHeld3


namespace Go.Proofs.Ytchpfpekkgbehaa
open Go.RowKit

theorem dropped_nil : ∀ (l : List Int) (m : Nat), (∀ e ∈ l, e ≠ -2) → dropFrom l m = []
  | [], _, _ => rfl
  | x :: l, m, h => by rw [dropFrom, if_neg (h x (by simp)), dropped_nil l (m + 1) (fun e he => h e (by simp [he]))]
theorem highs_implR {w : World} {v u : Value} {l : List Tk} {js : List Jb} (hl : ST w v l) (hj : SJ w u js) : Calls Try.prog 22 #[v, u] w (Ret w 3 1 (ints (highs l js)) (highs l js).length) := by
  obtain ⟨⟨ao, c, rfl, hr, _⟩, hn⟩ := hl
  obtain ⟨⟨bo, d, rfl, hs, hd, _⟩, hm⟩ := hj
  exact HighJobs_impl ao bo c d w l js hn hm hd hr hs

set_option maxRecDepth 100000 in
set_option maxHeartbeats 3200000 in
theorem law_FnRunLow (v : Value) (w : World) (hv : RawB w v) : Calls Try.prog 6 #[v] w fun e w' => e = .returned (.bool true) ∧ Bw w w' := by
  have HV := Lib.hid hv
  obtain ⟨⟨bo, n, cc, rfl, hc, hm, _⟩⟩ := hv
  unfold maxLen at hm
  by_cases hn : 1048576 < n
  · go_enter Try.func6, Try.ntmps6
    go_wp2
    go_ret
    exact ⟨rfl, Bw.refl _⟩
  have hnd : decide (1048576 < (n : Int)) = false := decide_eq_false (by omega)
  go_enter Try.func6, Try.ntmps6
  go_wp2_with fail
  refine (DrawRunJobs_any HV.out (Bw.refl _)).mono ?_
  clear hnd
  rintro e w1 ⟨ao, c, l, bj, d, js, P, N, rfl, ⟨hown, hl6, _, hjow, hj61, _, hb1⟩, hPb, hNb⟩
  have hl : l.length ≤ 1048576 := by omega
  have hj : js.length ≤ 1048576 := by omega
  have HS := Lib.hid (st_row hown hl)
  have HJ := Lib.hid (sj_row hjow hj)
  have HT := Lib.hid (Own.ofRow hown).rt
  have HK := Lib.hid (Own.ofRow hjow).rj
  clear hown hjow
  go_wp2_with fail
  refine (runjobs_implR HS.out HJ.out P N).mono ?_
  have hbd := runJ_bd l js P N
  obtain ⟨r, hr⟩ : ∃ r, (runJ l js P N).1 = r := ⟨_, rfl⟩
  obtain ⟨o, ho⟩ : ∃ o, (runJ l js P N).2 = o := ⟨_, rfl⟩
  rw [hr] at hbd
  rw [hr, ho]
  have HR := Lib.hid hr
  have HO := Lib.hid ho
  have HBD := Lib.hid hbd
  clear hr ho hbd
  rintro e w2 ⟨a1, c1, a2, c2, a3, c3, rfl, h1, h2, h3, _, hb2, hcaps⟩
  have HCAPS := Lib.hid hcaps
  clear hcaps
  have H1 := Lib.hid h1
  have H2 := Lib.hid h2
  have H3 := Lib.hid h3
  clear h1 h2 h3
  go_wp2_with fail
  refine (runjobs_specR ((HS.out.bw hb2).bw (bw_alloc _ _)) ((HJ.out.bw hb2).bw (bw_alloc _ _)) P N).mono ?_
  rw [HR.out, HO.out]
  rintro e w3 ⟨d1, k1, d2, k2, d3, k3, rfl, g1, g2, g3, _, hb3, _⟩
  have hb23 := bw_trans (bw_alloc w2 _) hb3
  have HB7 := Lib.hid (box_last hb3)
  have s0 := blk_cell HB7.out 0 rfl
  have s1 := blk_cell HB7.out 1 rfl
  have s2 := blk_cell HB7.out 2 rfl
  have s3 := blk_cell HB7.out 3 rfl
  have sl := blk_lt HB7.out
  have G1 := Lib.hid g1
  have G2 := Lib.hid g2
  have G3 := Lib.hid g3
  clear g1 g2 g3
  have HRR := Lib.hid (rr_mk (c1 := c1) (c2 := c2) (c3 := c3) (H1.out.bw hb23).ri (H2.out.bw hb23).ri (H3.out.bw hb23).ri HBD.out)
  have HRS := Lib.hid (rr_mk (c1 := k1) (c2 := k2) (c3 := k3) G1.out.ri G2.out.ri G3.out.ri HBD.out)
  go_wp2_with fail
  refine (same_impl (HRR.out.bw (bw_alloc _ _)) (HRS.out.bw (bw_alloc _ _))).mono ?_
  rw [eqR_refl]
  rintro e w4 ⟨rfl, hb4⟩
  have h34 := bw_trans (bw_alloc w3 _) hb4
  have h14 := bw_trans (bw_trans hb2 hb23) h34
  have hw4 := bw_trans hb1 h14
  have HB9 := Lib.hid (box_last hb4)
  have HB7 := Lib.hid (blk_bw h34 HB7.out)
  clear s0 s1 s2 s3 sl
  have HQ := Lib.hid (runJ_same HR.out HO.out)
  cases o with
  | false =>
    have s0 := blk_cell HB7.out 0 rfl
    have s1 := blk_cell HB7.out 1 rfl
    have s2 := blk_cell HB7.out 2 rfl
    have s3 := blk_cell HB7.out 3 rfl
    have sl := blk_lt HB7.out
    have t0 := blk_cell HB9.out 0 rfl
    have t1 := blk_cell HB9.out 1 rfl
    have t2 := blk_cell HB9.out 2 rfl
    have t3 := blk_cell HB9.out 3 rfl
    have tl := blk_lt HB9.out
    go_wp2_with fail
    refine (same_impl (HRR.out.bw h34) (HRS.out.bw h34)).mono ?_
    rw [eqR_refl]
    rintro e w5 ⟨rfl, hb5⟩
    go_wp2
    go_ret
    exact ⟨rfl, bw_trans hw4 hb5⟩
  | true =>
    have HE := Lib.hid (H1.out.bw (bw_trans hb23 h34)).ri
    have HTR := Lib.hid (H2.out.bw (bw_trans hb23 h34)).ri
    have HSW := Lib.hid (H3.out.bw (bw_trans hb23 h34)).ri
    have HRR4 := Lib.hid (HRR.out.bw h34)
    have HRS4 := Lib.hid (HRS.out.bw h34)
    have HS4 := Lib.hid (HS.out.bw h14)
    have HJ4 := Lib.hid (HJ.out.bw h14)
    have HT4 := Lib.hid (HT.out.bw h14)
    have HK4 := Lib.hid (HK.out.bw h14)
    have hok := (runJ_ok HQ.out).1
    have h60 := jobs_len hok
    have hN0 := (runJ_ok HQ.out).2.1
    have hN1 := (runJ_ok HQ.out).2.2.1
    have hel := run_elen HQ.out
    have htl := run_tlen HQ.out
    have HOK := Lib.hid hok
    have HEL := Lib.hid hel
    have HTL := Lib.hid htl
    clear hel htl
    clear hok HRR HRS H1 H2 H3 G1 G2 G3 HR HO hb23 h34 hb4 hb3
    have hlow := run_low HQ.out
    go_wp2_with fail
    refine (highs_implR HS4.out HJ4.out).mono ?_
    obtain ⟨M, hM⟩ : ∃ M, (highs l js).length = M := ⟨_, rfl⟩
    rw [hM] at hlow
    rw [hM]
    rintro e w5 ⟨ah, ch, rfl, _, hb5⟩
    have hw5 := bw_trans hw4 hb5
    by_cases hM0 : 0 < M
    · have d0 : decide (0 < (M : Int)) = true := decide_eq_true (by omega)
      have d1 : decide ((r.switches.length : Int) ≤ (M : Int)) = true := decide_eq_true (by omega)
      have s0 := blk_cell (blk_bw hb5 HB7.out) 0 rfl
      have s1 := blk_cell (blk_bw hb5 HB7.out) 1 rfl
      have s2 := blk_cell (blk_bw hb5 HB7.out) 2 rfl
      have s3 := blk_cell (blk_bw hb5 HB7.out) 3 rfl
      have sl := blk_lt (blk_bw hb5 HB7.out)
      have HCC := Lib.hid (fun (W : World) (hW : Bw w5 W) => highs_implR ((HS4.out.bw hb5).bw hW) ((HJ4.out.bw hb5).bw hW))
      have HS2 := Lib.hid s2
      have HM := Lib.hid hM
      clear hM
      clear s0 s1 s2 s3 sl
      go_wp2_with fail
      go_region_held3 (fun W => W.cell? ⟨w2.heap.size, 2, none⟩ = some (.slice a3 r.switches.length c3))
        (first | exact cell_bw (bw_drew _) HS2.out | exact cell_bw (bw_trans (bw_drew _) hb6) HS2.out)
        (first | (go_at_call 22; refine (HCC.out _ (bw_drew _)).mono ?_; rw [HM.out]; rintro e w6 ⟨ah2, ch2, rfl, _, hb6⟩))
      go_wp2
      go_ret
      exact ⟨rfl, bw_trans hw5 (bw_trans (bw_drew _) hb6)⟩
    · have hM1 : M = 0 := by omega
      subst hM1
      have hs0 : r.switches = [] := List.eq_nil_of_length_eq_zero (by omega)
      obtain ⟨hh, hnd⟩ := run_low0 HQ.out hs0
      have hdn := dropped_nil r.ended 0 hnd
      have ls : ((r.switches.length : Int) == 0) = true := by rw [hs0]; rfl
      have s0 := blk_cell (blk_bw hb5 HB7.out) 0 rfl
      have s1 := blk_cell (blk_bw hb5 HB7.out) 1 rfl
      have s2 := blk_cell (blk_bw hb5 HB7.out) 2 rfl
      have s3 := blk_cell (blk_bw hb5 HB7.out) 3 rfl
      have sl := blk_lt (blk_bw hb5 HB7.out)
      rw [hh] at s3
      have hd := dropped_impl (HRR4.out.bw hb5)
      rw [show dropped r.ended = [] from hdn] at hd
      dsimp only [List.length_nil] at hd
      have HM := Lib.hid hM
      have HS0 := Lib.hid hs0
      have HDN := Lib.hid hdn
      have HND := Lib.hid hnd
      have HD := Lib.hid hd
      clear hM hs0 hdn hnd hd
      go_wp2_with fail
      rw [← hh]
      refine HD.out.mono ?_
      rintro e w6 ⟨ad, cd, rfl, _, hb6⟩
      have HH := Lib.hid hh
      clear hh
      go_wp2
      go_ret
      exact ⟨rfl, bw_trans hw5 hb6⟩
end Go.Proofs.Ytchpfpekkgbehaa
