/-
  The walk of the law FnRunNoJobs.
-/
import Derived.Test.YtchpfpekkgbehaaGH
import Derived.Test.YtchpfpekkgbehaaGJ

namespace Go.Proofs.Ytchpfpekkgbehaa
open Go.RowKit

set_option maxRecDepth 100000 in
set_option maxHeartbeats 3200000 in
theorem law_FnRunNoJobs (v : Value) (w : World) (hv : RawB w v) : Calls Try.prog 3 #[v] w fun e w' => e = .returned (.bool true) ∧ Bw w w' := by
  have HV := Lib.hid hv
  obtain ⟨⟨bo, n, cc, rfl, hc, hm, _⟩⟩ := hv
  unfold maxLen at hm
  by_cases hn : 1048576 < n
  · go_enter Try.func3, Try.ntmps3
    go_wp2
    go_ret
    exact ⟨rfl, Bw.refl _⟩
  have hnd : decide (1048576 < (n : Int)) = false := decide_eq_false (by omega)
  go_enter Try.func3, Try.ntmps3
  go_wp2_with fail
  refine (DrawRunJobs_any HV.out (Bw.refl _)).mono ?_
  clear hnd
  rintro e w1 ⟨ao, c, l, bj, d, js, P, N, rfl, ⟨hown, hl6, _, hjow, hj61, _, hb1⟩, hPb, hNb⟩
  have hl : l.length ≤ 1048576 := by omega
  have hj : js.length ≤ 1048576 := by omega
  have HS := Lib.hid (st_row hown hl)
  have HJ := Lib.hid (sj_row hjow hj)
  have HT := Lib.hid (Own.ofRow hown).rt
  have HK := Lib.hid (Own.ofRow hjow).rj
  clear hown hjow
  go_wp2_with fail
  refine (runjobs_implR HS.out HJ.out P N).mono ?_
  have hbd := runJ_bd l js P N
  obtain ⟨r, hr⟩ : ∃ r, (runJ l js P N).1 = r := ⟨_, rfl⟩
  obtain ⟨o, ho⟩ : ∃ o, (runJ l js P N).2 = o := ⟨_, rfl⟩
  rw [hr] at hbd
  rw [hr, ho]
  have HR := Lib.hid hr
  have HO := Lib.hid ho
  have HBD := Lib.hid hbd
  clear hr ho hbd
  rintro e w2 ⟨a1, c1, a2, c2, a3, c3, rfl, h1, h2, h3, _, hb2, hcaps⟩
  have HCAPS := Lib.hid hcaps
  clear hcaps
  have H1 := Lib.hid h1
  have H2 := Lib.hid h2
  have H3 := Lib.hid h3
  clear h1 h2 h3
  go_wp2_with fail
  refine (runjobs_specR ((HS.out.bw hb2).bw (bw_alloc _ _)) ((HJ.out.bw hb2).bw (bw_alloc _ _)) P N).mono ?_
  rw [HR.out, HO.out]
  rintro e w3 ⟨d1, k1, d2, k2, d3, k3, rfl, g1, g2, g3, _, hb3, _⟩
  have hb23 := bw_trans (bw_alloc w2 _) hb3
  have HB7 := Lib.hid (box_last hb3)
  have s0 := blk_cell HB7.out 0 rfl
  have s1 := blk_cell HB7.out 1 rfl
  have s2 := blk_cell HB7.out 2 rfl
  have s3 := blk_cell HB7.out 3 rfl
  have sl := blk_lt HB7.out
  have G1 := Lib.hid g1
  have G2 := Lib.hid g2
  have G3 := Lib.hid g3
  clear g1 g2 g3
  have HRR := Lib.hid (rr_mk (c1 := c1) (c2 := c2) (c3 := c3) (H1.out.bw hb23).ri (H2.out.bw hb23).ri (H3.out.bw hb23).ri HBD.out)
  have HRS := Lib.hid (rr_mk (c1 := k1) (c2 := k2) (c3 := k3) G1.out.ri G2.out.ri G3.out.ri HBD.out)
  go_wp2_with fail
  refine (same_impl (HRR.out.bw (bw_alloc _ _)) (HRS.out.bw (bw_alloc _ _))).mono ?_
  rw [eqR_refl]
  rintro e w4 ⟨rfl, hb4⟩
  have h34 := bw_trans (bw_alloc w3 _) hb4
  have h14 := bw_trans (bw_trans hb2 hb23) h34
  have hw4 := bw_trans hb1 h14
  have HB9 := Lib.hid (box_last hb4)
  have HB7 := Lib.hid (blk_bw h34 HB7.out)
  clear s0 s1 s2 s3 sl
  have HQ := Lib.hid (runJ_same HR.out HO.out)
  cases o with
  | false =>
    have s0 := blk_cell HB7.out 0 rfl
    have s1 := blk_cell HB7.out 1 rfl
    have s2 := blk_cell HB7.out 2 rfl
    have s3 := blk_cell HB7.out 3 rfl
    have sl := blk_lt HB7.out
    have t0 := blk_cell HB9.out 0 rfl
    have t1 := blk_cell HB9.out 1 rfl
    have t2 := blk_cell HB9.out 2 rfl
    have t3 := blk_cell HB9.out 3 rfl
    have tl := blk_lt HB9.out
    go_wp2_with fail
    refine (same_impl (HRR.out.bw h34) (HRS.out.bw h34)).mono ?_
    rw [eqR_refl]
    rintro e w5 ⟨rfl, hb5⟩
    go_wp2
    go_ret
    exact ⟨rfl, bw_trans hw4 hb5⟩
  | true =>
    have HE := Lib.hid (H1.out.bw (bw_trans hb23 h34)).ri
    have HTR := Lib.hid (H2.out.bw (bw_trans hb23 h34)).ri
    have HSW := Lib.hid (H3.out.bw (bw_trans hb23 h34)).ri
    have HRR4 := Lib.hid (HRR.out.bw h34)
    have HRS4 := Lib.hid (HRS.out.bw h34)
    have HS4 := Lib.hid (HS.out.bw h14)
    have HJ4 := Lib.hid (HJ.out.bw h14)
    have HT4 := Lib.hid (HT.out.bw h14)
    have HK4 := Lib.hid (HK.out.bw h14)
    have hok := (runJ_ok HQ.out).1
    have h60 := jobs_len hok
    have hN0 := (runJ_ok HQ.out).2.1
    have hN1 := (runJ_ok HQ.out).2.2.1
    have hel := run_elen HQ.out
    have htl := run_tlen HQ.out
    have HOK := Lib.hid hok
    have HEL := Lib.hid hel
    have HTL := Lib.hid htl
    clear hel htl
    clear hok HRR HRS H1 H2 H3 G1 G2 G3 HR HO hb23 h34 hb4 hb3
    obtain ⟨x, hx, hxe, hxt, hxs, hxh⟩ : ∃ x : Rn, runJ l [] P N = (x, true) ∧ x.ended = [] ∧ ((cntFrom x.trace (-1) 0 : Nat) : Int) = N ∧ x.switches = [] ∧ x.high = false := ⟨_, run_none HQ.out, rfl, by dsimp only; rw [cnt_rep]; omega, rfl, rfl⟩
    have hxb := runJ_bd l [] P N
    rw [hx] at hxb
    have hc := fun (W : World) (hW : Bw w4 W) => runjobs_impl (w := W) (ao := ao) (bo := some ⟨w4.heap.size, 0, none⟩) (c := c) (d := 0) (l := l) (js := []) P N hl (by simp) (Nat.le_refl 0) (HT4.out.bw hW) (RJ.nil _ _)
    rw [hx] at hc
    dsimp only [List.length_nil] at hc
    have HX := Lib.hid hx
    have HXB := Lib.hid hxb
    have HC := Lib.hid hc
    have HXH := Lib.hid hxh
    clear hx hxb hc hxh
    go_wp2_with fail
    refine (HC.out _ (bw_alloc _ _)).mono ?_
    rintro e w5 ⟨b1, e1, b2, e2, b3, e3, rfl, k1, k2, k3, _, hb5, _⟩
    have HXR := Lib.hid (rr_mk (c1 := e1) (c2 := e2) (c3 := e3) k1.ri k2.ri k3.ri HXB.out)
    have hw5 := bw_trans hw4 (bw_trans (bw_alloc _ _) hb5)
    have le0 : ((x.ended.length : Int) == 0) = true := by rw [hxe]; rfl
    have ls0 : ((x.switches.length : Int) == 0) = true := by rw [hxs]; rfl
    have ln0 : x.ended.length = 0 := by rw [hxe]; rfl
    have lt0 : x.switches.length = 0 := by rw [hxs]; rfl
    obtain ⟨C, hC⟩ : ∃ C : Nat, cntFrom x.trace (-1) 0 = C := ⟨_, rfl⟩
    rw [hC] at hxt
    have lc : ((C : Int) == N) = true := by rw [hxt]; simp
    have K1 := Lib.hid k1
    have K2 := Lib.hid k2
    have K3 := Lib.hid k3
    have HXE := Lib.hid hxe
    have HXS := Lib.hid hxs
    have HXT := Lib.hid hxt
    have LN0 := Lib.hid ln0
    have LT0 := Lib.hid lt0
    clear k1 k2 k3 hxe hxs hxt ln0 lt0
    go_wp2_with fail
    refine (idle_impl (HXR.out.bw (bw_alloc _ _))).mono ?_
    rw [show cnt x.trace (-1) = C from hC]
    rintro e w6 ⟨rfl, hb6⟩
    have B := Lib.hid (box_last hb6)
    have s0 := blk_cell B.out 0 rfl
    have s1 := blk_cell B.out 1 rfl
    have s2 := blk_cell B.out 2 rfl
    have s3 := blk_cell B.out 3 rfl
    have sl := blk_lt B.out
    rw [HXH.out] at s3
    have HC := Lib.hid hC
    clear hC
    go_wp2
    go_ret
    exact ⟨rfl, bw_trans hw5 (bw_trans (bw_alloc _ _) hb6)⟩
end Go.Proofs.Ytchpfpekkgbehaa
