/-
  The walk of the law FnDueSafe.
-/
import Derived.Test.YtaadlgpglfpmpaaGH
import Derived.Test.YtaadlgpglfpmpaaVrt
import Derived.Test.YtaadlgpglfpmpaaEdfL
import Derived.Test.YtaadlgpglfpmpaaGJ



namespace Go.Proofs.Ytaadlgpglfpmpaa
open Go.RowKit

set_option maxRecDepth 100000 in
set_option maxHeartbeats 3200000 in
theorem law_FnDueSafe (v : Value) (w : World) (hv : RawB w v) : Calls Try.prog 4 #[v] w fun e w' => e = .returned (.bool true) ∧ Bw w w' := by
  have HV := Lib.hid hv
  obtain ⟨⟨bo, n, cc, rfl, hc, hm, _⟩⟩ := hv
  unfold maxLen at hm
  by_cases hn : 1048576 < n
  · go_enter Try.func4, Try.ntmps4
    go_wp2
    go_ret
    exact ⟨rfl, Bw.refl _⟩
  have hnd : decide (1048576 < (n : Int)) = false := decide_eq_false (by omega)
  go_enter Try.func4, Try.ntmps4
  go_wp2_with fail
  refine (DrawRunJobs_any HV.out (Bw.refl _)).mono ?_
  clear hnd
  rintro e w1 ⟨ao, c, l, bj, d, js, P, N, rfl, ⟨hown, hl6, _, hjow, hj61, _, hb1⟩, hPb, hNb⟩
  have hl : l.length ≤ 1048576 := by omega
  have hj : js.length ≤ 1048576 := by omega
  have HS := Lib.hid (st_row hown hl)
  have HJ := Lib.hid (sj_row hjow hj)
  have HT := Lib.hid (Own.ofRow hown).rt
  have HK := Lib.hid (Own.ofRow hjow).rj
  clear hown hjow
  go_wp2_with fail
  refine (runjobs_implR HS.out HJ.out P N).mono ?_
  have hbd := runJ_bd l js P N
  obtain ⟨r, hr⟩ : ∃ r, (runJ l js P N).1 = r := ⟨_, rfl⟩
  obtain ⟨o, ho⟩ : ∃ o, (runJ l js P N).2 = o := ⟨_, rfl⟩
  rw [hr] at hbd
  rw [hr, ho]
  have HR := Lib.hid hr
  have HO := Lib.hid ho
  have HBD := Lib.hid hbd
  clear hr ho hbd
  rintro e w2 ⟨a1, c1, a2, c2, a3, c3, rfl, h1, h2, h3, _, hb2, hcaps⟩
  have HCAPS := Lib.hid hcaps
  clear hcaps
  have H1 := Lib.hid h1
  have H2 := Lib.hid h2
  have H3 := Lib.hid h3
  clear h1 h2 h3
  go_wp2_with fail
  refine (runjobs_specR ((HS.out.bw hb2).bw (bw_alloc _ _)) ((HJ.out.bw hb2).bw (bw_alloc _ _)) P N).mono ?_
  rw [HR.out, HO.out]
  rintro e w3 ⟨d1, k1, d2, k2, d3, k3, rfl, g1, g2, g3, _, hb3, _⟩
  have hb23 := bw_trans (bw_alloc w2 _) hb3
  have HB7 := Lib.hid (box_last hb3)
  have s0 := blk_cell HB7.out 0 rfl
  have s1 := blk_cell HB7.out 1 rfl
  have s2 := blk_cell HB7.out 2 rfl
  have s3 := blk_cell HB7.out 3 rfl
  have sl := blk_lt HB7.out
  have G1 := Lib.hid g1
  have G2 := Lib.hid g2
  have G3 := Lib.hid g3
  clear g1 g2 g3
  have HRR := Lib.hid (rr_mk (c1 := c1) (c2 := c2) (c3 := c3) (H1.out.bw hb23).ri (H2.out.bw hb23).ri (H3.out.bw hb23).ri HBD.out)
  have HRS := Lib.hid (rr_mk (c1 := k1) (c2 := k2) (c3 := k3) G1.out.ri G2.out.ri G3.out.ri HBD.out)
  go_wp2_with fail
  refine (same_impl (HRR.out.bw (bw_alloc _ _)) (HRS.out.bw (bw_alloc _ _))).mono ?_
  rw [eqR_refl]
  rintro e w4 ⟨rfl, hb4⟩
  have h34 := bw_trans (bw_alloc w3 _) hb4
  have h14 := bw_trans (bw_trans hb2 hb23) h34
  have hw4 := bw_trans hb1 h14
  have HB9 := Lib.hid (box_last hb4)
  have HB7 := Lib.hid (blk_bw h34 HB7.out)
  clear s0 s1 s2 s3 sl
  have HQ := Lib.hid (runJ_same HR.out HO.out)
  cases o with
  | false =>
    have s0 := blk_cell HB7.out 0 rfl
    have s1 := blk_cell HB7.out 1 rfl
    have s2 := blk_cell HB7.out 2 rfl
    have s3 := blk_cell HB7.out 3 rfl
    have sl := blk_lt HB7.out
    have t0 := blk_cell HB9.out 0 rfl
    have t1 := blk_cell HB9.out 1 rfl
    have t2 := blk_cell HB9.out 2 rfl
    have t3 := blk_cell HB9.out 3 rfl
    have tl := blk_lt HB9.out
    go_wp2_with fail
    refine (same_impl (HRR.out.bw h34) (HRS.out.bw h34)).mono ?_
    rw [eqR_refl]
    rintro e w5 ⟨rfl, hb5⟩
    go_wp2
    go_ret
    exact ⟨rfl, bw_trans hw4 hb5⟩
  | true =>
    have HE := Lib.hid (H1.out.bw (bw_trans hb23 h34)).ri
    have HTR := Lib.hid (H2.out.bw (bw_trans hb23 h34)).ri
    have HSW := Lib.hid (H3.out.bw (bw_trans hb23 h34)).ri
    have HRR4 := Lib.hid (HRR.out.bw h34)
    have HRS4 := Lib.hid (HRS.out.bw h34)
    have HS4 := Lib.hid (HS.out.bw h14)
    have HJ4 := Lib.hid (HJ.out.bw h14)
    have HT4 := Lib.hid (HT.out.bw h14)
    have HK4 := Lib.hid (HK.out.bw h14)
    have hok := (runJ_ok HQ.out).1
    have h60 := jobs_len hok
    have hN0 := (runJ_ok HQ.out).2.1
    have hN1 := (runJ_ok HQ.out).2.2.1
    have hel := run_elen HQ.out
    have htl := run_tlen HQ.out
    have HOK := Lib.hid hok
    have HEL := Lib.hid hel
    have HTL := Lib.hid htl
    clear hel htl
    clear hok HRR HRS H1 H2 H3 G1 G2 G3 HR HO hb23 h34 hb4 hb3
    have hvc := fun (ao' : Option Addr) (c' : Nat) (hq : RT w4 ao' l) => HoldsVirtual_impl ao' c' w4 l hl hq
    obtain ⟨q, HQL⟩ : ∃ q, Hid (virtB l = q) := ⟨_, rfl⟩
    rw [HQL.out] at hvc
    have HVC := Lib.hid hvc
    clear hvc
    go_wp2_with fail
    refine (HVC.out _ _ HT4.out).mono ?_
    rintro e w5 ⟨rfl, hb5⟩
    cases q with
    | false =>
      go_wp2
      go_ret
      exact ⟨rfl, bw_trans hw4 hb5⟩
    | true =>
      have hfac := (virt_of HQL.out).2.2.1
      have hyes := runJ_yes' (pol := 1) (n := N) HOK.out (.inr ⟨rfl, hfac⟩) hN0 hN1
      obtain ⟨x, hx⟩ : ∃ x, (ticks l js (decide ((1 : Int) = 1)) (factor l).1 N.toNat 0 (st0 js.length)).run = x := ⟨_, rfl⟩
      rw [hx] at hyes
      have hxb := runJ_bd l js 1 N
      have hc := runjobs_implR (HS4.out.bw hb5) (HJ4.out.bw hb5) 1 N
      rw [hyes] at hc hxb
      dsimp only at hc hxb
      have hmis := run_due hyes HQL.out
      have HX := Lib.hid hx
      have HXB := Lib.hid hxb
      have HC := Lib.hid hc
      have HYES := Lib.hid hyes
      have HFAC := Lib.hid hfac
      clear hx hxb hc hyes hfac
      go_wp2_with fail
      refine (HC.out).mono ?_
      rintro e w6 ⟨b1, e1, b2, e2, b3, e3, rfl, k1, k2, k3, _, hb6, _⟩
      have HXR := Lib.hid (rr_mk (c1 := e1) (c2 := e2) (c3 := e3) k1.ri k2.ri k3.ri HXB.out)
      have hb16 := bw_trans hb5 (bw_trans hb6 (bw_alloc w6 (.cells #[.slice b1 x.ended.length e1, .slice b2 x.trace.length e2, .slice b3 x.switches.length e3, .bool x.high] 29)))
      clear k1 k2 k3
      have hc := misses_impl (HS4.out.bw hb16) (HJ4.out.bw hb16) (HXR.out.bw (bw_alloc w6 (.cells #[.slice b1 x.ended.length e1, .slice b2 x.trace.length e2, .slice b3 x.switches.length e3, .bool x.high] 29)))
      rw [hmis] at hc
      dsimp only [List.length_nil] at hc
      have HMIS := Lib.hid hmis
      have HC := Lib.hid hc
      clear hmis hc
      go_wp2_with fail
      refine (HC.out).mono ?_
      rintro e w8 ⟨am, cm, rfl, _, hb8⟩
      go_wp2
      go_ret
      exact ⟨rfl, bw_trans hw4 (bw_trans hb16 hb8)⟩
end Go.Proofs.Ytaadlgpglfpmpaa
