/-
  The walk of the law FnRunWorstLow.
-/
import Derived.Test.YtchpfpekkgbehaaGH
import Derived.Test.YtchpfpekkgbehaaRsv
import Derived.Test.YtchpfpekkgbehaaResL
import Derived.Test.YtchpfpekkgbehaaPlD
import Derived.Test.YtchpfpekkgbehaaWorst
import Derived.Test.YtchpfpekkgbehaaGJ





namespace Go.Proofs.Ytchpfpekkgbehaa
open Go.RowKit

set_option maxHeartbeats 400000 in
theorem worst_implL {w : World} {v : Value} {l : List Tk} (hl : ST w v l) (u : Int) : Calls Try.prog 36 #[v, .int .i64 u, .bool false] w (RetP w 45 3 (jbs (worst l u false).1) (worst l u false).1.length (worst l u false).2) := by
  obtain ⟨⟨ao, c, rfl, hr, _⟩, hn⟩ := hl
  exact WorstJobs_impl_false ao c w l u hn hr
set_option maxRecDepth 100000 in
set_option maxHeartbeats 3200000 in
theorem law_FnRunWorstLow (v : Value) (w : World) (hv : RawB w v) : Calls Try.prog 13 #[v] w fun e w' => e = .returned (.bool true) ∧ Bw w w' := by
  have HV := Lib.hid hv
  obtain ⟨⟨bo, n, cc, rfl, hc, hm, _⟩⟩ := hv
  unfold maxLen at hm
  by_cases hn : 1048576 < n
  · go_enter Try.func13, Try.ntmps13
    go_wp2
    go_ret
    exact ⟨rfl, Bw.refl _⟩
  have hnd : decide (1048576 < (n : Int)) = false := decide_eq_false (by omega)
  go_enter Try.func13, Try.ntmps13
  go_wp2_with fail
  refine (DrawRunJobs_any HV.out (Bw.refl _)).mono ?_
  clear hnd
  rintro e w1 ⟨ao, c, l, bj, d, js, P, N, rfl, ⟨hown, hl6, _, hjow, hj61, _, hb1⟩, hPb, hNb⟩
  have hl : l.length ≤ 1048576 := by omega
  have hj : js.length ≤ 1048576 := by omega
  have HS := Lib.hid (st_row hown hl)
  have HJ := Lib.hid (sj_row hjow hj)
  have HT := Lib.hid (Own.ofRow hown).rt
  have HK := Lib.hid (Own.ofRow hjow).rj
  clear hown hjow
  go_wp2_with fail
  refine (runjobs_implR HS.out HJ.out P N).mono ?_
  have hbd := runJ_bd l js P N
  obtain ⟨r, hr⟩ : ∃ r, (runJ l js P N).1 = r := ⟨_, rfl⟩
  obtain ⟨o, ho⟩ : ∃ o, (runJ l js P N).2 = o := ⟨_, rfl⟩
  rw [hr] at hbd
  rw [hr, ho]
  have HR := Lib.hid hr
  have HO := Lib.hid ho
  have HBD := Lib.hid hbd
  clear hr ho hbd
  rintro e w2 ⟨a1, c1, a2, c2, a3, c3, rfl, h1, h2, h3, _, hb2, hcaps⟩
  have HCAPS := Lib.hid hcaps
  clear hcaps
  have H1 := Lib.hid h1
  have H2 := Lib.hid h2
  have H3 := Lib.hid h3
  clear h1 h2 h3
  go_wp2_with fail
  refine (runjobs_specR ((HS.out.bw hb2).bw (bw_alloc _ _)) ((HJ.out.bw hb2).bw (bw_alloc _ _)) P N).mono ?_
  rw [HR.out, HO.out]
  rintro e w3 ⟨d1, k1, d2, k2, d3, k3, rfl, g1, g2, g3, _, hb3, _⟩
  have hb23 := bw_trans (bw_alloc w2 _) hb3
  have HB7 := Lib.hid (box_last hb3)
  have s0 := blk_cell HB7.out 0 rfl
  have s1 := blk_cell HB7.out 1 rfl
  have s2 := blk_cell HB7.out 2 rfl
  have s3 := blk_cell HB7.out 3 rfl
  have sl := blk_lt HB7.out
  have G1 := Lib.hid g1
  have G2 := Lib.hid g2
  have G3 := Lib.hid g3
  clear g1 g2 g3
  have HRR := Lib.hid (rr_mk (c1 := c1) (c2 := c2) (c3 := c3) (H1.out.bw hb23).ri (H2.out.bw hb23).ri (H3.out.bw hb23).ri HBD.out)
  have HRS := Lib.hid (rr_mk (c1 := k1) (c2 := k2) (c3 := k3) G1.out.ri G2.out.ri G3.out.ri HBD.out)
  go_wp2_with fail
  refine (same_impl (HRR.out.bw (bw_alloc _ _)) (HRS.out.bw (bw_alloc _ _))).mono ?_
  rw [eqR_refl]
  rintro e w4 ⟨rfl, hb4⟩
  have h34 := bw_trans (bw_alloc w3 _) hb4
  have h14 := bw_trans (bw_trans hb2 hb23) h34
  have hw4 := bw_trans hb1 h14
  have HB9 := Lib.hid (box_last hb4)
  have HB7 := Lib.hid (blk_bw h34 HB7.out)
  clear s0 s1 s2 s3 sl
  have HQ := Lib.hid (runJ_same HR.out HO.out)
  cases o with
  | false =>
    have s0 := blk_cell HB7.out 0 rfl
    have s1 := blk_cell HB7.out 1 rfl
    have s2 := blk_cell HB7.out 2 rfl
    have s3 := blk_cell HB7.out 3 rfl
    have sl := blk_lt HB7.out
    have t0 := blk_cell HB9.out 0 rfl
    have t1 := blk_cell HB9.out 1 rfl
    have t2 := blk_cell HB9.out 2 rfl
    have t3 := blk_cell HB9.out 3 rfl
    have tl := blk_lt HB9.out
    go_wp2_with fail
    refine (same_impl (HRR.out.bw h34) (HRS.out.bw h34)).mono ?_
    rw [eqR_refl]
    rintro e w5 ⟨rfl, hb5⟩
    go_wp2
    go_ret
    exact ⟨rfl, bw_trans hw4 hb5⟩
  | true =>
    have HE := Lib.hid (H1.out.bw (bw_trans hb23 h34)).ri
    have HTR := Lib.hid (H2.out.bw (bw_trans hb23 h34)).ri
    have HSW := Lib.hid (H3.out.bw (bw_trans hb23 h34)).ri
    have HRR4 := Lib.hid (HRR.out.bw h34)
    have HRS4 := Lib.hid (HRS.out.bw h34)
    have HS4 := Lib.hid (HS.out.bw h14)
    have HJ4 := Lib.hid (HJ.out.bw h14)
    have HT4 := Lib.hid (HT.out.bw h14)
    have HK4 := Lib.hid (HK.out.bw h14)
    have hok := (runJ_ok HQ.out).1
    have h60 := jobs_len hok
    have hN0 := (runJ_ok HQ.out).2.1
    have hN1 := (runJ_ok HQ.out).2.2.1
    have hel := run_elen HQ.out
    have htl := run_tlen HQ.out
    have HOK := Lib.hid hok
    have HEL := Lib.hid hel
    have HTL := Lib.hid htl
    clear hel htl
    clear hok HRR HRS H1 H2 H3 G1 G2 G3 HR HO hb23 h34 hb4 hb3
    go_wp2_with fail
    refine (low_implR HS4.out).mono ?_
    obtain ⟨q, HQL⟩ : ∃ q, Hid (holdsLowB l = q) := ⟨_, rfl⟩
    rw [HQL.out]
    rintro e w5 ⟨rfl, hb5⟩
    cases q with
    | false =>
      have s0 := blk_cell (blk_bw hb5 HB7.out) 0 rfl
      have s1 := blk_cell (blk_bw hb5 HB7.out) 1 rfl
      have s2 := blk_cell (blk_bw hb5 HB7.out) 2 rfl
      have s3 := blk_cell (blk_bw hb5 HB7.out) 3 rfl
      have sl := blk_lt (blk_bw hb5 HB7.out)
      have t0 := blk_cell (blk_bw hb5 HB9.out) 0 rfl
      have t1 := blk_cell (blk_bw hb5 HB9.out) 1 rfl
      have t2 := blk_cell (blk_bw hb5 HB9.out) 2 rfl
      have t3 := blk_cell (blk_bw hb5 HB9.out) 3 rfl
      have tl := blk_lt (blk_bw hb5 HB9.out)
      go_wp2_with fail
      refine (same_impl (HRR4.out.bw hb5) (HRS4.out.bw hb5)).mono ?_
      rw [eqR_refl]
      rintro e wz ⟨rfl, hbz⟩
      go_wp2
      go_ret
      exact ⟨rfl, bw_trans (bw_trans hw4 hb5) hbz⟩
    | true =>
      go_wp2_with fail
      refine (worst_implL (HS4.out.bw hb5) 20).mono ?_
      obtain ⟨js2, hj2⟩ : ∃ js2, (worst l 20 false).1 = js2 := ⟨_, rfl⟩
      obtain ⟨o2, ho2⟩ : ∃ o2, (worst l 20 false).2 = o2 := ⟨_, rfl⟩
      have hlx : js2.length ≤ 1048576 := by rw [← hj2]; exact Nat.le_trans (worst_len _ _ _) (by omega)
      rw [hj2, ho2]
      rintro e w6 ⟨ax, cx, rfl, hx, hb6⟩
      have hb46 := bw_trans hb5 hb6
      have HX := Lib.hid (sj_row hx hlx)
      have HJ2 := Lib.hid hj2
      have HO2 := Lib.hid ho2
      clear hj2 ho2
      clear hx
      go_wp2_with fail
      refine (runjobs_implR (HS4.out.bw hb46) HX.out 0 40).mono ?_
      have hbd2 := runJ_bd l js2 0 40
      obtain ⟨r2, hr2⟩ : ∃ r2, (runJ l js2 0 40).1 = r2 := ⟨_, rfl⟩
      obtain ⟨o3, ho3⟩ : ∃ o3, (runJ l js2 0 40).2 = o3 := ⟨_, rfl⟩
      rw [hr2] at hbd2
      rw [hr2, ho3]
      have HR2 := Lib.hid hr2
      have HO3 := Lib.hid ho3
      have HBD2 := Lib.hid hbd2
      clear hr2 ho3 hbd2
      rintro e w7 ⟨f1, g1, f2, g2, f3, g3, rfl, h1, h2, h3, _, hb7, _⟩
      have HRR2 := Lib.hid (rr_mk (c1 := g1) (c2 := g2) (c3 := g3) h1.ri h2.ri h3.ri HBD2.out)
      have hb47 := bw_trans hb46 (bw_trans hb7 (bw_alloc w7 (.cells #[.slice f1 r2.ended.length g1, .slice f2 r2.trace.length g2, .slice f3 r2.switches.length g3, .bool r2.high] 29)))
      clear h1 h2 h3
      cases o2 with
      | false =>
        go_wp2
        go_ret
        exact ⟨rfl, bw_trans hw4 hb47⟩
      | true =>
        obtain ⟨js3, hw3, hok3, _⟩ := worst_plain HO2.out
        have hj3 : js3 = js2 := by rw [← HJ2.out, hw3]
        subst hj3
        have hnh : highs l js3 = [] := by have := worst_nohigh HO2.out; rw [hw3] at this; exact this
        have hyes := runJ_yes' (pol := 0) (n := 40) hok3 (.inl rfl) (by omega) (by omega)
        obtain rfl : o3 = true := by rw [← HO3.out, hyes]
        have hmis := run_place_low (N := 40) (runJ_same HR2.out HO3.out) HQL.out hnh
        have hc := misses_impl (HS4.out.bw hb47) (HX.out.bw (bw_trans hb7 (bw_alloc w7 (.cells #[.slice f1 r2.ended.length g1, .slice f2 r2.trace.length g2, .slice f3 r2.switches.length g3, .bool r2.high] 29)))) (HRR2.out.bw (bw_alloc w7 (.cells #[.slice f1 r2.ended.length g1, .slice f2 r2.trace.length g2, .slice f3 r2.switches.length g3, .bool r2.high] 29)))
        rw [hmis] at hc
        dsimp only [List.length_nil] at hc
        have HW3 := Lib.hid hw3
        have HOK3 := Lib.hid hok3
        have HNH := Lib.hid hnh
        have HYES := Lib.hid hyes
        have HMIS := Lib.hid hmis
        have HC := Lib.hid hc
        clear hw3 hok3 hnh hyes hmis hc
        go_wp2_with fail
        refine (HC.out).mono ?_
        rintro e w8 ⟨am, cm, rfl, _, hb8⟩
        go_wp2
        go_ret
        exact ⟨rfl, bw_trans hw4 (bw_trans hb47 hb8)⟩
end Go.Proofs.Ytchpfpekkgbehaa
