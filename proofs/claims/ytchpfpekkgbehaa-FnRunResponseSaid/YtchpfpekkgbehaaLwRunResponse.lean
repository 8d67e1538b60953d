/-
  The walk of the law FnRunResponse.
-/
import Derived.Test.YtchpfpekkgbehaaGH
import Derived.Test.YtchpfpekkgbehaaRsv
import Derived.Test.YtchpfpekkgbehaaResL
import Derived.Test.YtchpfpekkgbehaaLwRunLow



namespace Go.Proofs.Ytchpfpekkgbehaa
open Go.RowKit

set_option maxRecDepth 100000 in
set_option maxHeartbeats 3200000 in
theorem law_FnRunResponse (v : Value) (w : World) (hv : RawB w v) : Calls Try.prog 12 #[v] w fun e w' => e = .returned (.bool true) ∧ Bw w w' := by
  have HV := Lib.hid hv
  obtain ⟨⟨bo, n, cc, rfl, hc, hm, _⟩⟩ := hv
  unfold maxLen at hm
  by_cases hn : 1048576 < n
  · go_enter Try.func12, Try.ntmps12
    go_wp2
    go_ret
    exact ⟨rfl, Bw.refl _⟩
  have hnd : decide (1048576 < (n : Int)) = false := decide_eq_false (by omega)
  go_enter Try.func12, Try.ntmps12
  go_wp2_with fail
  refine (DrawRunJobs_any HV.out (Bw.refl _)).mono ?_
  clear hnd
  rintro e w1 ⟨ao, c, l, bj, d, js, P, N, rfl, ⟨hown, hl6, _, hjow, hj61, _, hb1⟩, hPb, hNb⟩
  have hl : l.length ≤ 1048576 := by omega
  have hj : js.length ≤ 1048576 := by omega
  have HS := Lib.hid (st_row hown hl)
  have HJ := Lib.hid (sj_row hjow hj)
  have HT := Lib.hid (Own.ofRow hown).rt
  have HK := Lib.hid (Own.ofRow hjow).rj
  clear hown hjow
  go_wp2_with fail
  refine (runjobs_implR HS.out HJ.out P N).mono ?_
  have hbd := runJ_bd l js P N
  obtain ⟨r, hr⟩ : ∃ r, (runJ l js P N).1 = r := ⟨_, rfl⟩
  obtain ⟨o, ho⟩ : ∃ o, (runJ l js P N).2 = o := ⟨_, rfl⟩
  rw [hr] at hbd
  rw [hr, ho]
  have HR := Lib.hid hr
  have HO := Lib.hid ho
  have HBD := Lib.hid hbd
  clear hr ho hbd
  rintro e w2 ⟨a1, c1, a2, c2, a3, c3, rfl, h1, h2, h3, _, hb2, hcaps⟩
  have HCAPS := Lib.hid hcaps
  clear hcaps
  have H1 := Lib.hid h1
  have H2 := Lib.hid h2
  have H3 := Lib.hid h3
  clear h1 h2 h3
  go_wp2_with fail
  refine (runjobs_specR ((HS.out.bw hb2).bw (bw_alloc _ _)) ((HJ.out.bw hb2).bw (bw_alloc _ _)) P N).mono ?_
  rw [HR.out, HO.out]
  rintro e w3 ⟨d1, k1, d2, k2, d3, k3, rfl, g1, g2, g3, _, hb3, _⟩
  have hb23 := bw_trans (bw_alloc w2 _) hb3
  have HB7 := Lib.hid (box_last hb3)
  have s0 := blk_cell HB7.out 0 rfl
  have s1 := blk_cell HB7.out 1 rfl
  have s2 := blk_cell HB7.out 2 rfl
  have s3 := blk_cell HB7.out 3 rfl
  have sl := blk_lt HB7.out
  have G1 := Lib.hid g1
  have G2 := Lib.hid g2
  have G3 := Lib.hid g3
  clear g1 g2 g3
  have HRR := Lib.hid (rr_mk (c1 := c1) (c2 := c2) (c3 := c3) (H1.out.bw hb23).ri (H2.out.bw hb23).ri (H3.out.bw hb23).ri HBD.out)
  have HRS := Lib.hid (rr_mk (c1 := k1) (c2 := k2) (c3 := k3) G1.out.ri G2.out.ri G3.out.ri HBD.out)
  go_wp2_with fail
  refine (same_impl (HRR.out.bw (bw_alloc _ _)) (HRS.out.bw (bw_alloc _ _))).mono ?_
  rw [eqR_refl]
  rintro e w4 ⟨rfl, hb4⟩
  have h34 := bw_trans (bw_alloc w3 _) hb4
  have h14 := bw_trans (bw_trans hb2 hb23) h34
  have hw4 := bw_trans hb1 h14
  have HB9 := Lib.hid (box_last hb4)
  have HB7 := Lib.hid (blk_bw h34 HB7.out)
  clear s0 s1 s2 s3 sl
  have HQ := Lib.hid (runJ_same HR.out HO.out)
  cases o with
  | false =>
    have s0 := blk_cell HB7.out 0 rfl
    have s1 := blk_cell HB7.out 1 rfl
    have s2 := blk_cell HB7.out 2 rfl
    have s3 := blk_cell HB7.out 3 rfl
    have sl := blk_lt HB7.out
    have t0 := blk_cell HB9.out 0 rfl
    have t1 := blk_cell HB9.out 1 rfl
    have t2 := blk_cell HB9.out 2 rfl
    have t3 := blk_cell HB9.out 3 rfl
    have tl := blk_lt HB9.out
    go_wp2_with fail
    refine (same_impl (HRR.out.bw h34) (HRS.out.bw h34)).mono ?_
    rw [eqR_refl]
    rintro e w5 ⟨rfl, hb5⟩
    go_wp2
    go_ret
    exact ⟨rfl, bw_trans hw4 hb5⟩
  | true =>
    have HE := Lib.hid (H1.out.bw (bw_trans hb23 h34)).ri
    have HTR := Lib.hid (H2.out.bw (bw_trans hb23 h34)).ri
    have HSW := Lib.hid (H3.out.bw (bw_trans hb23 h34)).ri
    have HRR4 := Lib.hid (HRR.out.bw h34)
    have HRS4 := Lib.hid (HRS.out.bw h34)
    have HS4 := Lib.hid (HS.out.bw h14)
    have HJ4 := Lib.hid (HJ.out.bw h14)
    have HT4 := Lib.hid (HT.out.bw h14)
    have HK4 := Lib.hid (HK.out.bw h14)
    have hok := (runJ_ok HQ.out).1
    have h60 := jobs_len hok
    have hN0 := (runJ_ok HQ.out).2.1
    have hN1 := (runJ_ok HQ.out).2.2.1
    have hel := run_elen HQ.out
    have htl := run_tlen HQ.out
    have HOK := Lib.hid hok
    have HEL := Lib.hid hel
    have HTL := Lib.hid htl
    clear hel htl
    clear hok HRR HRS H1 H2 H3 G1 G2 G3 HR HO hb23 h34 hb4 hb3
    by_cases hP0 : P = 0
    · subst hP0
      have e0 : ((0 : Int) != 0) = false := rfl
      obtain ⟨M, hM⟩ : ∃ M, (highs l js).length = M := ⟨_, rfl⟩
      have hc := highs_implR HS4.out HJ4.out
      rw [hM] at hc
      have HM := Lib.hid hM
      have HC := Lib.hid hc
      clear hM hc
      go_wp2_with fail
      refine (HC.out).mono ?_
      rintro e w5 ⟨ah, ch, rfl, _, hb5⟩
      by_cases hM0 : 0 < M
      · have d0 : decide (0 < (M : Int)) = true := decide_eq_true (by omega)
        have s0 := blk_cell (blk_bw hb5 HB7.out) 0 rfl
        have s1 := blk_cell (blk_bw hb5 HB7.out) 1 rfl
        have s2 := blk_cell (blk_bw hb5 HB7.out) 2 rfl
        have s3 := blk_cell (blk_bw hb5 HB7.out) 3 rfl
        have sl := blk_lt (blk_bw hb5 HB7.out)
        have t0 := blk_cell (blk_bw hb5 HB9.out) 0 rfl
        have t1 := blk_cell (blk_bw hb5 HB9.out) 1 rfl
        have t2 := blk_cell (blk_bw hb5 HB9.out) 2 rfl
        have t3 := blk_cell (blk_bw hb5 HB9.out) 3 rfl
        have tl := blk_lt (blk_bw hb5 HB9.out)
        go_wp2_with fail
        refine (same_impl (HRR4.out.bw hb5) (HRS4.out.bw hb5)).mono ?_
        rw [eqR_refl]
        rintro e wz ⟨rfl, hbz⟩
        go_wp2
        go_ret
        exact ⟨rfl, bw_trans (bw_trans hw4 hb5) hbz⟩
      · obtain rfl : M = 0 := by omega
        have hhn : highs l js = [] := List.eq_nil_of_length_eq_zero HM.out
        have HHN := Lib.hid hhn
        have HM0 := Lib.hid hM0
        clear hhn hM0
        go_wp2_with fail
        refine (low_implR (HS4.out.bw hb5)).mono ?_
        obtain ⟨q, HQL⟩ : ∃ q, Hid (holdsLowB l = q) := ⟨_, rfl⟩
        rw [HQL.out]
        rintro e w6 ⟨rfl, hb6⟩
        have hb46 := bw_trans hb5 hb6
        cases q with
        | false =>
          have s0 := blk_cell (blk_bw hb46 HB7.out) 0 rfl
          have s1 := blk_cell (blk_bw hb46 HB7.out) 1 rfl
          have s2 := blk_cell (blk_bw hb46 HB7.out) 2 rfl
          have s3 := blk_cell (blk_bw hb46 HB7.out) 3 rfl
          have sl := blk_lt (blk_bw hb46 HB7.out)
          have t0 := blk_cell (blk_bw hb46 HB9.out) 0 rfl
          have t1 := blk_cell (blk_bw hb46 HB9.out) 1 rfl
          have t2 := blk_cell (blk_bw hb46 HB9.out) 2 rfl
          have t3 := blk_cell (blk_bw hb46 HB9.out) 3 rfl
          have tl := blk_lt (blk_bw hb46 HB9.out)
          go_wp2_with fail
          refine (same_impl (HRR4.out.bw hb46) (HRS4.out.bw hb46)).mono ?_
          rw [eqR_refl]
          rintro e wz ⟨rfl, hbz⟩
          go_wp2
          go_ret
          exact ⟨rfl, bw_trans (bw_trans hw4 hb46) hbz⟩
        | true =>
          go_wp2_with fail
          go_loopw [11] (fun i wr => ∃ k : Nat, k ≤ l.length ∧ i = .int .i64 k ∧ Bw w4 wr) (fun i _ => l.length - (intOf i).toNat)
          case atStart => exact ⟨0, Nat.zero_le _, rfl, hb46⟩
          case round =>
            obtain ⟨k, hk, rfl, hbw⟩ := hrel
            by_cases hlt : k < l.length
            · have hsome := HQL.out
              simp only [holdsLowB, Bool.and_eq_true] at hsome
              obtain ⟨n, hn⟩ := Option.isSome_iff_exists.1 (lowFrom_at hsome.2 k (Nat.zero_le _) (by omega))
              obtain ⟨hn0, hbound⟩ := run_bound_low HQ.out HHN.out hn
              have hle := longest_le hn0 hbound
              obtain ⟨L, hL⟩ : ∃ L, longest js r.ended k = L := ⟨_, rfl⟩
              rw [hL] at hle
              have e1 : (some n : Option Int).isSome = true := rfl
              have e2 : (some n : Option Int).getD 0 = n := rfl
              have hrs := respL_implR (HS4.out.bw hbw) hlt
              rw [hn] at hrs
              have HSOME := Lib.hid hsome
              have HBOUND := Lib.hid hbound
              have HN := Lib.hid hn
              have HRS := Lib.hid hrs
              have HL := Lib.hid hL
              clear hsome hbound hn hrs hL
              go_wp2_with fail
              refine (HRS.out).mono ?_
              rintro e w7 ⟨rfl, hb7⟩
              have hb47 := bw_trans hbw hb7
              have s0 := blk_cell (blk_bw hb47 HB7.out) 0 rfl
              have s1 := blk_cell (blk_bw hb47 HB7.out) 1 rfl
              have s2 := blk_cell (blk_bw hb47 HB7.out) 2 rfl
              have s3 := blk_cell (blk_bw hb47 HB7.out) 3 rfl
              have sl := blk_lt (blk_bw hb47 HB7.out)
              go_wp2_with fail
              refine (longest_impl (HJ4.out.bw hb47) (HRR4.out.bw hb47) (jr_ok HOK.out) k).mono ?_
              rw [HL.out]
              rintro e w8 ⟨rfl, hb8⟩
              have d1 : decide (n < L) = false := decide_eq_false (by omega)
              clear s0 s1 s2 s3 sl
              go_wp2
              go_roundw
              case rel => exact ⟨k + 1, by omega, by go_num, bw_trans hb47 hb8⟩
              case measure => simp [intOf]; omega
            · have hge : decide ((k : Int) < (l.length : Int)) = false := decide_eq_false (by omega)
              go_wp2
              go_ret
              exact ⟨rfl, bw_trans hw4 hbw⟩
    · have e0 : (P != 0) = true := by simp [hP0]
      have HP0 := Lib.hid hP0
      clear hP0
      have s0 := blk_cell (blk_bw (Bw.refl w4) HB7.out) 0 rfl
      have s1 := blk_cell (blk_bw (Bw.refl w4) HB7.out) 1 rfl
      have s2 := blk_cell (blk_bw (Bw.refl w4) HB7.out) 2 rfl
      have s3 := blk_cell (blk_bw (Bw.refl w4) HB7.out) 3 rfl
      have sl := blk_lt (blk_bw (Bw.refl w4) HB7.out)
      have t0 := blk_cell (blk_bw (Bw.refl w4) HB9.out) 0 rfl
      have t1 := blk_cell (blk_bw (Bw.refl w4) HB9.out) 1 rfl
      have t2 := blk_cell (blk_bw (Bw.refl w4) HB9.out) 2 rfl
      have t3 := blk_cell (blk_bw (Bw.refl w4) HB9.out) 3 rfl
      have tl := blk_lt (blk_bw (Bw.refl w4) HB9.out)
      go_wp2_with fail
      refine (same_impl (HRR4.out.bw (Bw.refl w4)) (HRS4.out.bw (Bw.refl w4))).mono ?_
      rw [eqR_refl]
      rintro e wz ⟨rfl, hbz⟩
      go_wp2
      go_ret
      exact ⟨rfl, bw_trans (bw_trans hw4 (Bw.refl w4)) hbz⟩
end Go.Proofs.Ytchpfpekkgbehaa
