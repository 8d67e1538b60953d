/-
  The walk of the law FnRunTicks.
-/
import Derived.Test.YtchpfpekkgbehaaGH
import Derived.Test.YtchpfpekkgbehaaGJ
import Derived.Test.YtchpfpekkgbehaaNeed


namespace Go.Proofs.Ytchpfpekkgbehaa
open Go.RowKit

theorem sumW_eq (q : Int) : ∀ js : List Jb, sumW q js = sumN q js
  | [] => rfl
  | j :: js => by simp only [sumW, sumN, sumW_eq q js]
theorem told_jobs {l : List Tk} {js : List Jb} (h : jobsOk l js = true) : toldB js = true := by
  have h60 := jobs_len h
  have hl5 := setOk_len (jobs_set h)
  simp only [toldB, Bool.and_eq_true, List.all_eq_true, decide_eq_true_eq]
  refine ⟨fun j hj => ?_, h60⟩
  obtain ⟨i, hi⟩ := List.mem_iff_getElem?.1 hj
  obtain ⟨j', T, hj', hT, hTo, a0, a1, n1, nh, t0, t1, _⟩ := job_of h (List.getElem?_eq_some_iff.1 hi).1
  rw [hi] at hj'; simp at hj'; subst hj'
  have hk := (Tk.ok_iff _).1 hTo
  simp only [tellB, decide_eq_true_eq]; omega
theorem sumC_le (tr : List Int) : ∀ m, sumC tr m ≤ sumC tr (m + 1) := fun m => by simp only [sumC]; omega
theorem sumC_mono (tr : List Int) {a b : Nat} (h : a ≤ b) : sumC tr a ≤ sumC tr b := by
  induction h with
  | refl => exact Nat.le_refl _
  | step _ ih => exact Nat.le_trans ih (sumC_le _ _)

set_option maxRecDepth 100000 in
set_option maxHeartbeats 3200000 in
theorem law_FnRunTicks (v : Value) (w : World) (hv : RawB w v) : Calls Try.prog 7 #[v] w fun e w' => e = .returned (.bool true) ∧ Bw w w' := by
  have HV := Lib.hid hv
  obtain ⟨⟨bo, n, cc, rfl, hc, hm, _⟩⟩ := hv
  unfold maxLen at hm
  by_cases hn : 1048576 < n
  · go_enter Try.func7, Try.ntmps7
    go_wp2
    go_ret
    exact ⟨rfl, Bw.refl _⟩
  have hnd : decide (1048576 < (n : Int)) = false := decide_eq_false (by omega)
  go_enter Try.func7, Try.ntmps7
  go_wp2_with fail
  refine (DrawRunJobs_any HV.out (Bw.refl _)).mono ?_
  clear hnd
  rintro e w1 ⟨ao, c, l, bj, d, js, P, N, rfl, ⟨hown, hl6, _, hjow, hj61, _, hb1⟩, hPb, hNb⟩
  have hl : l.length ≤ 1048576 := by omega
  have hj : js.length ≤ 1048576 := by omega
  have HS := Lib.hid (st_row hown hl)
  have HJ := Lib.hid (sj_row hjow hj)
  have HT := Lib.hid (Own.ofRow hown).rt
  have HK := Lib.hid (Own.ofRow hjow).rj
  clear hown hjow
  go_wp2_with fail
  refine (runjobs_implR HS.out HJ.out P N).mono ?_
  have hbd := runJ_bd l js P N
  obtain ⟨r, hr⟩ : ∃ r, (runJ l js P N).1 = r := ⟨_, rfl⟩
  obtain ⟨o, ho⟩ : ∃ o, (runJ l js P N).2 = o := ⟨_, rfl⟩
  rw [hr] at hbd
  rw [hr, ho]
  have HR := Lib.hid hr
  have HO := Lib.hid ho
  have HBD := Lib.hid hbd
  clear hr ho hbd
  rintro e w2 ⟨a1, c1, a2, c2, a3, c3, rfl, h1, h2, h3, _, hb2, hcaps⟩
  have HCAPS := Lib.hid hcaps
  clear hcaps
  have H1 := Lib.hid h1
  have H2 := Lib.hid h2
  have H3 := Lib.hid h3
  clear h1 h2 h3
  go_wp2_with fail
  refine (runjobs_specR ((HS.out.bw hb2).bw (bw_alloc _ _)) ((HJ.out.bw hb2).bw (bw_alloc _ _)) P N).mono ?_
  rw [HR.out, HO.out]
  rintro e w3 ⟨d1, k1, d2, k2, d3, k3, rfl, g1, g2, g3, _, hb3, _⟩
  have hb23 := bw_trans (bw_alloc w2 _) hb3
  have HB7 := Lib.hid (box_last hb3)
  have s0 := blk_cell HB7.out 0 rfl
  have s1 := blk_cell HB7.out 1 rfl
  have s2 := blk_cell HB7.out 2 rfl
  have s3 := blk_cell HB7.out 3 rfl
  have sl := blk_lt HB7.out
  have G1 := Lib.hid g1
  have G2 := Lib.hid g2
  have G3 := Lib.hid g3
  clear g1 g2 g3
  have HRR := Lib.hid (rr_mk (c1 := c1) (c2 := c2) (c3 := c3) (H1.out.bw hb23).ri (H2.out.bw hb23).ri (H3.out.bw hb23).ri HBD.out)
  have HRS := Lib.hid (rr_mk (c1 := k1) (c2 := k2) (c3 := k3) G1.out.ri G2.out.ri G3.out.ri HBD.out)
  go_wp2_with fail
  refine (same_impl (HRR.out.bw (bw_alloc _ _)) (HRS.out.bw (bw_alloc _ _))).mono ?_
  rw [eqR_refl]
  rintro e w4 ⟨rfl, hb4⟩
  have h34 := bw_trans (bw_alloc w3 _) hb4
  have h14 := bw_trans (bw_trans hb2 hb23) h34
  have hw4 := bw_trans hb1 h14
  have HB9 := Lib.hid (box_last hb4)
  have HB7 := Lib.hid (blk_bw h34 HB7.out)
  clear s0 s1 s2 s3 sl
  have HQ := Lib.hid (runJ_same HR.out HO.out)
  cases o with
  | false =>
    have s0 := blk_cell HB7.out 0 rfl
    have s1 := blk_cell HB7.out 1 rfl
    have s2 := blk_cell HB7.out 2 rfl
    have s3 := blk_cell HB7.out 3 rfl
    have sl := blk_lt HB7.out
    have t0 := blk_cell HB9.out 0 rfl
    have t1 := blk_cell HB9.out 1 rfl
    have t2 := blk_cell HB9.out 2 rfl
    have t3 := blk_cell HB9.out 3 rfl
    have tl := blk_lt HB9.out
    go_wp2_with fail
    refine (same_impl (HRR.out.bw h34) (HRS.out.bw h34)).mono ?_
    rw [eqR_refl]
    rintro e w5 ⟨rfl, hb5⟩
    go_wp2
    go_ret
    exact ⟨rfl, bw_trans hw4 hb5⟩
  | true =>
    have HE := Lib.hid (H1.out.bw (bw_trans hb23 h34)).ri
    have HTR := Lib.hid (H2.out.bw (bw_trans hb23 h34)).ri
    have HSW := Lib.hid (H3.out.bw (bw_trans hb23 h34)).ri
    have HRR4 := Lib.hid (HRR.out.bw h34)
    have HRS4 := Lib.hid (HRS.out.bw h34)
    have HS4 := Lib.hid (HS.out.bw h14)
    have HJ4 := Lib.hid (HJ.out.bw h14)
    have HT4 := Lib.hid (HT.out.bw h14)
    have HK4 := Lib.hid (HK.out.bw h14)
    have hok := (runJ_ok HQ.out).1
    have h60 := jobs_len hok
    have hN0 := (runJ_ok HQ.out).2.1
    have hN1 := (runJ_ok HQ.out).2.2.1
    have hel := run_elen HQ.out
    have htl := run_tlen HQ.out
    have HOK := Lib.hid hok
    have HEL := Lib.hid hel
    have HTL := Lib.hid htl
    clear hel htl
    clear hok HRR HRS H1 H2 H3 G1 G2 G3 HR HO hb23 h34 hb4 hb3
    have hsum := run_sum HQ.out
    have htl2 := HTL.out
    have hn2 := HBD.out.n2
    have hto := told_jobs HOK.out
    have hce : ∀ q : Int, cntFrom r.trace q 0 = cntI q r.trace := fun q => by rw [cnt_eq, Nat.zero_add]
    have s0 := blk_cell (blk_bw (Bw.refl _) HB7.out) 0 rfl
    have s1 := blk_cell (blk_bw (Bw.refl _) HB7.out) 1 rfl
    have s2 := blk_cell (blk_bw (Bw.refl _) HB7.out) 2 rfl
    have s3 := blk_cell (blk_bw (Bw.refl _) HB7.out) 3 rfl
    have sl := blk_lt (blk_bw (Bw.refl _) HB7.out)
    go_wp2_with fail
    refine (idle_impl HRR4.out).mono ?_
    rw [show cnt r.trace (-1) = cntI (-1) r.trace from hce _]
    obtain ⟨I, hI⟩ : ∃ I, cntI (-1) r.trace = I := ⟨_, rfl⟩
    rw [hI] at hsum
    rw [hI]
    rintro e w5 ⟨rfl, hb5⟩
    clear s0 s1 s2 s3 sl
    have HI := Lib.hid hI
    have HTO := Lib.hid hto
    have HCE := Lib.hid hce
    have HSUM := Lib.hid hsum
    have HTL2 := Lib.hid htl2
    clear hI hto hce hsum htl2
    go_wp2_with fail
    go_loopw [11, 12] (fun u i wr => ∃ k : Nat, k ≤ l.length ∧ i = .int .i64 k ∧ u = .int .i64 ((I + sumC r.trace k : Nat) : Int) ∧ Bw w5 wr) (fun _ i _ => l.length - (intOf i).toNat)
    case atStart => exact ⟨0, Nat.zero_le _, rfl, by simp [sumC], Bw.refl _⟩
    case round =>
      obtain ⟨k, hk, rfl, rfl, hbw⟩ := hrel
      have hbw4 := bw_trans hb5 hbw
      have s0 := blk_cell (blk_bw hbw4 HB7.out) 0 rfl
      have s1 := blk_cell (blk_bw hbw4 HB7.out) 1 rfl
      have s2 := blk_cell (blk_bw hbw4 HB7.out) 2 rfl
      have s3 := blk_cell (blk_bw hbw4 HB7.out) 3 rfl
      have sl := blk_lt (blk_bw hbw4 HB7.out)
      by_cases hlt : k < l.length
      · go_wp2_with fail
        refine (ran_impl (HRR4.out.bw hbw4) k).mono ?_
        rw [show cnt r.trace (k : Int) = cntI k r.trace from HCE.out _]
        have hnd := run_need HQ.out (q := (k : Int)) (by omega)
        rw [HCE.out, sumW_eq] at hnd
        have hS : sumC r.trace (k + 1) = sumC r.trace k + cntI k r.trace := rfl
        have hmono := sumC_mono r.trace (show k + 1 ≤ l.length by omega)
        have hsum2 := HSUM.out
        obtain ⟨C, hC⟩ : ∃ C, cntI (k : Int) r.trace = C := ⟨_, rfl⟩
        obtain ⟨A, hA⟩ : ∃ A, sumC r.trace k = A := ⟨_, rfl⟩
        rw [hC] at hnd hS
        rw [hA] at hS
        rw [hC, hA]
        rintro e w6 ⟨rfl, hb6⟩
        have hno : needOf js k = sumN k js := by rw [needOf, if_pos HTO.out]
        obtain ⟨M, hM⟩ : ∃ M, sumN (k : Int) js = M := ⟨_, rfl⟩
        rw [hM] at hno hnd
        obtain ⟨⟨a9, c9, e9, hrj, hcd, _⟩, hjm⟩ := HJ4.out
        simp only [Value.slice.injEq] at e9
        obtain ⟨rfl, _, rfl⟩ := e9
        have HRJ := Lib.hid (hrj.bw (bw_trans hbw4 hb6))
        clear hrj hcd hjm
        have HND := Lib.hid hnd
        have HS := Lib.hid hS
        have HMONO := Lib.hid hmono
        have HSUM2 := Lib.hid hsum2
        have HC := Lib.hid hC
        have HA := Lib.hid hA
        have HM := Lib.hid hM
        have HNO := Lib.hid hno
        clear hnd hS hmono hsum2 hC hA hM hno
        go_wp2_with fail
        refine (NeedOf_impl _ _ _ js k hj HRJ.out).mono ?_
        rw [HNO.out]
        rintro e w7 ⟨rfl, hb7⟩
        have d1 : decide (M < (C : Int)) = false := decide_eq_false (by have := HND.out; omega)
        have hwr := IntWalk.i64_in (((I + A : Nat) : Int) + (C : Int)) (by have := HS.out; have := HMONO.out; have := HSUM2.out; omega)
        have hwr2 := IntWalk.i64_in ((I : Int) + (A : Int) + (C : Int)) (by have := HS.out; have := HMONO.out; have := HSUM2.out; omega)
        go_wp2
        go_roundw
        case rel => exact ⟨k + 1, by omega, by go_num, by rw [show sumC r.trace (k + 1) = A + C from by rw [← HA.out, ← HC.out]; rfl]; go_num, bw_trans (bw_trans hbw hb6) hb7⟩
        case measure => simp [intOf]; omega
      · obtain rfl : k = l.length := by omega
        have hge : decide ((l.length : Int) < (l.length : Int)) = false := by simp
        have hs2 := HSUM.out
        have ht2 := HTL2.out
        have e1 : (((I + sumC r.trace l.length : Nat) : Int) == N) = true := by simp; omega
        have e2 : ((r.trace.length : Int) == N) = true := by simp; omega
        have e3 : ((r.ended.length : Int) == (js.length : Int)) = true := by rw [HEL.out]; simp
        have e3' : (r.ended.length == js.length) = true := by simp; exact HEL.out
        obtain ⟨Z, hZ⟩ : ∃ Z : Int, ((I + sumC r.trace l.length : Nat) : Int) = Z := ⟨_, rfl⟩
        rw [hZ] at e1
        rw [hZ]
        have HS2 := Lib.hid hs2
        have HT2 := Lib.hid ht2
        have HZ := Lib.hid hZ
        clear hs2 ht2 hZ
        go_wp2
        go_ret
        exact ⟨rfl, bw_trans hw4 hbw4⟩
end Go.Proofs.Ytchpfpekkgbehaa
