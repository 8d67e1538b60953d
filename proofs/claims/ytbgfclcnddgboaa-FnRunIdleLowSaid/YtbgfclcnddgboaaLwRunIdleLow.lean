/-
  The walk of the law FnRunIdleLow.
-/
import Derived.Test.YtbgfclcnddgboaaGH
import Derived.Test.YtbgfclcnddgboaaGJ

namespace Go.Proofs.Ytbgfclcnddgboaa
open Go.RowKit

set_option maxRecDepth 100000 in
set_option maxHeartbeats 3200000 in
theorem law_FnRunIdleLow (v : Value) (w : World) (hv : RawB w v) : Calls Try.prog 9 #[v] w fun e w' => e = .returned (.bool true) ∧ Bw w w' := by
  have HV := Lib.hid hv
  obtain ⟨⟨bo, n, cc, rfl, hc, hm, _⟩⟩ := hv
  unfold maxLen at hm
  by_cases hn : 1048576 < n
  · go_enter Try.func9, Try.ntmps9
    go_wp2
    go_ret
    exact ⟨rfl, Bw.refl _⟩
  have hnd : decide (1048576 < (n : Int)) = false := decide_eq_false (by omega)
  go_enter Try.func9, Try.ntmps9
  go_wp2_with fail
  refine (DrawRunJobs_any HV.out (Bw.refl _)).mono ?_
  clear hnd
  rintro e w1 ⟨ao, c, l, bj, d, js, P, N, rfl, ⟨hown, hl6, _, hjow, hj61, _, hb1⟩, hPb, hNb⟩
  have hl : l.length ≤ 1048576 := by omega
  have hj : js.length ≤ 1048576 := by omega
  have HS := Lib.hid (st_row hown hl)
  have HJ := Lib.hid (sj_row hjow hj)
  have HT := Lib.hid (Own.ofRow hown).rt
  have HK := Lib.hid (Own.ofRow hjow).rj
  clear hown hjow
  go_wp2_with fail
  refine (runjobs_implR HS.out HJ.out P N).mono ?_
  have hbd := runJ_bd l js P N
  obtain ⟨r, hr⟩ : ∃ r, (runJ l js P N).1 = r := ⟨_, rfl⟩
  obtain ⟨o, ho⟩ : ∃ o, (runJ l js P N).2 = o := ⟨_, rfl⟩
  rw [hr] at hbd
  rw [hr, ho]
  have HR := Lib.hid hr
  have HO := Lib.hid ho
  have HBD := Lib.hid hbd
  clear hr ho hbd
  rintro e w2 ⟨a1, c1, a2, c2, a3, c3, rfl, h1, h2, h3, _, hb2⟩
  have H1 := Lib.hid h1
  have H2 := Lib.hid h2
  have H3 := Lib.hid h3
  clear h1 h2 h3
  go_wp2_with fail
  refine (runjobs_specR ((HS.out.bw hb2).bw (bw_alloc _ _)) ((HJ.out.bw hb2).bw (bw_alloc _ _)) P N).mono ?_
  rw [HR.out, HO.out]
  rintro e w3 ⟨d1, k1, d2, k2, d3, k3, rfl, g1, g2, g3, _, hb3⟩
  have hb23 := bw_trans (bw_alloc w2 _) hb3
  have HB7 := Lib.hid (box_last hb3)
  have s0 := blk_cell HB7.out 0 rfl
  have s1 := blk_cell HB7.out 1 rfl
  have s2 := blk_cell HB7.out 2 rfl
  have s3 := blk_cell HB7.out 3 rfl
  have sl := blk_lt HB7.out
  have G1 := Lib.hid g1
  have G2 := Lib.hid g2
  have G3 := Lib.hid g3
  clear g1 g2 g3
  have HRR := Lib.hid (rr_mk (c1 := c1) (c2 := c2) (c3 := c3) (H1.out.bw hb23).ri (H2.out.bw hb23).ri (H3.out.bw hb23).ri HBD.out)
  have HRS := Lib.hid (rr_mk (c1 := k1) (c2 := k2) (c3 := k3) G1.out.ri G2.out.ri G3.out.ri HBD.out)
  go_wp2_with fail
  refine (same_impl (HRR.out.bw (bw_alloc _ _)) (HRS.out.bw (bw_alloc _ _))).mono ?_
  rw [eqR_refl]
  rintro e w4 ⟨rfl, hb4⟩
  have h34 := bw_trans (bw_alloc w3 _) hb4
  have h14 := bw_trans (bw_trans hb2 hb23) h34
  have hw4 := bw_trans hb1 h14
  have HB9 := Lib.hid (box_last hb4)
  have HB7 := Lib.hid (blk_bw h34 HB7.out)
  clear s0 s1 s2 s3 sl
  have HQ := Lib.hid (runJ_same HR.out HO.out)
  cases o with
  | false =>
    have s0 := blk_cell HB7.out 0 rfl
    have s1 := blk_cell HB7.out 1 rfl
    have s2 := blk_cell HB7.out 2 rfl
    have s3 := blk_cell HB7.out 3 rfl
    have sl := blk_lt HB7.out
    have t0 := blk_cell HB9.out 0 rfl
    have t1 := blk_cell HB9.out 1 rfl
    have t2 := blk_cell HB9.out 2 rfl
    have t3 := blk_cell HB9.out 3 rfl
    have tl := blk_lt HB9.out
    go_wp2_with fail
    refine (same_impl (HRR.out.bw h34) (HRS.out.bw h34)).mono ?_
    rw [eqR_refl]
    rintro e w5 ⟨rfl, hb5⟩
    go_wp2
    go_ret
    exact ⟨rfl, bw_trans hw4 hb5⟩
  | true =>
    have HE := Lib.hid (H1.out.bw (bw_trans hb23 h34)).ri
    have HTR := Lib.hid (H2.out.bw (bw_trans hb23 h34)).ri
    have HSW := Lib.hid (H3.out.bw (bw_trans hb23 h34)).ri
    have HRR4 := Lib.hid (HRR.out.bw h34)
    have HRS4 := Lib.hid (HRS.out.bw h34)
    have HS4 := Lib.hid (HS.out.bw h14)
    have HJ4 := Lib.hid (HJ.out.bw h14)
    have HT4 := Lib.hid (HT.out.bw h14)
    have HK4 := Lib.hid (HK.out.bw h14)
    have hok := (runJ_ok HQ.out).1
    have h60 := jobs_len hok
    have hN0 := (runJ_ok HQ.out).2.1
    have hN1 := (runJ_ok HQ.out).2.2.1
    have hel := run_elen HQ.out
    have htl := run_tlen HQ.out
    have HOK := Lib.hid hok
    have HEL := Lib.hid hel
    have HTL := Lib.hid htl
    clear hel htl
    clear hok HRR HRS H1 H2 H3 G1 G2 G3 HR HO hb23 h34 hb4 hb3
    go_wp2_with fail
    go_loopw [11] (fun i wr => ∃ k : Nat, k ≤ 201 ∧ i = .int .i64 ((k : Int) + 1) ∧ Bw w4 wr) (fun i _ => 202 - (intOf i).toNat)
    case atStart => exact ⟨0, by omega, by simp, Bw.refl _⟩
    case round =>
      obtain ⟨k, hk, rfl, hbw⟩ := hrel
      have hn3 := HBD.out.n3
      have s0 := blk_cell (blk_bw hbw HB7.out) 0 rfl
      have s1 := blk_cell (blk_bw hbw HB7.out) 1 rfl
      have s2 := blk_cell (blk_bw hbw HB7.out) 2 rfl
      have s3 := blk_cell (blk_bw hbw HB7.out) 3 rfl
      have sl := blk_lt (blk_bw hbw HB7.out)
      by_cases hlt : k + 1 < r.switches.length
      · obtain ⟨y, bd, od, hyk, hdo, hbd', hdc⟩ := HSW.out.get hbw (k := k) (by omega)
        obtain ⟨z, bd2, od2, hzk, hdo2, _, hzc⟩ := HSW.out.get hbw hlt
        rw [hdo] at hdo2
        simp only [Option.some.injEq, Addr.mk.injEq, and_true] at hdo2
        obtain ⟨rfl, rfl⟩ := hdo2
        subst hdo
        obtain ⟨t0, ht0, ht1, hfr⟩ := run_idle HQ.out k y z hyk hzk
        have hby := HBD.out.s y (List.mem_of_getElem? hyk)
        have hbz := HBD.out.s z (List.mem_of_getElem? hzk)
        obtain ⟨y, rfl⟩ : ∃ n : Nat, y = n := ⟨y.toNat, by omega⟩
        obtain ⟨z, rfl⟩ : ∃ n : Nat, z = n := ⟨z.toNat, by omega⟩
        have hlti : (k : Int) + 1 < (r.switches.length : Int) := by omega
        have HYK := Lib.hid hyk
        have HZK := Lib.hid hzk
        have HFR := Lib.hid hfr
        clear hyk hzk hfr
        go_wp2_with fail
        clear s0 s1 s2 s3 sl hdc hzc hbd'
        obtain ⟨wo, rfl⟩ : ∃ wo : World, wo = wr := ⟨_, rfl⟩
        go_loopw [12, 13] (fun u i wr => ∃ (f : Bool) (t : Nat), u = .bool f ∧ i = .int .i64 t ∧ t ≤ z ∧ Hid (f = true ∨ t ≤ t0) ∧ Bw wo wr) (fun _ i _ => z - (intOf i).toNat)
        case atStart => exact ⟨false, y, rfl, rfl, by omega, .inr (by omega), Bw.refl _⟩
        case round =>
          obtain ⟨f, t, rfl, rfl, htz, hf, hb2⟩ := hrel
          have hbw2 := bw_trans hbw hb2
          obtain ⟨bd, od3, hdo, hbd', hzc⟩ := (HSW.out.bw hbw2) _ _ HZK.out
          simp only [Option.some.injEq, Addr.mk.injEq, and_true] at hdo
          obtain ⟨rfl, rfl⟩ := hdo
          have s0 := blk_cell (blk_bw hbw2 HB7.out) 0 rfl
          have s1 := blk_cell (blk_bw hbw2 HB7.out) 1 rfl
          have s2 := blk_cell (blk_bw hbw2 HB7.out) 2 rfl
          have s3 := blk_cell (blk_bw hbw2 HB7.out) 3 rfl
          have sl := blk_lt (blk_bw hbw2 HB7.out)
          by_cases htlt : t < z
          · have d1 : decide ((t : Int) < (z : Int)) = true := decide_eq_true (by omega)
            go_wp2_with fail
            clear s0 s1 s2 s3 sl hzc hbd'
            obtain ⟨wo2, rfl⟩ : ∃ wo2 : World, wo2 = wr := ⟨_, rfl⟩
            go_loopw [14, 15] (fun u i wr => ∃ (i' : Nat) (b : Bool), i' ≤ js.length ∧ i = .int .i64 i' ∧ u = .bool b ∧ Hid (t = t0 → b = false) ∧ Bw wo2 wr) (fun _ i _ => js.length - (intOf i).toNat)
            case atStart => exact ⟨0, false, Nat.zero_le _, rfl, rfl, fun _ => rfl, Bw.refl _⟩
            case round =>
              obtain ⟨i, b, hi, rfl, rfl, hP, hb3⟩ := hrel
              have hbw3 := bw_trans hbw2 hb3
              by_cases hil : i < js.length
              · obtain ⟨q, yy, zz, T, hjk, htk, hTo, hy0, hy1, hz1, hzh, hql⟩ := job_task HOK.out hil
                obtain ⟨bj', oj, hbo, hbsj, c0, c1', c2'⟩ := (HK4.out.bw hbw3) i _ hjk
                have hie : i < r.ended.length := by have := HEL.out; omega
                obtain ⟨e, be, oe, he, heo, hbe, hec⟩ := HE.out.get hbw3 (k := i) (by have := HEL.out; omega)
                subst hbo heo
                dsimp only at c1'
                clear c0 c2'
                have s0 := blk_cell (blk_bw hbw3 HB7.out) 0 rfl
                have s1 := blk_cell (blk_bw hbw3 HB7.out) 1 rfl
                have s2 := blk_cell (blk_bw hbw3 HB7.out) 2 rfl
                have s3 := blk_cell (blk_bw hbw3 HB7.out) 3 rfl
                have sl := blk_lt (blk_bw hbw3 HB7.out)
                cases b with
                | true =>
                  have HJK := Lib.hid hjk
                  have HTK := Lib.hid htk
                  have HTO := Lib.hid hTo
                  have HE := Lib.hid he
                  clear hjk htk hTo he
                  go_wp2
                  go_roundw
                  case rel => exact ⟨i + 1, true, by omega, by go_num, rfl, hP.out, hb3⟩
                  case measure => simp [intOf]; omega
                | false =>
                  by_cases hat : yy < (t : Int)
                  · have d2 : decide (yy < (t : Int)) = true := decide_eq_true hat
                    have hno : t = t0 → e ≠ -1 ∧ e ≤ t := fun h => by
                      subst h
                      obtain ⟨e', he', h1, h2⟩ := HFR.out i _ hjk hat
                      rw [he] at he'; simp at he'; subst he'
                      exact ⟨h1, h2⟩
                    by_cases he1 : e = -1
                    · have d3 : (e == -1) = true := by simp [he1]
                      have hR : t = t0 → true = false := fun h => absurd he1 (hno h).1
                      have HJK := Lib.hid hjk
                      have HTK := Lib.hid htk
                      have HTO := Lib.hid hTo
                      have HE := Lib.hid he
                      have HNO := Lib.hid hno
                      have HE1 := Lib.hid he1
                      have HR := Lib.hid hR
                      clear hjk htk hTo he hno he1 hR
                      go_wp2
                      go_roundw
                      case rel => exact ⟨i + 1, true, by omega, by go_num, rfl, HR.out, hb3⟩
                      case measure => simp [intOf]; omega
                    · have d3 : (e == -1) = false := by simp [he1]
                      by_cases he2 : (t : Int) < e
                      · have d4 : decide ((t : Int) < e) = true := decide_eq_true he2
                        have hR : t = t0 → true = false := fun h => by have := (hno h).2; omega
                        have HJK := Lib.hid hjk
                        have HTK := Lib.hid htk
                        have HTO := Lib.hid hTo
                        have HE := Lib.hid he
                        have HNO := Lib.hid hno
                        have HE1 := Lib.hid he1
                        have HR := Lib.hid hR
                        clear hjk htk hTo he hno he1 hR
                        go_wp2
                        go_roundw
                        case rel => exact ⟨i + 1, true, by omega, by go_num, rfl, HR.out, hb3⟩
                        case measure => simp [intOf]; omega
                      · have d4 : decide ((t : Int) < e) = false := decide_eq_false he2
                        have HJK := Lib.hid hjk
                        have HTK := Lib.hid htk
                        have HTO := Lib.hid hTo
                        have HE := Lib.hid he
                        have HNO := Lib.hid hno
                        have HE1 := Lib.hid he1
                        clear hjk htk hTo he hno he1
                        go_wp2
                        go_roundw
                        case rel => exact ⟨i + 1, false, by omega, by go_num, rfl, fun _ => rfl, hb3⟩
                        case measure => simp [intOf]; omega
                  · have d2 : decide (yy < (t : Int)) = false := decide_eq_false hat
                    have HJK := Lib.hid hjk
                    have HTK := Lib.hid htk
                    have HTO := Lib.hid hTo
                    have HE := Lib.hid he
                    clear hjk htk hTo he
                    go_wp2
                    go_roundw
                    case rel => exact ⟨i + 1, false, by omega, by go_num, rfl, fun _ => rfl, hb3⟩
                    case measure => simp [intOf]; omega
              · have hge : decide ((i : Int) < (js.length : Int)) = false := decide_eq_false (by omega)
                have hfin : (f || !b) = true ∨ t + 1 ≤ t0 := by
                  rcases hf.out with h | h
                  · exact .inl (by simp [h])
                  · by_cases ht : t = t0
                    · exact .inl (by simp [hP.out ht])
                    · exact .inr (by omega)
                have HFIN := Lib.hid hfin
                clear hfin
                cases f <;> cases b
                all_goals
                  go_wp2
                  go_roundw
                  case rel => exact ⟨_, t + 1, rfl, by go_num, by omega, HFIN.out, bw_trans hb2 hb3⟩
                  case measure => simp [intOf]; omega
          · have d1 : decide ((t : Int) < (z : Int)) = false := decide_eq_false (by omega)
            have hft : f = true := by
              rcases hf.out with h | h
              · exact h
              · omega
            subst hft
            go_wp2
            go_roundw
            case rel => exact ⟨k + 1, by omega, by go_num, hbw2⟩
            case measure => simp [intOf]; omega
      · have hge : decide ((k : Int) + 1 < (r.switches.length : Int)) = false := decide_eq_false (by omega)
        go_wp2
        go_ret
        exact ⟨rfl, bw_trans hw4 hbw⟩
end Go.Proofs.Ytbgfclcnddgboaa
