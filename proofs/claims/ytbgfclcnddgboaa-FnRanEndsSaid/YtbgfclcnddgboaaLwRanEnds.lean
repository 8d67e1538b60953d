/-
  The walk of the law FnRanEnds.
-/
import Derived.Test.YtbgfclcnddgboaaGH
import Derived.Test.YtbgfclcnddgboaaGJ

namespace Go.Proofs.Ytbgfclcnddgboaa
open Go.RowKit

theorem sumE_step {q : Int} {js : List Jb} {es : List Int} {k : Nat} {j : Jb} {e : Int} (hj : js[k]? = some j) (he : es[k]? = some e) : sumE q (js.drop k) (es.drop k) = (if j.task = q ∧ 0 ≤ e then j.need else 0) + sumE q (js.drop (k + 1)) (es.drop (k + 1)) := by
  rw [drop_cons hj, drop_cons he]; rfl

set_option maxRecDepth 100000 in
set_option maxHeartbeats 3200000 in
theorem law_FnRanEnds (v : Value) (w : World) (hv : RawB w v) : Calls Try.prog 14 #[v] w fun e w' => e = .returned (.bool true) ∧ Bw w w' := by
  have HV := Lib.hid hv
  obtain ⟨⟨bo, n, cc, rfl, hc, hm, _⟩⟩ := hv
  unfold maxLen at hm
  by_cases hn : 1048576 < n
  · go_enter Try.func14, Try.ntmps14
    go_wp2
    go_ret
    exact ⟨rfl, Bw.refl _⟩
  have hnd : decide (1048576 < (n : Int)) = false := decide_eq_false (by omega)
  go_enter Try.func14, Try.ntmps14
  go_wp2_with fail
  refine (DrawRunJobs_any HV.out (Bw.refl _)).mono ?_
  clear hnd
  rintro e w1 ⟨ao, c, l, bj, d, js, P, N, rfl, ⟨hown, hl6, _, hjow, hj61, _, hb1⟩, hPb, hNb⟩
  have hl : l.length ≤ 1048576 := by omega
  have hj : js.length ≤ 1048576 := by omega
  have HS := Lib.hid (st_row hown hl)
  have HJ := Lib.hid (sj_row hjow hj)
  have HT := Lib.hid (Own.ofRow hown).rt
  have HK := Lib.hid (Own.ofRow hjow).rj
  clear hown hjow
  go_wp2_with fail
  refine (runjobs_implR HS.out HJ.out P N).mono ?_
  have hbd := runJ_bd l js P N
  obtain ⟨r, hr⟩ : ∃ r, (runJ l js P N).1 = r := ⟨_, rfl⟩
  obtain ⟨o, ho⟩ : ∃ o, (runJ l js P N).2 = o := ⟨_, rfl⟩
  rw [hr] at hbd
  rw [hr, ho]
  have HR := Lib.hid hr
  have HO := Lib.hid ho
  have HBD := Lib.hid hbd
  clear hr ho hbd
  rintro e w2 ⟨a1, c1, a2, c2, a3, c3, rfl, h1, h2, h3, _, hb2, hcaps⟩
  have HCAPS := Lib.hid hcaps
  clear hcaps
  have H1 := Lib.hid h1
  have H2 := Lib.hid h2
  have H3 := Lib.hid h3
  clear h1 h2 h3
  go_wp2_with fail
  refine (runjobs_specR ((HS.out.bw hb2).bw (bw_alloc _ _)) ((HJ.out.bw hb2).bw (bw_alloc _ _)) P N).mono ?_
  rw [HR.out, HO.out]
  rintro e w3 ⟨d1, k1, d2, k2, d3, k3, rfl, g1, g2, g3, _, hb3, _⟩
  have hb23 := bw_trans (bw_alloc w2 _) hb3
  have HB7 := Lib.hid (box_last hb3)
  have s0 := blk_cell HB7.out 0 rfl
  have s1 := blk_cell HB7.out 1 rfl
  have s2 := blk_cell HB7.out 2 rfl
  have s3 := blk_cell HB7.out 3 rfl
  have sl := blk_lt HB7.out
  have G1 := Lib.hid g1
  have G2 := Lib.hid g2
  have G3 := Lib.hid g3
  clear g1 g2 g3
  have HRR := Lib.hid (rr_mk (c1 := c1) (c2 := c2) (c3 := c3) (H1.out.bw hb23).ri (H2.out.bw hb23).ri (H3.out.bw hb23).ri HBD.out)
  have HRS := Lib.hid (rr_mk (c1 := k1) (c2 := k2) (c3 := k3) G1.out.ri G2.out.ri G3.out.ri HBD.out)
  go_wp2_with fail
  refine (same_impl (HRR.out.bw (bw_alloc _ _)) (HRS.out.bw (bw_alloc _ _))).mono ?_
  rw [eqR_refl]
  rintro e w4 ⟨rfl, hb4⟩
  have h34 := bw_trans (bw_alloc w3 _) hb4
  have h14 := bw_trans (bw_trans hb2 hb23) h34
  have hw4 := bw_trans hb1 h14
  have HB9 := Lib.hid (box_last hb4)
  have HB7 := Lib.hid (blk_bw h34 HB7.out)
  clear s0 s1 s2 s3 sl
  have HQ := Lib.hid (runJ_same HR.out HO.out)
  cases o with
  | false =>
    have s0 := blk_cell HB7.out 0 rfl
    have s1 := blk_cell HB7.out 1 rfl
    have s2 := blk_cell HB7.out 2 rfl
    have s3 := blk_cell HB7.out 3 rfl
    have sl := blk_lt HB7.out
    have t0 := blk_cell HB9.out 0 rfl
    have t1 := blk_cell HB9.out 1 rfl
    have t2 := blk_cell HB9.out 2 rfl
    have t3 := blk_cell HB9.out 3 rfl
    have tl := blk_lt HB9.out
    go_wp2_with fail
    refine (same_impl (HRR.out.bw h34) (HRS.out.bw h34)).mono ?_
    rw [eqR_refl]
    rintro e w5 ⟨rfl, hb5⟩
    go_wp2
    go_ret
    exact ⟨rfl, bw_trans hw4 hb5⟩
  | true =>
    have HE := Lib.hid (H1.out.bw (bw_trans hb23 h34)).ri
    have HTR := Lib.hid (H2.out.bw (bw_trans hb23 h34)).ri
    have HSW := Lib.hid (H3.out.bw (bw_trans hb23 h34)).ri
    have HRR4 := Lib.hid (HRR.out.bw h34)
    have HRS4 := Lib.hid (HRS.out.bw h34)
    have HS4 := Lib.hid (HS.out.bw h14)
    have HJ4 := Lib.hid (HJ.out.bw h14)
    have HT4 := Lib.hid (HT.out.bw h14)
    have HK4 := Lib.hid (HK.out.bw h14)
    have hok := (runJ_ok HQ.out).1
    have h60 := jobs_len hok
    have hN0 := (runJ_ok HQ.out).2.1
    have hN1 := (runJ_ok HQ.out).2.2.1
    have hel := run_elen HQ.out
    have htl := run_tlen HQ.out
    have HOK := Lib.hid hok
    have HEL := Lib.hid hel
    have HTL := Lib.hid htl
    clear hel htl
    clear hok HRR HRS H1 H2 H3 G1 G2 G3 HR HO hb23 h34 hb4 hb3
    go_wp2_with fail
    go_loopw [11] (fun i wr => ∃ k : Nat, k ≤ l.length ∧ i = .int .i64 k ∧ Bw w4 wr) (fun i _ => l.length - (intOf i).toNat)
    case atStart => exact ⟨0, Nat.zero_le _, rfl, Bw.refl _⟩
    case round =>
      obtain ⟨k, hk, rfl, hbw⟩ := hrel
      by_cases hlt : k < l.length
      · go_wp2_with fail
        obtain ⟨wo, rfl⟩ : ∃ wo : World, wo = wr := ⟨_, rfl⟩
        go_loopw [12, 13] (fun u i wr => ∃ (i' : Nat) (nv : Int), i' ≤ js.length ∧ i = .int .i64 i' ∧ u = .int .i64 nv ∧ 0 ≤ nv ∧ nv ≤ 20 * (i' : Int) ∧ Hid (sumE k js r.ended = nv + sumE k (js.drop i') (r.ended.drop i')) ∧ Bw wo wr) (fun _ i _ => js.length - (intOf i).toNat)
        case atStart => exact ⟨0, 0, Nat.zero_le _, rfl, rfl, by omega, by omega, by show _ = _; simp, Bw.refl _⟩
        case round =>
          obtain ⟨i, nv, hi, rfl, rfl, hn0, hn1, hx, hbi⟩ := hrel
          have hbwi := bw_trans hbw hbi
          have s0 := blk_cell (blk_bw hbwi HB7.out) 0 rfl
          have s1 := blk_cell (blk_bw hbwi HB7.out) 1 rfl
          have s2 := blk_cell (blk_bw hbwi HB7.out) 2 rfl
          have s3 := blk_cell (blk_bw hbwi HB7.out) 3 rfl
          have sl := blk_lt (blk_bw hbwi HB7.out)
          by_cases hil : i < js.length
          · obtain ⟨q, yy, z, T, hjk, htk, hTo, hy0, hy1, hz1, hzh, hql⟩ := job_task HOK.out hil
            obtain ⟨bj', oj, hbo, hbsj, c0, c1', c2'⟩ := (HK4.out.bw hbwi) i _ hjk
            have hie : i < r.ended.length := by have := HEL.out; omega
            obtain ⟨e, be, oe, he, heo, hbe, hec⟩ := HE.out.get hbwi (k := i) (by have := HEL.out; omega)
            subst hbo heo
            dsimp only at c0 c2'
            have hkT := (Tk.ok_iff _).1 hTo
            have hst0 := sumE_step (q := (k : Int)) hjk he
            dsimp only at hst0
            have hwz := IntWalk.i64_in (nv + z) (by omega)
            by_cases hqk : (q : Int) = (k : Int)
            · have d1 : ((q : Int) == (k : Int)) = true := by simp [hqk]
              have d1' : (q == k) = true := by simp; omega
              by_cases he0 : 0 ≤ e
              · have d2 : decide (0 ≤ e) = true := decide_eq_true he0
                rw [if_pos ⟨hqk, he0⟩] at hst0
                have hst : sumE k js r.ended = nv + z + sumE k (js.drop (i + 1)) (r.ended.drop (i + 1)) := by rw [hx.out, hst0]; omega
                have HJK := Lib.hid hjk
                have HTK := Lib.hid htk
                have HTO := Lib.hid hTo
                have HE := Lib.hid he
                have HST0 := Lib.hid hst0
                have HQK := Lib.hid hqk
                have HST := Lib.hid hst
                have HKT := Lib.hid hkT
                clear hjk htk hTo he hst0 hqk hst hkT
                go_wp2
                go_roundw
                case rel => exact ⟨i + 1, nv + z, by omega, by go_num, rfl, by omega, by have := HKT.out; omega, HST.out, hbi⟩
                case measure => simp [intOf]; omega
              · have d2 : decide (0 ≤ e) = false := decide_eq_false he0
                rw [if_neg (fun h => he0 h.2)] at hst0
                have hst : sumE k js r.ended = nv + sumE k (js.drop (i + 1)) (r.ended.drop (i + 1)) := by rw [hx.out, hst0]; omega
                have HJK := Lib.hid hjk
                have HTK := Lib.hid htk
                have HTO := Lib.hid hTo
                have HE := Lib.hid he
                have HST0 := Lib.hid hst0
                have HQK := Lib.hid hqk
                have HST := Lib.hid hst
                have HKT := Lib.hid hkT
                clear hjk htk hTo he hst0 hqk hst hkT
                go_wp2
                go_roundw
                case rel => exact ⟨i + 1, nv, by omega, by go_num, rfl, by omega, by omega, HST.out, hbi⟩
                case measure => simp [intOf]; omega
            · have d1 : ((q : Int) == (k : Int)) = false := by simpa using hqk
              have d1' : (q == k) = false := by simp; omega
              rw [if_neg (fun h => hqk h.1)] at hst0
              have hst : sumE k js r.ended = nv + sumE k (js.drop (i + 1)) (r.ended.drop (i + 1)) := by rw [hx.out, hst0]; omega
              have HJK := Lib.hid hjk
              have HTK := Lib.hid htk
              have HTO := Lib.hid hTo
              have HE := Lib.hid he
              have HST0 := Lib.hid hst0
              have HQK := Lib.hid hqk
              have HST := Lib.hid hst
              have HKT := Lib.hid hkT
              clear hjk htk hTo he hst0 hqk hst hkT
              go_wp2
              go_roundw
              case rel => exact ⟨i + 1, nv, by omega, by go_num, rfl, by omega, by omega, HST.out, hbi⟩
              case measure => simp [intOf]; omega
          · have hge : decide ((i : Int) < (js.length : Int)) = false := decide_eq_false (by omega)
            have hnv : sumE k js r.ended = nv := by
              rw [hx.out, List.drop_eq_nil_of_le (by omega : js.length ≤ i)]; simp [sumE]
            have hle := run_ends HQ.out (q := (k : Int)) (by omega)
            rw [hnv] at hle
            clear hx
            have HNV := Lib.hid hnv
            clear hnv
            go_wp2_with fail
            refine (ran_impl (HRR4.out.bw hbwi) k).mono ?_
            obtain ⟨C, hC⟩ : ∃ C : Nat, cntFrom r.trace k 0 = C := ⟨_, rfl⟩
            rw [hC] at hle
            rw [show cnt r.trace (k : Int) = C from hC]
            rintro e w6 ⟨rfl, hb6⟩
            have d1 : decide ((C : Int) < nv) = false := decide_eq_false (by omega)
            have HC := Lib.hid hC
            clear hC
            go_wp2
            go_roundw
            case rel => exact ⟨k + 1, by omega, by go_num, bw_trans hbwi hb6⟩
            case measure => simp [intOf]; omega
      · have hge : decide ((k : Int) < (l.length : Int)) = false := decide_eq_false (by omega)
        go_wp2
        go_ret
        exact ⟨rfl, bw_trans hw4 hbw⟩
end Go.Proofs.Ytbgfclcnddgboaa
