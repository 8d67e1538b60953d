/-
  The walk of the law FnTraceSize.
-/
import Derived.Test.YtaadlgpglfpmpaaDoorGH
import Derived.Test.YtaadlgpglfpmpaaDoorFt
import Derived.Test.YtaadlgpglfpmpaaDoorGJ


namespace Go.Proofs.YtaadlgpglfpmpaaDoor
open Go.RowKit

theorem run_tr {l : List Tk} {js : List Jb} {P N : Int} {r : Rn} (h : runJ l js P N = (r, true)) : ∀ y ∈ r.trace, -1 ≤ y ∧ y < (l.length : Int) := by
  obtain ⟨hok, h1, h2, hp, rfl⟩ := runJ_ok h
  exact (ticks_inv (decide (P = 1)) (factor l).1 hok N.toNat).tr
set_option maxRecDepth 100000 in
set_option maxHeartbeats 3200000 in
theorem law_FnTraceSize (v : Value) (w : World) (hv : RawB w v) : Calls Tryd.prog 6 #[v] w fun e w' => e = .returned (.bool true) ∧ Bw w w' := by
  have HV := Lib.hid hv
  obtain ⟨⟨bo, n, cc, rfl, hc, hm, _⟩⟩ := hv
  unfold maxLen at hm
  by_cases hn : 1048576 < n
  · go_enter Tryd.func6, Tryd.ntmps6
    go_wp2
    go_ret
    exact ⟨rfl, Bw.refl _⟩
  have hnd : decide (1048576 < (n : Int)) = false := decide_eq_false (by omega)
  go_enter Tryd.func6, Tryd.ntmps6
  go_wp2_with fail
  refine (DrawRunJobs_any HV.out (Bw.refl _)).mono ?_
  clear hnd
  rintro e w1 ⟨ao, c, l, bj, d, js, P, N, rfl, ⟨hown, hl6, _, hjow, hj61, _, hb1⟩, hPb, hNb⟩
  have hl : l.length ≤ 1048576 := by omega
  have hj : js.length ≤ 1048576 := by omega
  have HS := Lib.hid (st_row hown hl)
  have HJ := Lib.hid (sj_row hjow hj)
  have HT := Lib.hid (Own.ofRow hown).rt
  have HK := Lib.hid (Own.ofRow hjow).rj
  clear hown hjow
  go_wp2_with fail
  refine (runjobs_implR HS.out HJ.out P N).mono ?_
  have hbd := runJ_bd l js P N
  obtain ⟨r, hr⟩ : ∃ r, (runJ l js P N).1 = r := ⟨_, rfl⟩
  obtain ⟨o, ho⟩ : ∃ o, (runJ l js P N).2 = o := ⟨_, rfl⟩
  rw [hr] at hbd
  rw [hr, ho]
  have HR := Lib.hid hr
  have HO := Lib.hid ho
  have HBD := Lib.hid hbd
  clear hr ho hbd
  rintro e w2 ⟨a1, c1, a2, c2, a3, c3, rfl, h1, h2, h3, _, hb2, hcaps⟩
  have HCAPS := Lib.hid hcaps
  clear hcaps
  have H1 := Lib.hid h1
  have H2 := Lib.hid h2
  have H3 := Lib.hid h3
  clear h1 h2 h3
  go_wp2_with fail
  refine (runjobs_specR ((HS.out.bw hb2).bw (bw_alloc _ _)) ((HJ.out.bw hb2).bw (bw_alloc _ _)) P N).mono ?_
  rw [HR.out, HO.out]
  rintro e w3 ⟨d1, k1, d2, k2, d3, k3, rfl, g1, g2, g3, _, hb3, _⟩
  have hb23 := bw_trans (bw_alloc w2 _) hb3
  have HB7 := Lib.hid (box_last hb3)
  have s0 := blk_cell HB7.out 0 rfl
  have s1 := blk_cell HB7.out 1 rfl
  have s2 := blk_cell HB7.out 2 rfl
  have s3 := blk_cell HB7.out 3 rfl
  have sl := blk_lt HB7.out
  have G1 := Lib.hid g1
  have G2 := Lib.hid g2
  have G3 := Lib.hid g3
  clear g1 g2 g3
  have HRR := Lib.hid (rr_mk (c1 := c1) (c2 := c2) (c3 := c3) (H1.out.bw hb23).ri (H2.out.bw hb23).ri (H3.out.bw hb23).ri HBD.out)
  have HRS := Lib.hid (rr_mk (c1 := k1) (c2 := k2) (c3 := k3) G1.out.ri G2.out.ri G3.out.ri HBD.out)
  go_wp2_with fail
  refine (same_impl (HRR.out.bw (bw_alloc _ _)) (HRS.out.bw (bw_alloc _ _))).mono ?_
  rw [eqR_refl]
  rintro e w4 ⟨rfl, hb4⟩
  have h34 := bw_trans (bw_alloc w3 _) hb4
  have h14 := bw_trans (bw_trans hb2 hb23) h34
  have hw4 := bw_trans hb1 h14
  have HB9 := Lib.hid (box_last hb4)
  have HB7 := Lib.hid (blk_bw h34 HB7.out)
  clear s0 s1 s2 s3 sl
  have HQ := Lib.hid (runJ_same HR.out HO.out)
  cases o with
  | false =>
    have s0 := blk_cell HB7.out 0 rfl
    have s1 := blk_cell HB7.out 1 rfl
    have s2 := blk_cell HB7.out 2 rfl
    have s3 := blk_cell HB7.out 3 rfl
    have sl := blk_lt HB7.out
    have t0 := blk_cell HB9.out 0 rfl
    have t1 := blk_cell HB9.out 1 rfl
    have t2 := blk_cell HB9.out 2 rfl
    have t3 := blk_cell HB9.out 3 rfl
    have tl := blk_lt HB9.out
    go_wp2_with fail
    refine (same_impl (HRR.out.bw h34) (HRS.out.bw h34)).mono ?_
    rw [eqR_refl]
    rintro e w5 ⟨rfl, hb5⟩
    go_wp2
    go_ret
    exact ⟨rfl, bw_trans hw4 hb5⟩
  | true =>
    have HE := Lib.hid (H1.out.bw (bw_trans hb23 h34)).ri
    have HTR := Lib.hid (H2.out.bw (bw_trans hb23 h34)).ri
    have HSW := Lib.hid (H3.out.bw (bw_trans hb23 h34)).ri
    have HRR4 := Lib.hid (HRR.out.bw h34)
    have HRS4 := Lib.hid (HRS.out.bw h34)
    have HS4 := Lib.hid (HS.out.bw h14)
    have HJ4 := Lib.hid (HJ.out.bw h14)
    have HT4 := Lib.hid (HT.out.bw h14)
    have HK4 := Lib.hid (HK.out.bw h14)
    have hok := (runJ_ok HQ.out).1
    have h60 := jobs_len hok
    have hN0 := (runJ_ok HQ.out).2.1
    have hN1 := (runJ_ok HQ.out).2.2.1
    have hel := run_elen HQ.out
    have htl := run_tlen HQ.out
    have HOK := Lib.hid hok
    have HEL := Lib.hid hel
    have HTL := Lib.hid htl
    clear hel htl
    clear hok HRR HRS H1 H2 H3 G1 G2 G3 HR HO hb23 h34 hb4 hb3
    have s0 := blk_cell (blk_bw (Bw.refl _) HB7.out) 0 rfl
    have s1 := blk_cell (blk_bw (Bw.refl _) HB7.out) 1 rfl
    have s2 := blk_cell (blk_bw (Bw.refl _) HB7.out) 2 rfl
    have s3 := blk_cell (blk_bw (Bw.refl _) HB7.out) 3 rfl
    have sl := blk_lt (blk_bw (Bw.refl _) HB7.out)
    have hl5 := setOk_len (jobs_set HOK.out)
    have hgd : ftGood r.trace := fun y hy => by
      have := run_tr HQ.out y hy
      omega
    have hlen : (ftB r.trace).length = r.trace.length := by
      rw [ftB, if_pos ⟨HBD.out.n2, hgd⟩]; simp
    have htl := HTL.out
    obtain ⟨B, hB⟩ : ∃ B, ftB r.trace = B := ⟨_, rfl⟩
    rw [hB] at hlen
    go_wp2_with fail
    refine (ft_impl HRR4.out).mono ?_
    rw [hB]
    rintro e w5 ⟨rfl, hb5⟩
    have hs0 : (⟨B.toArray⟩ : ByteArray).size = r.trace.length := by show B.toArray.size = _; simp [hlen]
    have hs1 : B.toArray.size = r.trace.length := by simp [hlen]
    have hs2 : (((r.trace.length : Nat) : Int) == N) = true := by simp [htl]
    have HLEN := Lib.hid hlen
    have HB := Lib.hid hB
    have HGD := Lib.hid hgd
    clear hlen hB hgd
    go_wp2
    go_ret
    exact ⟨rfl, bw_trans hw4 hb5⟩
end Go.Proofs.YtaadlgpglfpmpaaDoor
