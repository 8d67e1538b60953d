/-
  The walk of the law FnRunPart.
-/
import Derived.Test.YtchpfpekkgbehaaGH
import Derived.Test.YtchpfpekkgbehaaGJ
import Derived.Test.YtchpfpekkgbehaaDm
import Derived.Lib.QuietBelow
import Derived.BigQuiet
import Derived.BigGuardPart





namespace Go.Proofs.Ytchpfpekkgbehaa
open Go.RowKit

theorem RI.pre {w : World} {ao : Option Addr} {l l' : List Int} (h : RI w ao l) (hp : l' <+: l) : RI w ao l' := fun k y hy => by
  obtain ⟨t, rfl⟩ := hp
  exact h k y (by rw [List.getElem?_append_left (List.getElem?_eq_some_iff.1 hy).1]; exact hy)

set_option maxRecDepth 100000 in
set_option maxHeartbeats 3200000 in
theorem law_FnRunPart (v : Value) (w : World) (hv : RawB w v) : Calls Try.prog 4 #[v] w fun e w' => e = .returned (.bool true) ∧ Bw w w' := by
  have HV := Lib.hid hv
  obtain ⟨⟨bo, n, cc, rfl, hc, hm, _⟩⟩ := hv
  unfold maxLen at hm
  by_cases hn : 1048576 < n
  · go_enter Try.func4, Try.ntmps4
    go_wp2
    go_ret
    exact ⟨rfl, Bw.refl _⟩
  have hnd : decide (1048576 < (n : Int)) = false := decide_eq_false (by omega)
  go_enter Try.func4, Try.ntmps4
  go_wp2_with fail
  refine (DrawRunJobs_any HV.out (Bw.refl _)).mono ?_
  clear hnd
  rintro e w1 ⟨ao, c, l, bj, d, js, P, N, rfl, ⟨hown, hl6, _, hjow, hj61, _, hb1⟩, hPb, hNb⟩
  have hl : l.length ≤ 1048576 := by omega
  have hj : js.length ≤ 1048576 := by omega
  have HS := Lib.hid (st_row hown hl)
  have HJ := Lib.hid (sj_row hjow hj)
  have HT := Lib.hid (Own.ofRow hown).rt
  have HK := Lib.hid (Own.ofRow hjow).rj
  clear hown hjow
  go_wp2_with fail
  refine (runjobs_implR HS.out HJ.out P N).mono ?_
  have hbd := runJ_bd l js P N
  obtain ⟨r, hr⟩ : ∃ r, (runJ l js P N).1 = r := ⟨_, rfl⟩
  obtain ⟨o, ho⟩ : ∃ o, (runJ l js P N).2 = o := ⟨_, rfl⟩
  rw [hr] at hbd
  rw [hr, ho]
  have HR := Lib.hid hr
  have HO := Lib.hid ho
  have HBD := Lib.hid hbd
  clear hr ho hbd
  rintro e w2 ⟨a1, c1, a2, c2, a3, c3, rfl, h1, h2, h3, _, hb2, hcaps⟩
  have HCAPS := Lib.hid hcaps
  clear hcaps
  have H1 := Lib.hid h1
  have H2 := Lib.hid h2
  have H3 := Lib.hid h3
  clear h1 h2 h3
  go_wp2_with fail
  refine (runjobs_specR ((HS.out.bw hb2).bw (bw_alloc _ _)) ((HJ.out.bw hb2).bw (bw_alloc _ _)) P N).mono ?_
  rw [HR.out, HO.out]
  rintro e w3 ⟨d1, k1, d2, k2, d3, k3, rfl, g1, g2, g3, _, hb3, _⟩
  have hb23 := bw_trans (bw_alloc w2 _) hb3
  have HB7 := Lib.hid (box_last hb3)
  have s0 := blk_cell HB7.out 0 rfl
  have s1 := blk_cell HB7.out 1 rfl
  have s2 := blk_cell HB7.out 2 rfl
  have s3 := blk_cell HB7.out 3 rfl
  have sl := blk_lt HB7.out
  have G1 := Lib.hid g1
  have G2 := Lib.hid g2
  have G3 := Lib.hid g3
  clear g1 g2 g3
  have HRR := Lib.hid (rr_mk (c1 := c1) (c2 := c2) (c3 := c3) (H1.out.bw hb23).ri (H2.out.bw hb23).ri (H3.out.bw hb23).ri HBD.out)
  have HRS := Lib.hid (rr_mk (c1 := k1) (c2 := k2) (c3 := k3) G1.out.ri G2.out.ri G3.out.ri HBD.out)
  go_wp2_with fail
  refine (same_impl (HRR.out.bw (bw_alloc _ _)) (HRS.out.bw (bw_alloc _ _))).mono ?_
  rw [eqR_refl]
  rintro e w4 ⟨rfl, hb4⟩
  have h34 := bw_trans (bw_alloc w3 _) hb4
  have h14 := bw_trans (bw_trans hb2 hb23) h34
  have hw4 := bw_trans hb1 h14
  have HB9 := Lib.hid (box_last hb4)
  have HB7 := Lib.hid (blk_bw h34 HB7.out)
  clear s0 s1 s2 s3 sl
  have HQ := Lib.hid (runJ_same HR.out HO.out)
  cases o with
  | false =>
    have s0 := blk_cell HB7.out 0 rfl
    have s1 := blk_cell HB7.out 1 rfl
    have s2 := blk_cell HB7.out 2 rfl
    have s3 := blk_cell HB7.out 3 rfl
    have sl := blk_lt HB7.out
    have t0 := blk_cell HB9.out 0 rfl
    have t1 := blk_cell HB9.out 1 rfl
    have t2 := blk_cell HB9.out 2 rfl
    have t3 := blk_cell HB9.out 3 rfl
    have tl := blk_lt HB9.out
    go_wp2_with fail
    refine (same_impl (HRR.out.bw h34) (HRS.out.bw h34)).mono ?_
    rw [eqR_refl]
    rintro e w5 ⟨rfl, hb5⟩
    go_wp2
    go_ret
    exact ⟨rfl, bw_trans hw4 hb5⟩
  | true =>
    have HE := Lib.hid (H1.out.bw (bw_trans hb23 h34)).ri
    have HTR := Lib.hid (H2.out.bw (bw_trans hb23 h34)).ri
    have HSW := Lib.hid (H3.out.bw (bw_trans hb23 h34)).ri
    have HRR4 := Lib.hid (HRR.out.bw h34)
    have HRS4 := Lib.hid (HRS.out.bw h34)
    have HS4 := Lib.hid (HS.out.bw h14)
    have HJ4 := Lib.hid (HJ.out.bw h14)
    have HT4 := Lib.hid (HT.out.bw h14)
    have HK4 := Lib.hid (HK.out.bw h14)
    have hok := (runJ_ok HQ.out).1
    have h60 := jobs_len hok
    have hN0 := (runJ_ok HQ.out).2.1
    have hN1 := (runJ_ok HQ.out).2.2.1
    have hel := run_elen HQ.out
    have htl := run_tlen HQ.out
    have HOK := Lib.hid hok
    have HEL := Lib.hid hel
    have HTL := Lib.hid htl
    clear hel htl
    clear hok HRR HRS H1 H2 H3 G1 G2 G3 HR HO hb23 h34 hb4 hb3
    obtain ⟨n0, rfl⟩ : ∃ n0 : Nat, N = (n0 : Int) := ⟨N.toNat, by omega⟩
    have hh0 : ((n0 : Int)).tdiv 2 = ((n0 / 2 : Nat) : Int) := (Int.ofNat_tdiv n0 2).symm
    have hh1 : ((n0 : Int)) / 2 = ((n0 / 2 : Nat) : Int) := by simp
    obtain ⟨M, hM⟩ : ∃ M : Nat, n0 / 2 = M := ⟨_, rfl⟩
    have hMN : (M : Int) ≤ n0 := by omega
    rw [hM] at hh0 hh1
    obtain ⟨x, hx, hxtr, hxsw, hxt, _, hxel⟩ := run_half HQ.out (M := (M : Int)) (by omega) hMN
    have hxb := runJ_bd l js P M
    rw [hx] at hxb
    have hc := fun (W : World) (hW : Bw w4 W) => runjobs_implR (w := W) (HS4.out.bw hW) (HJ4.out.bw hW) P (M : Int)
    rw [hx] at hc
    dsimp only at hc hxb
    have hxt' : x.trace.length = M := by omega
    have hsl := hxsw.length_le
    have htl' := hxtr.length_le
    obtain ⟨hcp1, hcp2, hcp3⟩ := HCAPS.out
    have d1 : decide ((x.switches.length : Int) ≤ (r.switches.length : Int)) = true := decide_eq_true (by omega)
    have d1' : decide (x.switches.length ≤ r.switches.length) = true := decide_eq_true hsl
    have HX := Lib.hid hx
    have HXB := Lib.hid hxb
    have HC := Lib.hid hc
    have HM := Lib.hid hM
    have HMN := Lib.hid hMN
    have HXT := Lib.hid hxt
    have HXEL := Lib.hid hxel
    have HXTR := Lib.hid hxtr
    have HXSW := Lib.hid hxsw
    have HXT' := Lib.hid hxt'
    clear hx hxb hc hM hMN hxt hxel hxtr hxsw hxt'
    go_wp2_with fail
    refine (HC.out _ (Bw.refl _)).mono ?_
    rintro e w5 ⟨b1, e1, b2, e2, b3, e3, rfl, k1, k2, k3, _, hb5, _⟩
    have hb15 := bw_trans hb5 (bw_alloc w5 (.cells #[.slice b1 x.ended.length e1, .slice b2 x.trace.length e2, .slice b3 x.switches.length e3, .bool x.high] 29))
    have BX := Lib.hid (heap_alloc_new w5 (.cells #[.slice b1 x.ended.length e1, .slice b2 x.trace.length e2, .slice b3 x.switches.length e3, .bool x.high] 29))
    have HXT := Lib.hid ((k2.bw (bw_alloc w5 (.cells #[.slice b1 x.ended.length e1, .slice b2 x.trace.length e2, .slice b3 x.switches.length e3, .bool x.high] 29))).ri)
    have HXS := Lib.hid ((k3.bw (bw_alloc w5 (.cells #[.slice b1 x.ended.length e1, .slice b2 x.trace.length e2, .slice b3 x.switches.length e3, .bool x.high] 29))).ri)
    have HRT := Lib.hid ((HTR.out.bw hb15).pre HXTR.out)
    have HRS' := Lib.hid ((HSW.out.bw hb15).pre HXSW.out)
    have hxn2 := HXB.out.n2
    have hxn3 := HXB.out.n3
    clear k1 k2 k3
    have hxlen : x.trace.length ≤ 1048576 := by have := HXB.out.n2; omega
    have hxsen : x.switches.length ≤ 1048576 := by have := HXB.out.n3; omega
    go_wp2_with fail
    generalize hW : w5.alloc (Obj.cells #[.slice b1 x.ended.length e1, .slice b2 x.trace.length e2, .slice b3 x.switches.length e3, .bool x.high] 29) = W5 at *
    clear hW
    have c1' : ∀ W, Bw W5 W → Calls Try.prog 20 #[.slice a2 M c2, .slice b2 x.trace.length e2] W fun e w' => e = .returned (.bool true) ∧ Bw W w' := fun W hW => by
      have := dmInts_any a2 b2 x.trace x.trace c2 e2 W (HRT.out.bw hW) (HXT.out.bw hW) hxlen hxlen
      rw [decide_eq_true rfl] at this; have h2 := HXT'.out; rw [h2] at this ⊢; exact this
    have c2' : ∀ W, Bw W5 W → Calls Try.prog 20 #[.slice a3 x.switches.length c3, .slice b3 x.switches.length e3] W fun e w' => e = .returned (.bool true) ∧ Bw W w' := fun W hW => by
      have := dmInts_any a3 b3 x.switches x.switches c3 e3 W (HRS'.out.bw hW) (HXS.out.bw hW) hxsen hxsen
      rw [decide_eq_true rfl] at this; exact this
    have CA := Lib.hid c1'
    have CB := Lib.hid c2'
    obtain ⟨q0, q1, q2, q3⟩ := box4 (blk_bw hb15 HB7.out)
    obtain ⟨x0, x1, x2, x3⟩ := box4 BX.out
    have s1 := fun d os => cell_regrown q1 d os
    have s2 := fun d os => cell_regrown q2 d os
    have t1 := fun d os => cell_regrown x1 d os
    have t2 := fun d os => cell_regrown x2 d os
    have m1 : (M : Int) ≤ c2 := by have := HXT'.out; omega
    have m2 : ((x.switches.length : Nat) : Int) ≤ c3 := by omega
    have hcT : r.trace.length ≤ c2 := by omega
    clear c1' c2' q0 q1 q2 q3 x0 x1 x2 x3
    refine wp_region_quiet_below (by kernel_rfl) (by kernel_rfl) ?_
    repeat (go_big_quiet_step ((go_at_call 20; first | with_reducible exact Calls.regrown_of (CA.out _ (below_regrown _ _ _)) | with_reducible exact Calls.regrown_of (CB.out _ (below_regrown _ _ _)))))
    refine wpQuiet_nil ?_
    intro wq hw'
    have hbq := bw_of_ex hw'
    clear hw'
    go_wp2
    go_ret
    exact ⟨rfl, bw_trans hw4 (bw_trans hb15 hbq)⟩
end Go.Proofs.Ytchpfpekkgbehaa
