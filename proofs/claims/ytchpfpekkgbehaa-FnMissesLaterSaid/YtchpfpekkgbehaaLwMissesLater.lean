/-
  The walk of the law FnMissesLater.
-/
import Derived.Test.YtchpfpekkgbehaaGH
import Derived.Test.YtchpfpekkgbehaaGJ

namespace Go.Proofs.Ytchpfpekkgbehaa
open Go.RowKit

theorem pick_has (p : Nat → Bool) : ∀ (m i k : Nat) (y : Int), (pickFrom p m i)[k]? = some y → ∃ a : Nat, y = a ∧ i ≤ a ∧ a < i + m ∧ p a = true
  | 0, _, _, _, h => by simp [pickFrom] at h
  | m + 1, i, k, y, h => by
    simp only [pickFrom] at h
    split at h
    · rename_i hp
      match k, h with
      | 0, h => simp at h; exact ⟨i, h.symm, Nat.le_refl _, by omega, hp⟩
      | k + 1, h =>
        obtain ⟨a, h1, h2, h3, h4⟩ := pick_has p m (i + 1) k y (by simpa using h)
        exact ⟨a, h1, by omega, by omega, h4⟩
    · obtain ⟨a, h1, h2, h3, h4⟩ := pick_has p m (i + 1) k y h
      exact ⟨a, h1, by omega, by omega, h4⟩
theorem pick_in (p : Nat → Bool) : ∀ (m i a : Nat), i ≤ a → a < i + m → p a = true → ∃ k : Nat, (pickFrom p m i)[k]? = some (a : Int)
  | 0, _, _, _, _, _ => by omega
  | m + 1, i, a, h1, h2, h3 => by
    simp only [pickFrom]
    by_cases e : i = a
    · subst e; rw [if_pos h3]; exact ⟨0, rfl⟩
    · obtain ⟨k, hk⟩ := pick_in p m (i + 1) a (by omega) (by omega) h3
      split
      · exact ⟨k + 1, by simpa using hk⟩
      · exact ⟨k, hk⟩
def HasI (y : Int) (b : List Int) (k : Nat) : Prop := ∃ k0 : Nat, k ≤ k0 ∧ b[k0]? = some y
theorem HasI.next {y : Int} {b : List Int} {k : Nat} {z : Int} (h : HasI y b k) (hz : b[k]? = some z) (hn : z ≠ y) : HasI y b (k + 1) := by
  obtain ⟨k0, h1, h2⟩ := h
  refine ⟨k0, ?_, h2⟩
  rcases Nat.eq_or_lt_of_le h1 with rfl | h
  · rw [hz] at h2; simp at h2; exact absurd h2 hn
  · exact h

set_option maxRecDepth 100000 in
set_option maxHeartbeats 3200000 in
theorem law_FnMissesLater (v : Value) (w : World) (hv : RawB w v) : Calls Try.prog 5 #[v] w fun e w' => e = .returned (.bool true) ∧ Bw w w' := by
  have HV := Lib.hid hv
  obtain ⟨⟨bo, n, cc, rfl, hc, hm, _⟩⟩ := hv
  unfold maxLen at hm
  by_cases hn : 1048576 < n
  · go_enter Try.func5, Try.ntmps5
    go_wp2
    go_ret
    exact ⟨rfl, Bw.refl _⟩
  have hnd : decide (1048576 < (n : Int)) = false := decide_eq_false (by omega)
  go_enter Try.func5, Try.ntmps5
  go_wp2_with fail
  refine (DrawRunJobs_any HV.out (Bw.refl _)).mono ?_
  clear hnd
  rintro e w1 ⟨ao, c, l, bj, d, js, P, N, rfl, ⟨hown, hl6, _, hjow, hj61, _, hb1⟩, hPb, hNb⟩
  have hl : l.length ≤ 1048576 := by omega
  have hj : js.length ≤ 1048576 := by omega
  have HS := Lib.hid (st_row hown hl)
  have HJ := Lib.hid (sj_row hjow hj)
  have HT := Lib.hid (Own.ofRow hown).rt
  have HK := Lib.hid (Own.ofRow hjow).rj
  clear hown hjow
  go_wp2_with fail
  refine (runjobs_implR HS.out HJ.out P N).mono ?_
  have hbd := runJ_bd l js P N
  obtain ⟨r, hr⟩ : ∃ r, (runJ l js P N).1 = r := ⟨_, rfl⟩
  obtain ⟨o, ho⟩ : ∃ o, (runJ l js P N).2 = o := ⟨_, rfl⟩
  rw [hr] at hbd
  rw [hr, ho]
  have HR := Lib.hid hr
  have HO := Lib.hid ho
  have HBD := Lib.hid hbd
  clear hr ho hbd
  rintro e w2 ⟨a1, c1, a2, c2, a3, c3, rfl, h1, h2, h3, _, hb2, hcaps⟩
  have HCAPS := Lib.hid hcaps
  clear hcaps
  have H1 := Lib.hid h1
  have H2 := Lib.hid h2
  have H3 := Lib.hid h3
  clear h1 h2 h3
  go_wp2_with fail
  refine (runjobs_specR ((HS.out.bw hb2).bw (bw_alloc _ _)) ((HJ.out.bw hb2).bw (bw_alloc _ _)) P N).mono ?_
  rw [HR.out, HO.out]
  rintro e w3 ⟨d1, k1, d2, k2, d3, k3, rfl, g1, g2, g3, _, hb3, _⟩
  have hb23 := bw_trans (bw_alloc w2 _) hb3
  have HB7 := Lib.hid (box_last hb3)
  have s0 := blk_cell HB7.out 0 rfl
  have s1 := blk_cell HB7.out 1 rfl
  have s2 := blk_cell HB7.out 2 rfl
  have s3 := blk_cell HB7.out 3 rfl
  have sl := blk_lt HB7.out
  have G1 := Lib.hid g1
  have G2 := Lib.hid g2
  have G3 := Lib.hid g3
  clear g1 g2 g3
  have HRR := Lib.hid (rr_mk (c1 := c1) (c2 := c2) (c3 := c3) (H1.out.bw hb23).ri (H2.out.bw hb23).ri (H3.out.bw hb23).ri HBD.out)
  have HRS := Lib.hid (rr_mk (c1 := k1) (c2 := k2) (c3 := k3) G1.out.ri G2.out.ri G3.out.ri HBD.out)
  go_wp2_with fail
  refine (same_impl (HRR.out.bw (bw_alloc _ _)) (HRS.out.bw (bw_alloc _ _))).mono ?_
  rw [eqR_refl]
  rintro e w4 ⟨rfl, hb4⟩
  have h34 := bw_trans (bw_alloc w3 _) hb4
  have h14 := bw_trans (bw_trans hb2 hb23) h34
  have hw4 := bw_trans hb1 h14
  have HB9 := Lib.hid (box_last hb4)
  have HB7 := Lib.hid (blk_bw h34 HB7.out)
  clear s0 s1 s2 s3 sl
  have HQ := Lib.hid (runJ_same HR.out HO.out)
  cases o with
  | false =>
    have s0 := blk_cell HB7.out 0 rfl
    have s1 := blk_cell HB7.out 1 rfl
    have s2 := blk_cell HB7.out 2 rfl
    have s3 := blk_cell HB7.out 3 rfl
    have sl := blk_lt HB7.out
    have t0 := blk_cell HB9.out 0 rfl
    have t1 := blk_cell HB9.out 1 rfl
    have t2 := blk_cell HB9.out 2 rfl
    have t3 := blk_cell HB9.out 3 rfl
    have tl := blk_lt HB9.out
    go_wp2_with fail
    refine (same_impl (HRR.out.bw h34) (HRS.out.bw h34)).mono ?_
    rw [eqR_refl]
    rintro e w5 ⟨rfl, hb5⟩
    go_wp2
    go_ret
    exact ⟨rfl, bw_trans hw4 hb5⟩
  | true =>
    have HE := Lib.hid (H1.out.bw (bw_trans hb23 h34)).ri
    have HTR := Lib.hid (H2.out.bw (bw_trans hb23 h34)).ri
    have HSW := Lib.hid (H3.out.bw (bw_trans hb23 h34)).ri
    have HRR4 := Lib.hid (HRR.out.bw h34)
    have HRS4 := Lib.hid (HRS.out.bw h34)
    have HS4 := Lib.hid (HS.out.bw h14)
    have HJ4 := Lib.hid (HJ.out.bw h14)
    have HT4 := Lib.hid (HT.out.bw h14)
    have HK4 := Lib.hid (HK.out.bw h14)
    have hok := (runJ_ok HQ.out).1
    have h60 := jobs_len hok
    have hN0 := (runJ_ok HQ.out).2.1
    have hN1 := (runJ_ok HQ.out).2.2.1
    have hel := run_elen HQ.out
    have htl := run_tlen HQ.out
    have HOK := Lib.hid hok
    have HEL := Lib.hid hel
    have HTL := Lib.hid htl
    clear hel htl
    clear hok HRR HRS H1 H2 H3 G1 G2 G3 HR HO hb23 h34 hb4 hb3
    obtain ⟨n0, rfl⟩ : ∃ n0 : Nat, N = (n0 : Int) := ⟨N.toNat, by omega⟩
    have hh0 : ((n0 : Int)).tdiv 2 = ((n0 / 2 : Nat) : Int) := (Int.ofNat_tdiv n0 2).symm
    have hh1 : ((n0 : Int)) / 2 = ((n0 / 2 : Nat) : Int) := by simp
    obtain ⟨M, hM⟩ : ∃ M : Nat, n0 / 2 = M := ⟨_, rfl⟩
    have hMN : (M : Int) ≤ n0 := by omega
    rw [hM] at hh0 hh1
    obtain ⟨x, hx, _, _, hxt, _, hxel⟩ := run_half HQ.out (M := (M : Int)) (by omega) hMN
    have hxb := runJ_bd l js P M
    rw [hx] at hxb
    have hc := fun (W : World) (hW : Bw w4 W) => runjobs_implR (w := W) (HS4.out.bw hW) (HJ4.out.bw hW) P (M : Int)
    rw [hx] at hc
    dsimp only at hc hxb
    have HX := Lib.hid hx
    have HXB := Lib.hid hxb
    have HC := Lib.hid hc
    have HM := Lib.hid hM
    have HMN := Lib.hid hMN
    have HXT := Lib.hid hxt
    have HXEL := Lib.hid hxel
    clear hx hxb hc hM hMN hxt hxel
    go_wp2_with fail
    refine (HC.out _ (Bw.refl _)).mono ?_
    rintro e w5 ⟨b1, e1, b2, e2, b3, e3, rfl, k1, k2, k3, _, hb5, _⟩
    have HXR := Lib.hid (rr_mk (c1 := e1) (c2 := e2) (c3 := e3) k1.ri k2.ri k3.ri HXB.out)
    have K1 := Lib.hid k1
    have K2 := Lib.hid k2
    have K3 := Lib.hid k3
    clear k1 k2 k3
    have hb15 := bw_trans hb5 (bw_alloc w5 (.cells #[.slice b1 x.ended.length e1, .slice b2 x.trace.length e2, .slice b3 x.switches.length e3, .bool x.high] 29))
    go_wp2_with fail
    refine (misses_impl (HS4.out.bw hb15) (HJ4.out.bw hb15) (HXR.out.bw (bw_alloc _ _))).mono ?_
    obtain ⟨A, hA⟩ : ∃ A, misses l js x.ended x.trace.length = A := ⟨_, rfl⟩
    rw [hA]
    rintro e w6 ⟨aa, ca, rfl, hoa, hb6⟩
    have hw6 := bw_trans (bw_trans hb5 (bw_alloc w5 (.cells #[.slice b1 x.ended.length e1, .slice b2 x.trace.length e2, .slice b3 x.switches.length e3, .bool x.high] 29))) hb6
    have HAR := Lib.hid hoa.ri
    have s0 := blk_cell (blk_bw hw6 HB7.out) 0 rfl
    have s1 := blk_cell (blk_bw hw6 HB7.out) 1 rfl
    have s2 := blk_cell (blk_bw hw6 HB7.out) 2 rfl
    have s3 := blk_cell (blk_bw hw6 HB7.out) 3 rfl
    have sl := blk_lt (blk_bw hw6 HB7.out)
    clear hoa
    go_wp2_with fail
    refine (misses_impl (HS4.out.bw hw6) (HJ4.out.bw hw6) (HRR4.out.bw hw6)).mono ?_
    obtain ⟨C, hC⟩ : ∃ C, misses l js r.ended r.trace.length = C := ⟨_, rfl⟩
    rw [hC]
    rintro e w7 ⟨ab, cb, rfl, hob, hb7⟩
    have hw7 := bw_trans hw6 hb7
    have HAR := Lib.hid (HAR.out.bw hb7)
    have HBR := Lib.hid hob.ri
    clear s0 s1 s2 s3 sl hob
    have hxe : x.ended.length = js.length := by rw [HXEL.out]; exact HEL.out
    have hA2 : A = pickFrom (missP l js x.ended x.trace.length) js.length 0 := by rw [← hA, misses, if_pos ⟨HOK.out, hxe⟩]
    have hC2 : C = pickFrom (missP l js r.ended r.trace.length) js.length 0 := by rw [← hC, misses, if_pos ⟨HOK.out, HEL.out⟩]
    -- each of the first is dropped or one of the second
    have hall : ∀ (k : Nat) (y : Int), A[k]? = some y → ∃ a : Nat, y = a ∧ a < js.length ∧ (r.ended[a]? = some (-2) ∨ HasI y C 0) := fun k y h => by
      rw [hA2] at h
      obtain ⟨a, rfl, _, h2, h3⟩ := pick_has _ _ _ _ _ h
      refine ⟨a, rfl, by omega, ?_⟩
      rcases run_later HQ.out (M := (M : Int)) (by omega) HMN.out HX.out h3 with h4 | h4
      · exact .inl h4
      · obtain ⟨k, hk⟩ := pick_in _ js.length 0 a (Nat.zero_le _) (by omega) h4
        exact .inr ⟨k, Nat.zero_le _, by rw [hC2]; exact hk⟩
    have hAl : A.length ≤ 60 := by rw [hA2]; have := pick_len (missP l js x.ended x.trace.length) js.length 0; omega
    have hCl : C.length ≤ 60 := by rw [hC2]; have := pick_len (missP l js r.ended r.trace.length) js.length 0; omega
    have HALL := Lib.hid hall
    have HA := Lib.hid hA
    have HC := Lib.hid hC
    have HA2 := Lib.hid hA2
    have HC2 := Lib.hid hC2
    have HXE := Lib.hid hxe
    clear hall hA hC hA2 hC2 hxe
    go_wp2_with fail
    go_loopw [15] (fun i wr => ∃ k : Nat, k ≤ A.length ∧ i = .int .i64 k ∧ Bw w7 wr) (fun i _ => A.length - (intOf i).toNat)
    case atStart => exact ⟨0, Nat.zero_le _, rfl, Bw.refl _⟩
    case round =>
      obtain ⟨k, hk, rfl, hbw⟩ := hrel
      have hbw4 := bw_trans hw7 hbw
      have s0 := blk_cell (blk_bw hbw4 HB7.out) 0 rfl
      have s1 := blk_cell (blk_bw hbw4 HB7.out) 1 rfl
      have s2 := blk_cell (blk_bw hbw4 HB7.out) 2 rfl
      have s3 := blk_cell (blk_bw hbw4 HB7.out) 3 rfl
      have sl := blk_lt (blk_bw hbw4 HB7.out)
      by_cases hlt : k < A.length
      · obtain ⟨y, bd, od, hyk, hdo, hbd', hdc⟩ := HAR.out.get hbw hlt
        obtain ⟨a, rfl, hal, hst⟩ := HALL.out k y hyk
        have hie : a < r.ended.length := by have := HEL.out; omega
        obtain ⟨e, be, oe, he, heo, hbe, hec⟩ := HE.out.get hbw4 hie
        subst hdo heo
        have hstart : (e == -2) = true ∨ HasI a C 0 := by
          rcases hst with h | h
          · rw [he] at h; simp at h; exact .inl (by simp [h])
          · exact .inr h
        obtain ⟨b0, hb0⟩ : ∃ b0, (e == -2) = b0 := ⟨_, rfl⟩
        rw [hb0] at hstart
        have HSTART := Lib.hid hstart
        have HYK := Lib.hid hyk
        have HE := Lib.hid he
        have HST := Lib.hid hst
        clear hstart hyk he hst
        go_wp2_with fail
        go_quiet (fail)
        go_wp2_with fail
        clear s0 s1 s2 s3 sl hdc hbd' hec hbe
        obtain ⟨wo, rfl⟩ : ∃ wo : World, wo = wr := ⟨_, rfl⟩
        have HB0 := Lib.hid hb0
        clear hb0
        go_loopw [16, 17] (fun u i wr => ∃ (i' : Nat) (b : Bool), i' ≤ C.length ∧ i = .int .i64 i' ∧ u = .bool b ∧ Hid (b = true ∨ HasI a C i') ∧ Bw wo wr) (fun _ i _ => C.length - (intOf i).toNat)
        case atStart => exact ⟨0, _, Nat.zero_le _, rfl, rfl, HSTART.out, bw_drewN _ _⟩
        case round =>
          obtain ⟨i, b, hi, rfl, rfl, hP, hbi⟩ := hrel
          have hbwi := bw_trans hbw hbi
          by_cases hil : i < C.length
          · obtain ⟨z, bz, oz, hz, hzo, hbz, hzc⟩ := HBR.out.get hbwi hil
            obtain ⟨bd, od2, hdo, hbd', hdc⟩ := (HAR.out.bw hbwi) k _ HYK.out
            simp only [Option.some.injEq, Addr.mk.injEq, and_true] at hdo
            obtain ⟨rfl, rfl⟩ := hdo
            subst hzo
            have hnext := fun h => HasI.next (y := (a : Int)) (k := i) h hz
            have HNEXT := Lib.hid hnext
            have HZ := Lib.hid hz
            clear hnext hz
            cases b with
            | true =>
              go_wp2_with fail
              go_quiet (fail)
              go_wp2
              go_roundw
              case rel => exact ⟨i + 1, true, by omega, by go_num, rfl, .inl rfl, bw_trans hbi (bw_drewN _ _)⟩
              case measure => simp [intOf]; omega
            | false =>
              have hP2 : HasI a C i := hP.out.resolve_left (by simp)
              by_cases hza : z = (a : Int)
              · have d1 : (z == (a : Int)) = true := by simp [hza]
                have HP2 := Lib.hid hP2
                have HZA := Lib.hid hza
                clear hP2 hza
                go_wp2_with fail
                go_quiet (fail)
                go_wp2
                go_roundw
                case rel => exact ⟨i + 1, true, by omega, by go_num, rfl, .inl rfl, bw_trans hbi (bw_drewN _ _)⟩
                case measure => simp [intOf]; omega
              · have d1 : (z == (a : Int)) = false := by simp [hza]
                have hN := HNEXT.out hP2 hza
                have HP2 := Lib.hid hP2
                have HZA := Lib.hid hza
                have HN := Lib.hid hN
                clear hP2 hza hN
                go_wp2_with fail
                go_quiet (fail)
                go_wp2
                go_roundw
                case rel => exact ⟨i + 1, false, by omega, by go_num, rfl, .inr HN.out, bw_trans hbi (bw_drewN _ _)⟩
                case measure => simp [intOf]; omega
          · have hge : decide ((i : Int) < (C.length : Int)) = false := decide_eq_false (by omega)
            have hbt : b = true := by
              rcases hP.out with h | ⟨i0, h1, h2⟩
              · exact h
              · have := (List.getElem?_eq_some_iff.1 h2).1; omega
            subst hbt
            go_wp2
            go_roundw
            case rel => exact ⟨k + 1, by omega, by go_num, hbwi⟩
            case measure => simp [intOf]; omega
      · have hge : decide ((k : Int) < (A.length : Int)) = false := decide_eq_false (by omega)
        go_wp2
        go_ret
        exact ⟨rfl, bw_trans hw4 hbw4⟩
end Go.Proofs.Ytchpfpekkgbehaa
