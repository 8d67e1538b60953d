/-
  The walk of the law FnRanOf.
-/
import Derived.Test.YtaadlgpglfpmpaaDoorGH
import Derived.Test.YtaadlgpglfpmpaaDoorFt
import Derived.Test.YtaadlgpglfpmpaaDoorDrR
import Derived.Test.YtaadlgpglfpmpaaDoorGJ
import Derived.Lib.QuietBelow
import Derived.BigQuiet
import Derived.BigGuardPart






namespace Go.Proofs.YtaadlgpglfpmpaaDoor
open Go.RowKit

theorem ftr_len {l : List Int} (h : ftB l ≠ []) : l.length ≤ 200 ∧ ftGood l ∧ ftB l = l.map ftByte := by
  by_cases hc : l.length ≤ 200 ∧ ftGood l
  · exact ⟨hc.1, hc.2, if_pos hc⟩
  · rw [ftB, if_neg hc] at h; exact absurd rfl h
theorem sumCr_mono (tr : List Int) {a b : Nat} (h : a ≤ b) : sumC tr a ≤ sumC tr b := by
  induction h with
  | refl => exact Nat.le_refl _
  | step _ ih => exact Nat.le_trans ih (by simp only [sumC]; omega)
theorem cntr (l : List Int) (t : Int) : cnt l t = cntI t l := by rw [show cnt l t = cntFrom l t 0 from rfl, cnt_eq, Nat.zero_add]
theorem cntr_le (l : List Int) (t : Int) : cnt l t ≤ l.length := by have := (cntFrom_le l t 0).2; rw [show cnt l t = cntFrom l t 0 from rfl]; omega
set_option maxRecDepth 100000 in
set_option maxHeartbeats 3200000 in
theorem law_FnRanOf (v : Value) (w : World) (hv : RawB w v) : Calls Tryd.prog 3 #[v] w fun e w' => e = .returned (.bool true) ∧ Bw w w' := by
  have HV := Lib.hid hv
  obtain ⟨⟨bo, n, cc, rfl, hc, hm, _⟩⟩ := hv
  unfold maxLen at hm
  by_cases hn : 1048576 < n
  · go_enter Tryd.func3, Tryd.ntmps3
    go_wp2
    go_ret
    exact ⟨rfl, Bw.refl _⟩
  have hnd : decide (1048576 < (n : Int)) = false := decide_eq_false (by omega)
  go_enter Tryd.func3, Tryd.ntmps3
  go_wp2_with fail
  refine (DrawRanOf_any HV.out (Bw.refl _)).mono ?_
  clear hnd
  rintro e w1 ⟨r, a1, c1, a2, c2, a3, c3, t, rfl, o1, o2, o3, hrb, htb, hb1⟩
  have HRR := Lib.hid (rr_mk2 (c1 := c1) (c2 := c2) (c3 := c3) o1.ri o2.ri o3.ri hrb)
  have hn2 := hrb.n2
  clear o1 o2 o3 hrb
  have hbA := bw_alloc w1 (.cells #[.slice a1 r.ended.length c1, .slice a2 r.trace.length c2, .slice a3 r.switches.length c3, .bool r.high] 25)
  have HB := Lib.hid (heap_alloc_new w1 (.cells #[.slice a1 r.ended.length c1, .slice a2 r.trace.length c2, .slice a3 r.switches.length c3, .bool r.high] 25))
  go_wp2_with fail
  refine (ran_impl (HRR.out.bw hbA) t).mono ?_
  have hcl := cntr_le r.trace t
  have hil := cntr_le r.trace (-1)
  have hie := cntr r.trace (-1)
  obtain ⟨C, hC⟩ : ∃ C, cnt r.trace t = C := ⟨_, rfl⟩
  obtain ⟨I, hI⟩ : ∃ I, cnt r.trace (-1) = I := ⟨_, rfl⟩
  rw [hC] at hcl ⊢
  rw [hI] at hil hie
  rintro e w2 ⟨rfl, hb2⟩
  have hbB := bw_trans hbA hb2
  have ca : ∀ W, Bw w2 W → Calls Tryd.prog 14 #[rnVal a1 r.ended.length c1 a2 r.trace.length c2 a3 r.switches.length c3 r.high, .int .i64 t] W fun e w' => e = .returned (.int .i64 C) ∧ Bw W w' := fun W hW => by
    have := ran_spec (HRR.out.bw (bw_trans hbB hW)) t
    rw [hC] at this; exact this
  have cb : ∀ W, Bw w2 W → Calls Tryd.prog 15 #[rnVal a1 r.ended.length c1 a2 r.trace.length c2 a3 r.switches.length c3 r.high] W fun e w' => e = .returned (.int .i64 I) ∧ Bw W w' := fun W hW => by
    have := idle_impl (HRR.out.bw (bw_trans hbB hW))
    rw [hI] at this; exact this
  have cc : ∀ W, Bw w2 W → Calls Tryd.prog 16 #[rnVal a1 r.ended.length c1 a2 r.trace.length c2 a3 r.switches.length c3 r.high] W fun e w' => e = .returned (.int .i64 I) ∧ Bw W w' := fun W hW => by
    have := idle_spec (HRR.out.bw (bw_trans hbB hW))
    rw [hI] at this; exact this
  have CA := Lib.hid ca
  have CB := Lib.hid cb
  have CC := Lib.hid cc
  have HIE := Lib.hid hie
  have HI := Lib.hid hI
  clear ca cb cc hC hI hie
  have HB2 := Lib.hid (blk_bw hb2 HB.out)
  obtain ⟨q0, q1, q2, q3⟩ := box4 HB2.out
  have s0 := fun d os => cell_regrown q0 d os
  have s1 := fun d os => cell_regrown q1 d os
  have s2 := fun d os => cell_regrown q2 d os
  have s3 := fun d os => cell_regrown q3 d os
  clear q0 q1 q2 q3
  go_wp2_with fail
  refine wp_region_quiet_below (by kernel_rfl) (by kernel_rfl) ?_
  repeat (go_big_quiet_step ((first | (go_at_call 14; exact Calls.regrown_of (CA.out _ (below_regrown _ _ _))) | (go_at_call 15; exact Calls.regrown_of (CB.out _ (below_regrown _ _ _))) | (go_at_call 16; exact Calls.regrown_of (CC.out _ (below_regrown _ _ _))))))
  refine wpQuiet_nil ?_
  intro wq hw'
  have hbq := bw_of_ex hw'
  clear hw'
  clear s0 s1 s2 s3
  have h1q := bw_trans hbB hbq
  have HBQ := Lib.hid (blk_bw hbq HB2.out)
  have s0 := blk_cell HBQ.out 0 rfl
  have s1 := blk_cell HBQ.out 1 rfl
  have s2 := blk_cell HBQ.out 2 rfl
  have s3 := blk_cell HBQ.out 3 rfl
  have sl := blk_lt HBQ.out
  go_wp2_with fail
  refine (ft_impl (HRR.out.bw h1q)).mono ?_
  have hgd := ftr_len (l := r.trace)
  obtain ⟨B, hB⟩ : ∃ B, ftB r.trace = B := ⟨_, rfl⟩
  rw [hB] at hgd ⊢
  have HGD := Lib.hid hgd
  have HB := Lib.hid hB
  clear hgd hB
  rintro e w3 ⟨rfl, hb3⟩
  have h13 := bw_trans h1q hb3
  have hw3 := bw_trans hb1 h13
  clear s0 s1 s2 s3 sl
  have HB3 := Lib.hid (blk_bw hb3 HBQ.out)
  have s0 := blk_cell HB3.out 0 rfl
  have s1 := blk_cell HB3.out 1 rfl
  have s2 := blk_cell HB3.out 2 rfl
  have s3 := blk_cell HB3.out 3 rfl
  have sl := blk_lt HB3.out
  cases B with
  | nil =>
    have hle : decide ((C : Int) ≤ (r.trace.length : Int)) = true := decide_eq_true (by omega)
    go_wp2
    go_ret
    exact ⟨rfl, hw3⟩
  | cons b0 B0 =>
    obtain ⟨B, hBe⟩ : ∃ B, b0 :: B0 = B := ⟨_, rfl⟩
    have hne : B.isEmpty = false := by rw [← hBe]; rfl
    have hgo := HGD.out (by simp)
    rw [hBe] at hgo
    obtain ⟨hg1, hg2, hg3⟩ := hgo
    have hbl : B.length = r.trace.length := by rw [hg3]; simp
    have hs0 : (⟨B.toArray⟩ : ByteArray).size = r.trace.length := by show B.toArray.size = _; simp [hbl]
    have hs1 : B.toArray.size = r.trace.length := by simp [hbl]
    have hnb : B ≠ [] := by rw [← hBe]; simp
    have hsum := sumC_all r.trace 5 (fun y hy => by have := hg2 y hy; omega)
    rw [← HIE.out] at hsum
    rw [hBe]
    have HG2 := Lib.hid hg2
    have HG3 := Lib.hid hg3
    have HBL := Lib.hid hbl
    clear hg2 hg3 hbl
    clear hBe
    go_wp2_with fail
    refine (idle_impl (HRR.out.bw h13)).mono ?_
    rw [HI.out]
    rintro e w4 ⟨rfl, hb4⟩
    have h14 := bw_trans h13 hb4
    have hw4 := bw_trans hb1 h14
    have HB4 := Lib.hid (blk_bw hb4 HB3.out)
    clear s0 s1 s2 s3 sl
    go_wp2_with fail
    go_loopw [7, 8] (fun u i wr => ∃ k : Nat, k ≤ 5 ∧ i = .int .i64 k ∧ u = .int .i64 ((I + sumC r.trace k : Nat) : Int) ∧ Bw w4 wr) (fun _ i _ => 5 - (intOf i).toNat)
    case atStart => exact ⟨0, by omega, rfl, by simp [sumC], Bw.refl _⟩
    case round =>
      obtain ⟨k, hk, rfl, rfl, hbw⟩ := hrel
      have s0 := blk_cell (blk_bw hbw HB4.out) 0 rfl
      have s1 := blk_cell (blk_bw hbw HB4.out) 1 rfl
      have s2 := blk_cell (blk_bw hbw HB4.out) 2 rfl
      have s3 := blk_cell (blk_bw hbw HB4.out) 3 rfl
      have sl := blk_lt (blk_bw hbw HB4.out)
      by_cases hlt : k < 5
      · go_wp2_with fail
        refine (ran_impl (HRR.out.bw (bw_trans h14 hbw)) k).mono ?_
        rw [cntr]
        have hst : sumC r.trace (k + 1) = sumC r.trace k + cntI (k : Int) r.trace := rfl
        have hmo := sumCr_mono r.trace (show k + 1 ≤ 5 by omega)
        rintro e w5 ⟨rfl, hb5⟩
        have hwr := IntWalk.i64_in (((I + sumC r.trace k : Nat) : Int) + (cntI (k : Int) r.trace : Int)) (by omega)
        obtain ⟨x, hx⟩ : ∃ x, cntI (k : Int) r.trace = x := ⟨_, rfl⟩
        obtain ⟨y, hy⟩ : ∃ y, sumC r.trace k = y := ⟨_, rfl⟩
        rw [hx, hy] at hst hwr
        rw [hx, hy]
        go_wp2
        go_roundw
        case rel => exact ⟨k + 1, by omega, by go_num, by rw [hst]; simp; omega, bw_trans hbw hb5⟩
        case measure => simp [intOf]; omega
      · have hke : k = 5 := by omega
        subst hke
        have hts : I + sumC r.trace 5 = r.trace.length := by omega
        rw [hts]
        go_wp2
        go_ret
        exact ⟨by simp, bw_trans hw4 hbw⟩
end Go.Proofs.YtaadlgpglfpmpaaDoor
