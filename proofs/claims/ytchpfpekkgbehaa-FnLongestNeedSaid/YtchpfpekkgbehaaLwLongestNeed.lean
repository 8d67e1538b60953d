/-
  The walk of the law FnLongestNeed.
-/
import Derived.Test.YtchpfpekkgbehaaLongL
import Derived.Test.YtchpfpekkgbehaaDm
import Derived.Lib.QuietBelow
import Derived.BigQuiet
import Derived.BigGuardPart




namespace Go.Proofs.Ytchpfpekkgbehaa
open Go.RowKit

theorem sj_i64n {j : Jb} (h : Sj j) : I64 j.task ∧ I64 j.at_ ∧ I64 j.need := by
  obtain ⟨h1, h2, h3⟩ := h
  unfold I64
  omega
/-- A job that ended has its need below the longest response of its task. -/
theorem long_need {l : List Tk} {js : List Jb} {R : Rn} (hlk : Like l js R) (hl : R.ended.length = js.length) (ht : R.trace ≠ []) {k : Nat} {j : Jb} {e : Int} (hj : js[k]? = some j) (he : R.ended[k]? = some e) (h0 : 0 ≤ e) : j.need ≤ longest js R.ended j.task := by
  rcases like_cases hlk hl with ⟨P, N, x, hx, hxe⟩ | rfl | ⟨_, h⟩
  · obtain ⟨q, y, z, T, hj2, hT, _, hy, _⟩ := job_task (runJ_ok hx).1 (List.getElem?_eq_some_iff.1 hj).1
    rw [hj] at hj2
    simp at hj2
    subst hj2
    obtain ⟨e2, he2, hst⟩ := run_job hx (T := T) hj (by simpa using hT)
    rw [hxe, he2] at he
    simp at he
    subst he
    have h3 := long_all (q : Int) js R.ended 0 k _ e2 hj (by rw [hxe]; exact he2) rfl hy h0
    have h4 : longest js R.ended (q : Int) = longFrom (q : Int) js R.ended 0 := by rw [longest, if_pos hl.symm]
    dsimp only at hst h3 ⊢
    rw [h4]
    rcases hst with rfl | ⟨rfl, _⟩ | ⟨h5, _⟩ <;> omega
  · simp at hj
  · exact absurd h ht

set_option maxRecDepth 100000 in
set_option maxHeartbeats 3200000 in
theorem law_FnLongestNeed (v : Value) (w : World) (hv : RawB w v) : Calls Try.prog 11 #[v] w fun e w' => e = .returned (.bool true) ∧ Bw w w' := by
  have HV := Lib.hid hv
  obtain ⟨⟨bo, n, cc, rfl, hc, hm, _⟩⟩ := hv
  unfold maxLen at hm
  by_cases hn : 1048576 < n
  · go_enter Try.func11, Try.ntmps11
    go_wp2
    go_ret
    exact ⟨rfl, Bw.refl _⟩
  have hnd : decide (1048576 < (n : Int)) = false := decide_eq_false (by omega)
  go_enter Try.func11, Try.ntmps11
  go_wp2_with fail
  refine (DrawMissesOf_any HV.out (Bw.refl _)).mono ?_
  clear hnd
  rintro e w1 ⟨ao, c, l, bj, d, js, r, a1, c1, a2, c2, a3, c3, rfl, ⟨hown, hl6, _, hjow, hj61, hsj, hb1⟩, o1, o2, o3, hrb, hlk⟩
  have hj : js.length ≤ 1048576 := by omega
  have HS := Lib.hid (st_row hown (by omega))
  have HJ := Lib.hid (sj_row hjow hj)
  have HK := Lib.hid (Own.ofRow hjow).rj
  have HRR := Lib.hid (rr_mk2 (c1 := c1) (c2 := c2) (c3 := c3) o1.ri o2.ri o3.ri hrb)
  have HE := Lib.hid o1.ri
  have hel := hrb.n1
  have htl := hrb.n2
  have HG : Hid (JR js) := ⟨fun x hx => sj_i64n (hsj x hx)⟩
  clear o1 o2 o3 hrb hjow hown
  have hbA := bw_alloc w1 (.cells #[.slice a1 r.ended.length c1, .slice a2 r.trace.length c2, .slice a3 r.switches.length c3, .bool r.high] 29)
  have HB := Lib.hid (heap_alloc_new w1 (.cells #[.slice a1 r.ended.length c1, .slice a2 r.trace.length c2, .slice a3 r.switches.length c3, .bool r.high] 29))
  have HSJ := Lib.hid hsj
  have HLK := Lib.hid hlk
  clear hsj hlk
  go_wp2_with fail
  refine (misses_impl (HS.out.bw hbA) (HJ.out.bw hbA) (HRR.out.bw hbA)).mono ?_
  have hAl := misses_len l js r.ended r.trace.length
  obtain ⟨A, hA⟩ : ∃ A, misses l js r.ended r.trace.length = A := ⟨_, rfl⟩
  rw [hA] at hAl ⊢
  have HA := Lib.hid hA
  clear hA
  rintro e w2 ⟨aa, ca, rfl, hoa, hb2⟩
  have hbB := bw_trans hbA hb2
  have s0 := blk_cell (blk_bw hb2 HB.out) 0 rfl
  have s1 := blk_cell (blk_bw hb2 HB.out) 1 rfl
  have s2 := blk_cell (blk_bw hb2 HB.out) 2 rfl
  have s3 := blk_cell (blk_bw hb2 HB.out) 3 rfl
  have sl := blk_lt (blk_bw hb2 HB.out)
  have HOA := Lib.hid hoa
  clear hoa
  go_wp2_with fail
  refine (misses_spec (HS.out.bw hbB) (HJ.out.bw hbB) (HRR.out.bw hbB)).mono ?_
  rw [HA.out]
  rintro e w3 ⟨ab, cb, rfl, hob, hb3⟩
  go_wp2_with fail
  refine (dmInts_any _ _ _ _ _ _ _ (HOA.out.bw hb3).ri hob.ri (by omega) (by omega)).mono ?_
  rw [decide_eq_true rfl]
  rintro e w4 ⟨rfl, hb4⟩
  have h14 := bw_trans hbB (bw_trans hb3 hb4)
  have hw4 := bw_trans hb1 h14
  have HA4 := Lib.hid (HOA.out.bw (bw_trans hb3 hb4))
  have HB4 := Lib.hid (blk_bw (bw_trans hb2 (bw_trans hb3 hb4)) HB.out)
  clear hob s0 s1 s2 s3 sl
  have s0 := blk_cell HB4.out 0 rfl
  have s1 := blk_cell HB4.out 1 rfl
  have s2 := blk_cell HB4.out 2 rfl
  have s3 := blk_cell HB4.out 3 rfl
  have sl := blk_lt HB4.out
  by_cases hq : r.ended.length = js.length ∧ r.trace ≠ []
  · obtain ⟨hq1, hq2⟩ := hq
    have e1 : ((r.ended.length : Int) != (js.length : Int)) = false := by simp [hq1]
    have e2 : ((r.trace.length : Int) == 0) = false := by simp [hq2]
    have HE4 := Lib.hid (HE.out.bw h14)
    have HK4 := Lib.hid (HK.out.bw h14)
    have hnd := fun (k : Nat) (j : Jb) (e : Int) h1 h2 h3 => long_need HLK.out hq1 hq2 (k := k) (j := j) (e := e) h1 h2 h3
    have HND := Lib.hid hnd
    have HQ2 := Lib.hid hq2
    have HQ1 := Lib.hid hq1
    clear hnd hq2 hq1
    go_wp2
    clear s0 s1 s2 s3 sl e1 e2
    go_loopw [7] (fun i wr => ∃ k : Nat, k ≤ js.length ∧ i = .int .i64 k ∧ Bw w4 wr) (fun i _ => js.length - (intOf i).toNat)
    case atStart => exact ⟨0, Nat.zero_le _, rfl, Bw.refl _⟩
    case round =>
      obtain ⟨k, hk, rfl, hbw⟩ := hrel
      by_cases hlt : k < js.length
      · have hlt2 : k < r.ended.length := by have := HQ1.out; omega
        obtain ⟨⟨x, y, z⟩, bj', oj, hjk, hbo, hbsj, c0, c1', c2'⟩ := HK4.out.get hbw hlt
        obtain ⟨e, be, oe, he, heo, hbe, hec⟩ := HE4.out.get hbw hlt2
        subst hbo heo
        dsimp only at c0 c1' c2'
        have hneed := HND.out k _ e hjk he
        dsimp only at hneed
        obtain ⟨q0, q1, q2, q3⟩ := box4 (blk_bw hbw HB4.out)
        have s0 := fun d os => cell_regrown q0 d os
        have s1 := fun d os => cell_regrown q1 d os
        have s2 := fun d os => cell_regrown q2 d os
        have s3 := fun d os => cell_regrown q3 d os
        have k0 := fun d os => cell_regrown c0 d os
        have k2 := fun d os => cell_regrown c2' d os
        have ke := fun d os => cell_regrown hec d os
        have hc : ∀ W, Bw wr W → Calls Try.prog 27 #[.slice (some ⟨_, _, none⟩) js.length d, rnVal (some ⟨_, _, none⟩) r.ended.length c1 a2 r.trace.length c2 a3 r.switches.length c3 r.high, .int .i64 x] W fun e w' => e = .returned (.int .i64 (longest js r.ended x)) ∧ Bw W w' := fun W hW => longest_impl (HJ.out.bw (bw_trans h14 (bw_trans hbw hW))) (HRR.out.bw (bw_trans h14 (bw_trans hbw hW))) HG.out x
        obtain ⟨M, hM⟩ : ∃ M, longest js r.ended x = M := ⟨_, rfl⟩
        rw [hM] at hc hneed
        have HC := Lib.hid hc
        have HM := Lib.hid hM
        have HJK := Lib.hid hjk
        have HE := Lib.hid he
        have HNEED := Lib.hid hneed
        clear hM hjk he hneed
        clear hc q0 q1 q2 q3 c0 c1' c2' hec
        by_cases he0 : 0 ≤ e
        · have d0 : decide (0 ≤ e) = true := decide_eq_true he0
          have d1 : decide (M < z) = false := decide_eq_false (by have := HNEED.out he0; omega)
          go_wp2_with fail
          refine wp_region_quiet_below (by kernel_rfl) (by kernel_rfl) ?_
          repeat (go_big_quiet_step ((go_at_call 27; exact Calls.regrown_of (HC.out _ (below_regrown _ _ _)))))
          refine wpQuiet_nil ?_
          intro wq hw'
          have hbq := bw_of_ex hw'
          clear hw'
          go_wp2
          go_roundw
          case rel => exact ⟨k + 1, by omega, by go_num, bw_trans hbw hbq⟩
          case measure => simp [intOf]; omega
        · have d0 : decide (0 ≤ e) = false := decide_eq_false he0
          go_wp2_with fail
          refine wp_region_quiet_below (by kernel_rfl) (by kernel_rfl) ?_
          repeat (go_big_quiet_step ((go_at_call 27; exact Calls.regrown_of (HC.out _ (below_regrown _ _ _)))))
          refine wpQuiet_nil ?_
          intro wq hw'
          have hbq := bw_of_ex hw'
          clear hw'
          go_wp2
          go_roundw
          case rel => exact ⟨k + 1, by omega, by go_num, bw_trans hbw hbq⟩
          case measure => simp [intOf]; omega
      · have hge : decide ((k : Int) < (js.length : Int)) = false := decide_eq_false (by omega)
        go_wp2
        go_ret
        exact ⟨rfl, bw_trans hw4 hbw⟩
  · have hor : ((r.ended.length : Int) != (js.length : Int)) = true ∨ (((r.ended.length : Int) != (js.length : Int)) = false ∧ ((r.trace.length : Int) == 0) = true) := by
      by_cases h1 : r.ended.length = js.length
      · right
        have h2 : r.trace = [] := by
          by_cases h2 : r.trace = []
          · exact h2
          · exact absurd ⟨h1, h2⟩ hq
        exact ⟨by simp [h1], by simp [h2]⟩
      · left; simp; omega
    clear hq
    rcases hor with e1 | ⟨e1, e2⟩
    all_goals
      go_wp2_with fail
      refine (misses_spec (HS.out.bw h14) (HJ.out.bw h14) (HRR.out.bw h14)).mono ?_
      rw [HA.out]
      rintro e w5 ⟨ac, cc, rfl, hoc, hb5⟩
      go_wp2_with fail
      refine (dmInts_any _ _ _ _ _ _ _ (HA4.out.bw hb5).ri hoc.ri (by omega) (by omega)).mono ?_
      rw [decide_eq_true rfl]
      rintro e w6 ⟨rfl, hb6⟩
      go_wp2
      go_ret
      exact ⟨rfl, bw_trans hw4 (bw_trans hb5 hb6)⟩
end Go.Proofs.Ytchpfpekkgbehaa
