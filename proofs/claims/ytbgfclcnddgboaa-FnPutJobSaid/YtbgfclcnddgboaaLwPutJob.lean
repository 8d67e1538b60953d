/-
  The walk of the law FnPutJob.
-/
import Derived.Test.YtbgfclcnddgboaaDrB
import Derived.Test.YtbgfclcnddgboaaDm
import Derived.Test.YtbgfclcnddgboaaPlPut
namespace Go.Proofs.Ytbgfclcnddgboaa
open Go.RowKit

set_option maxRecDepth 100000 in
set_option maxHeartbeats 3200000 in
theorem law_FnPutJob (v : Value) (w : World) (hv : RawB w v) : Calls Try.prog 3 #[v] w fun e w' => e = .returned (.bool true) ∧ Bw w w' := by
  obtain ⟨i0, hi0, hi1, hi2, hi3⟩ := info_parts infoJob
  have HV := Lib.hid hv
  obtain ⟨⟨bo, n, cc, rfl, hc, hm, _⟩⟩ := hv
  unfold maxLen at hm
  by_cases hn : 1048576 < n
  · go_enter Try.func3, Try.ntmps3
    go_wp2
    go_ret
    exact ⟨rfl, Bw.refl _⟩
  have hnd : decide (1048576 < (n : Int)) = false := decide_eq_false (by omega)
  go_enter Try.func3, Try.ntmps3
  go_wp2_with fail
  refine (DrawPutJob_any HV.out (Bw.refl _)).mono ?_
  clear hnd
  rintro e w1 ⟨ao, c, l, bj, d, js, ⟨x, y, z⟩, rfl, ⟨hown, hl6, _, hjow, hj61, _, hb1⟩, hsx⟩
  have hl : l.length ≤ 1048576 := by omega
  have hj : js.length ≤ 1048576 := by omega
  have HS := Lib.hid (st_row (row_bw hown (bw_alloc w1 (.cells #[.int .i64 x, .int .i64 y, .int .i64 z] 26))) hl)
  have HJ := Lib.hid (sj_row (row_bw hjow (bw_alloc w1 (.cells #[.int .i64 x, .int .i64 y, .int .i64 z] 26))) hj)
  have HT := Lib.hid ((Own.ofRow hown).rt.bw (bw_alloc w1 (.cells #[.int .i64 x, .int .i64 y, .int .i64 z] 26)))
  obtain ⟨⟨hx0, hx1⟩, ⟨hy0, hy1⟩, ⟨hz0, hz1⟩⟩ := hsx
  dsimp only at hx0 hx1 hy0 hy1 hz0 hz1
  dsimp only
  have B1 := Lib.hid (heap_alloc_new w1 (.cells #[.int .i64 x, .int .i64 y, .int .i64 z] 26))
  clear hown hjow
  go_wp2_with fail
  refine (put_implR HS.out HJ.out x y z).mono ?_
  rintro e w2 ⟨ax, cx, rfl, hx, hb2⟩
  have p0 : True := trivial
  have p1 : True := trivial
  have p2 : True := trivial
  have B2 := Lib.hid (blk_bw hb2 B1.out)
  clear p0 p1 p2
  have p0 := blk_cell B2.out 0 rfl
  have p1 := blk_cell B2.out 1 rfl
  have p2 := blk_cell B2.out 2 rfl
  have hlx : (putJ l js ⟨x, y, z⟩).1.length ≤ 1048576 := Nat.le_trans (putJ_len _ _ _) (by omega)
  have HX := Lib.hid hx
  clear hx
  go_wp2_with fail
  refine (put_specR (HS.out.bw hb2) (HJ.out.bw hb2) x y z).mono ?_
  rintro e w3 ⟨aw, cw, rfl, hw, hb3⟩
  have B3 := Lib.hid (blk_bw hb3 B2.out)
  clear p0 p1 p2
  have p0 := blk_cell B3.out 0 rfl
  have p1 := blk_cell B3.out 1 rfl
  have p2 := blk_cell B3.out 2 rfl
  have HW := Lib.hid (Own.ofRow hw)
  clear hw
  go_wp2_with fail
  refine (dmJobs_any _ _ _ _ _ _ _ (Own.ofRow (row_bw HX.out hb3)).rj HW.out.rj hlx hlx).mono ?_
  rw [decide_eq_true rfl]
  rintro e w4 ⟨rfl, hb4⟩
  have B4 := Lib.hid (blk_bw hb4 B3.out)
  clear p0 p1 p2
  have p0 := blk_cell B4.out 0 rfl
  have p1 := blk_cell B4.out 1 rfl
  have p2 := blk_cell B4.out 2 rfl
  obtain ⟨o, HQ⟩ : ∃ o, Hid ((putJ l js ⟨x, y, z⟩).2 = o) := ⟨_, rfl⟩
  rw [HQ.out]
  have h14 := bw_trans (bw_trans hb2 hb3) hb4
  have hw4 := bw_trans (bw_trans hb1 (bw_alloc _ _)) h14
  have HJK := Lib.hid (show RJ (w1.alloc (.cells #[.int .i64 x, .int .i64 y, .int .i64 z] 26)) bj js from by
    obtain ⟨⟨a2, c2, e2, hrj, _⟩, _⟩ := HJ.out
    simp only [Value.slice.injEq] at e2
    obtain ⟨rfl, _, rfl⟩ := e2
    exact hrj)
  cases o with
  | false =>
    go_wp2_with fail
    refine (dmJobs_any _ _ _ _ _ _ _ (Own.ofRow (row_bw HX.out (bw_trans hb3 hb4))).rj (HW.out.bw hb4).rj hlx hlx).mono ?_
    rw [decide_eq_true rfl]
    rintro e w5 ⟨rfl, hb5⟩
    go_wp2
    go_ret
    exact ⟨rfl, bw_trans hw4 hb5⟩
  | true =>
    obtain ⟨hp, _, hok⟩ := insJ_put HQ.out
    obtain ⟨hcnt, hrest, hneed⟩ := put_all HQ.out
    dsimp only at hneed
    have hbd := needOf_bd js x
    have HX2 := Lib.hid (row_bw HX.out (bw_trans hb3 hb4))
    rw [hp] at HX2 hlx ⊢
    dsimp only at HX2 hlx ⊢
    obtain ⟨L, HL⟩ : ∃ L, Hid (insJ ⟨x, y, z⟩ js = L) := ⟨_, rfl⟩
    rw [HL.out] at HX2 hlx hok hcnt hrest hneed
    rw [HL.out]
    have HOK := Lib.hid hok
    have HRX := Lib.hid (Own.ofRow HX2.out).rj
    have HSX := Lib.hid (sj_row HX2.out hlx)
    have h60 := jobs_len hok
    have HC := Lib.hid hcnt
    have HR := Lib.hid hrest
    have HN := Lib.hid hneed
    clear hp hok hcnt hrest hneed p0 p1 p2
    go_wp2
    go_loopw [10, 11, 12] (fun u n i wr => ∃ (k : Nat) (q : List Jb), k ≤ L.length ∧ i = .int .i64 k ∧ n = .int .i64 (cntJ ⟨x, y, z⟩ (L.take k)) ∧ Hid (q = restJ ⟨x, y, z⟩ (L.take k)) ∧ q.length ≤ k ∧ cntJ ⟨x, y, z⟩ (L.take k) ≤ k ∧ wr.ownsRow w4.heap.size 26 3 u q.length (jbs q) ∧ Bw w4 wr) (fun _ _ i _ => L.length - (intOf i).toNat)
    case atStart => exact ⟨0, [], Nat.zero_le _, rfl, rfl, rfl, by simp, by simp [cntJ], by simpa [jbs] using World.ownsRow_made (base := w4.heap.size) (e := 26) (size := 3) w4 #[] 0 (Nat.le_refl _) (by simp) rfl, bw_alloc _ _⟩
    case round =>
      obtain ⟨k, q, hk, rfl, rfl, hq, hql, hck, hown, hbw⟩ := hrel
      have hz := hbw.size
      by_cases hlt : k < L.length
      · obtain ⟨⟨px, py, pz⟩, b, off, hxk, hao, hbs, c0, c1, c2⟩ := HRX.out.get hbw hlt
        dsimp only at c0 c1 c2
        subst hao
        have p0 := blk_cell (blk_bw hbw B4.out) 0 rfl
        have p1 := blk_cell (blk_bw hbw B4.out) 1 rfl
        have p2 := blk_cell (blk_bw hbw B4.out) 2 rfl
        have hbl := blk_lt (blk_bw hbw B4.out)
        obtain ⟨s1, s2⟩ := cntJ_snoc (j := ⟨x, y, z⟩) hxk
        obtain ⟨C, hC⟩ : ∃ C, cntJ ⟨x, y, z⟩ (L.take k) = C := ⟨_, rfl⟩
        rw [hC] at s1 hck
        rw [hC]
        rw [← hq.out] at s2
        obtain ⟨g, HG⟩ : ∃ g, Hid (decide ((⟨px, py, pz⟩ : Jb) = ⟨x, y, z⟩) = g) := ⟨_, rfl⟩
        have heq := fun W => eqlJ px py pz x y z W
        rw [HG.out] at heq
        have HS1 := Lib.hid s1
        have HS2 := Lib.hid s2
        clear hxk s1 s2 hC
        obtain ⟨ao', c', hu⟩ := own_form hown
        subst hu
        cases g with
        | true =>
          have hxe := of_decide_eq_true HG.out
          have e1 : cntJ ⟨x, y, z⟩ (L.take (k + 1)) = C + 1 := by rw [HS1.out, if_pos hxe]
          have e2 : restJ ⟨x, y, z⟩ (L.take (k + 1)) = q := by rw [HS2.out, if_pos hxe]; simp
          have HXE := Lib.hid hxe
          have E1 := Lib.hid e1
          have E2 := Lib.hid e2
          clear hxe e1 e2
          go_wp2_with fail
          go_quiet (fail)
          go_wp2
          go_roundw
          case rel => exact ⟨k + 1, q, by omega, by go_num, by rw [E1.out]; go_num, E2.out.symm, by omega, by rw [E1.out]; omega, row_bw hown (bw_drewN _ _), blw_drewN hbw _⟩
          case measure => simp [intOf]; omega
        | false =>
          have hxe := of_decide_eq_false HG.out
          have e1 : cntJ ⟨x, y, z⟩ (L.take (k + 1)) = C := by rw [HS1.out, if_neg hxe]; rfl
          have e2 : restJ ⟨x, y, z⟩ (L.take (k + 1)) = q ++ [⟨px, py, pz⟩] := by rw [HS2.out, if_neg hxe]
          have HXE := Lib.hid hxe
          have E1 := Lib.hid e1
          have E2 := Lib.hid e2
          clear hxe e1 e2
          go_wp2_with fail
          go_quiet (fail)
          have hown0 := row_bw hown (bw_drewN wr nq)
          have hbw0 : Bw w4 (wr.drewN nq) := blw_drewN hbw nq
          obtain ⟨wd, ewd⟩ : ∃ wd : World, wr.drewN nq = wd := ⟨_, rfl⟩
          have c0' := cell_bw (bw_drewN wr nq) c0
          have c1' := cell_bw (bw_drewN wr nq) c1
          have c2' := cell_bw (bw_drewN wr nq) c2
          have hbd' : b < wd.heap.size := by rw [← ewd]; exact hbs
          rw [ewd] at hown0 hbw0 c0' c1' c2' ⊢
          clear c0 c1 c2 p0 p1 p2 hown ewd
          have hzd := hbw0.size
          go_wp2_with (at_builtin; refine wpList_append_own _ rfl _ _ 24 rfl w4.heap.size 26 i0 zJob 3 24 Try.underlying24 hi0 hi1 hi2 hi3 rfl (by decide) _ _ _ rfl (hown0.alloc _) ⟨wd.heap.size, 0, none⟩ 1 1 (jbCells ⟨px, py, pz⟩) rfl rfl (cell_job_new wd ⟨px, py, pz⟩ 26) (oneJ _) (by unfold maxLen; omega) (by omega) (by simp only [World.size_alloc]; omega) ?_; intro v' w6 hown' hgrow _)
          have hown6 : w6.ownsRow w4.heap.size 26 3 v' (q ++ [(⟨px, py, pz⟩ : Jb)]).length (jbs (q ++ [(⟨px, py, pz⟩ : Jb)])) := by simpa [jbs] using hown'
          have hb6 : Bw w4 w6 := Below.grown (Below.alloc hbw0 hzd _) hgrow (by simp only [World.size_alloc]; omega) (fun g hg => by have := own_cap0 hown0 g hg; omega)
          clear hown' hgrow
          go_wp2
          go_roundw
          case rel => exact ⟨k + 1, q ++ [(⟨px, py, pz⟩ : Jb)], by omega, by go_num, by rw [E1.out], E2.out.symm, by simp; omega, by rw [E1.out]; omega, hown6, hb6⟩
          case measure => simp [intOf]; omega
      · have hq2 : q = js := by rw [hq.out, take_end hlt]; exact HR.out
        have hc1 : ((cntJ ⟨x, y, z⟩ (L.take k) : Nat) : Int) = 1 := by rw [take_end hlt, HC.out]; rfl
        rw [hc1]
        have hg1 : ((1 : Int) == 1) = true := rfl
        obtain ⟨ao', c', hu⟩ := own_form hown
        subst hu
        subst hq2
        have HQR := Lib.hid (Own.ofRow hown).rj
        have p0 := blk_cell (blk_bw hbw B4.out) 0 rfl
        have p2 := blk_cell (blk_bw hbw B4.out) 2 rfl
        have b0 := fun d os => cell_regrown p0 d os
        have b2 := fun d os => cell_regrown p2 d os
        have hwr := IntWalk.i64_in (needOf q x + z) (by omega)
        have HW4 := Lib.hid (bw_trans h14 hbw)
        have c1 : ∀ W, Bw wr W → Calls Try.prog 19 #[.slice ao l.length c, .slice ax L.length cx] W fun e w' => e = .returned (.bool true) ∧ Bw W w' := fun W hW => by
          have := jobsvalid_impl (HS.out.bw (bw_trans HW4.out hW)) (HSX.out.bw (bw_trans hbw hW))
          rw [HOK.out] at this; exact this
        have c2 : ∀ W, Bw wr W → Calls Try.prog 18 #[.slice ao' q.length c', .slice bj q.length d] W fun e w' => e = .returned (.bool true) ∧ Bw W w' := fun W hW => by
          have := dmJobs_any ao' bj q q c' d W (HQR.out.bw hW) (HJK.out.bw (bw_trans HW4.out hW)) hj hj
          rw [decide_eq_true rfl] at this; exact this
        have C1 := Lib.hid c1
        have C2 := Lib.hid c2
        obtain ⟨N, hN⟩ : ∃ N, needOf q x = N := ⟨_, rfl⟩
        obtain ⟨M, hM⟩ : ∃ M, needOf L x = M := ⟨_, rfl⟩
        have hMN := HN.out
        rw [hM, hN] at hMN
        rw [hN] at hwr
        have hee : (M == N + z) = true := beq_iff_eq.2 hMN
        have c3 : ∀ W, Bw wr W → ∀ (bo : Option Addr) (dd : Nat) (ls : List Jb), ls.length ≤ 1048576 → RJ W bo ls → Calls Try.prog 20 #[.slice bo ls.length dd, .int .i64 x] W fun e w' => e = .returned (.int .i64 (needOf ls x)) ∧ Bw W w' := fun W _ bo dd ls h1 h2 => NeedOf_impl bo dd W ls x h1 h2
        have C3 := Lib.hid c3
        have HMN := Lib.hid hMN
        clear hMN
        clear c1 c2 c3 p0 p2 hq hc1 hown hbd
        go_wp2_with fail
        refine wp_region_quiet_below (by kernel_rfl) (by kernel_rfl) ?_
        repeat (go_big_quiet_step ((first | (go_at_call 19; exact Calls.regrown_of (C1.out _ (below_regrown _ _ _))) | (go_at_call 18; exact Calls.regrown_of (C2.out _ (below_regrown _ _ _))) | (go_at_call 20; exact Calls.regrown_of (C3.out _ (below_regrown _ _ _) _ _ _ (by first | exact hlx | exact hj) (by first | exact HRX.out.bw (bw_trans hbw (below_regrown _ _ _)) | exact HJK.out.bw (bw_trans HW4.out (below_regrown _ _ _))))))))
        refine wpQuiet_nil ?_
        intro wq hw'
        have hbq := bw_of_ex hw'
        clear hw'
        rw [hM, hN]
        go_wp2
        go_ret
        exact ⟨rfl, bw_trans (bw_trans hw4 hbw) hbq⟩
end Go.Proofs.Ytbgfclcnddgboaa
