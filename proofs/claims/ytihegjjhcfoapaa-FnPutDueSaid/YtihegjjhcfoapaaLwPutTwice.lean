/-
  The walks of the laws FnPutTwice and FnPutDue.
-/
import Derived.Test.YtihegjjhcfoapaaDrB
import Derived.Test.YtihegjjhcfoapaaDm
import Derived.Test.YtihegjjhcfoapaaPlW
import Derived.Test.YtihegjjhcfoapaaPutS
import Derived.Test.YtihegjjhcfoapaaNeed
import Derived.Test.YtihegjjhcfoapaaLwJobsOrder
namespace Go.Proofs.Ytihegjjhcfoapaa
open Go.RowKit

theorem insJ_put {l : List Tk} {js : List Jb} {j : Jb} (h : (putJ l js j).2 = true) : putJ l js j = (insJ j js, true) ∧ jobsOk l js = true ∧ jobsOk l (insJ j js) = true := by
  unfold putJ at h ⊢
  split at h
  · rename_i k; exact ⟨by rw [if_pos k], k⟩
  · cases h
theorem put_off {l : List Tk} {js : List Jb} {j : Jb} (h : (putJ l js j).2 = false) : putJ l js j = ([], false) := by
  unfold putJ at h ⊢
  split at h
  · cases h
  · rename_i k; rw [if_neg k]
theorem insJ_split (j : Jb) : ∀ js : List Jb, ∃ a b, js = a ++ b ∧ insJ j js = a ++ j :: b
  | [] => ⟨[], [], rfl, rfl⟩
  | u :: t => by
    by_cases hu : ordBad u j = true
    · exact ⟨[], u :: t, rfl, by simp [insJ, hu]⟩
    · obtain ⟨a, b, e, e'⟩ := insJ_split j t
      exact ⟨u :: a, b, by simp [e], by simp [insJ, hu, e']⟩
theorem put_again {l : List Tk} {js : List Jb} {j : Jb} (hm : j ∈ js) : (putJ l js j).2 = false := by
  cases h : (putJ l js j).2 with
  | false => rfl
  | true =>
    exfalso
    obtain ⟨_, _, h3⟩ := insJ_put h
    have hp := ((jobsOk_iff l _).1 h3).2.2.2.imp (fun h => h.1)
    obtain ⟨a, b, e, e'⟩ := insJ_split j js
    rw [e'] at hp
    rw [List.pairwise_append] at hp
    have hnn : ∀ x : Jb, ¬ Lt x x := fun x => by unfold Lt; omega
    rw [e] at hm
    rcases List.mem_append.1 hm with h1 | h1
    · exact hnn j (hp.2.2 j h1 j (by simp))
    · exact hnn j ((List.pairwise_cons.1 hp.2.1).1 j h1)


set_option maxRecDepth 100000 in
set_option maxHeartbeats 3200000 in
theorem law_FnPutTwice (v : Value) (w : World) (hv : RawB w v) : Calls Try.prog 13 #[v] w fun e w' => e = .returned (.bool true) ∧ Bw w w' := by
  have HV := Lib.hid hv
  obtain ⟨⟨bo, n, cc, rfl, hc, hm, _⟩⟩ := hv
  unfold maxLen at hm
  by_cases hn : 1048576 < n
  · go_enter Try.func13, Try.ntmps13
    go_wp2
    go_ret
    exact ⟨rfl, Bw.refl _⟩
  have hnd : decide (1048576 < (n : Int)) = false := decide_eq_false (by omega)
  go_enter Try.func13, Try.ntmps13
  go_wp2_with fail
  refine (DrawPutJob_any HV.out (Bw.refl _)).mono ?_
  clear hnd
  rintro e w1 ⟨ao, c, l, bj, d, js, ⟨x, y, z⟩, rfl, ⟨hown, hl6, _, hjow, hj61, _, hb1⟩, hsx⟩
  have hl : l.length ≤ 1048576 := by omega
  have hj : js.length ≤ 1048576 := by omega
  have HS := Lib.hid (st_row (row_bw hown (bw_alloc w1 (.cells #[.int .i64 x, .int .i64 y, .int .i64 z] 38))) hl)
  have HJ := Lib.hid (sj_row (row_bw hjow (bw_alloc w1 (.cells #[.int .i64 x, .int .i64 y, .int .i64 z] 38))) hj)
  have HT := Lib.hid ((Own.ofRow hown).rt.bw (bw_alloc w1 (.cells #[.int .i64 x, .int .i64 y, .int .i64 z] 38)))
  obtain ⟨⟨hx0, hx1⟩, ⟨hy0, hy1⟩, ⟨hz0, hz1⟩⟩ := hsx
  dsimp only at hx0 hx1 hy0 hy1 hz0 hz1
  dsimp only
  have B1 := Lib.hid (heap_alloc_new w1 (.cells #[.int .i64 x, .int .i64 y, .int .i64 z] 38))
  clear hown hjow
  go_wp2_with fail
  refine (put_implR HS.out HJ.out x y z).mono ?_
  rintro e w2 ⟨ax, cx, rfl, hx, hb2⟩
  have p0 : True := trivial
  have p1 : True := trivial
  have p2 : True := trivial
  have B2 := Lib.hid (blk_bw hb2 B1.out)
  clear p0 p1 p2
  have p0 := blk_cell B2.out 0 rfl
  have p1 := blk_cell B2.out 1 rfl
  have p2 := blk_cell B2.out 2 rfl
  have hlx : (putJ l js ⟨x, y, z⟩).1.length ≤ 1048576 := Nat.le_trans (putJ_len _ _ _) (by omega)
  have HX := Lib.hid hx
  clear hx
  go_wp2_with fail
  refine (put_specR (HS.out.bw hb2) (HJ.out.bw hb2) x y z).mono ?_
  rintro e w3 ⟨aw, cw, rfl, hw, hb3⟩
  have B3 := Lib.hid (blk_bw hb3 B2.out)
  clear p0 p1 p2
  have p0 := blk_cell B3.out 0 rfl
  have p1 := blk_cell B3.out 1 rfl
  have p2 := blk_cell B3.out 2 rfl
  have HW := Lib.hid (Own.ofRow hw)
  clear hw
  go_wp2_with fail
  refine (dmJobs_any _ _ _ _ _ _ _ (Own.ofRow (row_bw HX.out hb3)).rj HW.out.rj hlx hlx).mono ?_
  rw [decide_eq_true rfl]
  rintro e w4 ⟨rfl, hb4⟩
  have B4 := Lib.hid (blk_bw hb4 B3.out)
  clear p0 p1 p2
  have p0 := blk_cell B4.out 0 rfl
  have p1 := blk_cell B4.out 1 rfl
  have p2 := blk_cell B4.out 2 rfl
  obtain ⟨o, HQ⟩ : ∃ o, Hid ((putJ l js ⟨x, y, z⟩).2 = o) := ⟨_, rfl⟩
  rw [HQ.out]
  have h14 := bw_trans (bw_trans hb2 hb3) hb4
  have hw4 := bw_trans (bw_trans hb1 (bw_alloc _ _)) h14
  cases o with
  | false =>
    go_wp2_with fail
    refine (dmJobs_any _ _ _ _ _ _ _ (Own.ofRow (row_bw HX.out (bw_trans hb3 hb4))).rj (HW.out.bw hb4).rj hlx hlx).mono ?_
    rw [decide_eq_true rfl]
    rintro e w5 ⟨rfl, hb5⟩
    go_wp2
    go_ret
    exact ⟨rfl, bw_trans hw4 hb5⟩
  | true =>
    obtain ⟨hp, _, hok⟩ := insJ_put HQ.out
    have hag : (putJ l (insJ ⟨x, y, z⟩ js) ⟨x, y, z⟩).2 = false := put_again ((insJ_mem _ _ _).2 (.inl rfl))
    have hln := insJ_len ⟨x, y, z⟩ js
    have HX2 := Lib.hid (row_bw HX.out (bw_trans hb3 hb4))
    rw [hp] at HX2 hlx ⊢
    dsimp only at HX2 hlx ⊢
    obtain ⟨L, HL⟩ : ∃ L, Hid (insJ ⟨x, y, z⟩ js = L) := ⟨_, rfl⟩
    rw [HL.out] at HX2 hlx hag hln
    rw [HL.out]
    have hle : ((L.length : Int) == (js.length : Int) + 1) = true := beq_iff_eq.2 (by omega)
    clear hp
    have HLN := Lib.hid hln
    clear hln
    go_wp2_with fail
    refine (put_implR (HS.out.bw h14) (sj_row HX2.out hlx) x y z).mono ?_
    rw [hag]
    rintro e w5 ⟨ay, cy, rfl, hy, hb5⟩
    clear hy hag
    go_wp2
    go_ret
    exact ⟨rfl, bw_trans hw4 hb5⟩

theorem eqJ_at (x y z px py pz : Int) (W : World) (g : Bool) (h : decide ((⟨x, y, z⟩ : Jb) = ⟨px, py, pz⟩) = g) : (binOp .eql 38 (.agg #[.int .i64 x, .int .i64 y, .int .i64 z]) (.agg #[.int .i64 px, .int .i64 py, .int .i64 pz])).run Try.prog W = .ok (.bool g) W := by rw [eqlJ, h]

set_option maxRecDepth 100000 in
set_option maxHeartbeats 3200000 in
theorem law_FnPutDue (v : Value) (w : World) (hv : RawB w v) : Calls Try.prog 14 #[v] w fun e w' => e = .returned (.bool true) ∧ Bw w w' := by
  have HV := Lib.hid hv
  obtain ⟨⟨bo, n, cc, rfl, hc, hm, _⟩⟩ := hv
  unfold maxLen at hm
  by_cases hn : 1048576 < n
  · go_enter Try.func14, Try.ntmps14
    go_wp2
    go_ret
    exact ⟨rfl, Bw.refl _⟩
  have hnd : decide (1048576 < (n : Int)) = false := decide_eq_false (by omega)
  go_enter Try.func14, Try.ntmps14
  go_wp2_with fail
  refine (DrawPutJob_any HV.out (Bw.refl _)).mono ?_
  clear hnd
  rintro e w1 ⟨ao, c, l, bj, d, js, ⟨x, y, z⟩, rfl, ⟨hown, hl6, _, hjow, hj61, _, hb1⟩, hsx⟩
  have hl : l.length ≤ 1048576 := by omega
  have hj : js.length ≤ 1048576 := by omega
  have HS := Lib.hid (st_row (row_bw hown (bw_alloc w1 (.cells #[.int .i64 x, .int .i64 y, .int .i64 z] 38))) hl)
  have HJ := Lib.hid (sj_row (row_bw hjow (bw_alloc w1 (.cells #[.int .i64 x, .int .i64 y, .int .i64 z] 38))) hj)
  have HT := Lib.hid ((Own.ofRow hown).rt.bw (bw_alloc w1 (.cells #[.int .i64 x, .int .i64 y, .int .i64 z] 38)))
  obtain ⟨⟨hx0, hx1⟩, ⟨hy0, hy1⟩, ⟨hz0, hz1⟩⟩ := hsx
  dsimp only at hx0 hx1 hy0 hy1 hz0 hz1
  dsimp only
  have B1 := Lib.hid (heap_alloc_new w1 (.cells #[.int .i64 x, .int .i64 y, .int .i64 z] 38))
  clear hown hjow
  go_wp2_with fail
  refine (put_implR HS.out HJ.out x y z).mono ?_
  rintro e w2 ⟨ax, cx, rfl, hx, hb2⟩
  have p0 : True := trivial
  have p1 : True := trivial
  have p2 : True := trivial
  have B2 := Lib.hid (blk_bw hb2 B1.out)
  clear p0 p1 p2
  have p0 := blk_cell B2.out 0 rfl
  have p1 := blk_cell B2.out 1 rfl
  have p2 := blk_cell B2.out 2 rfl
  have hlx : (putJ l js ⟨x, y, z⟩).1.length ≤ 1048576 := Nat.le_trans (putJ_len _ _ _) (by omega)
  have HX := Lib.hid hx
  clear hx
  go_wp2_with fail
  refine (put_specR (HS.out.bw hb2) (HJ.out.bw hb2) x y z).mono ?_
  rintro e w3 ⟨aw, cw, rfl, hw, hb3⟩
  have B3 := Lib.hid (blk_bw hb3 B2.out)
  clear p0 p1 p2
  have p0 := blk_cell B3.out 0 rfl
  have p1 := blk_cell B3.out 1 rfl
  have p2 := blk_cell B3.out 2 rfl
  have HW := Lib.hid (Own.ofRow hw)
  clear hw
  go_wp2_with fail
  refine (dmJobs_any _ _ _ _ _ _ _ (Own.ofRow (row_bw HX.out hb3)).rj HW.out.rj hlx hlx).mono ?_
  rw [decide_eq_true rfl]
  rintro e w4 ⟨rfl, hb4⟩
  have B4 := Lib.hid (blk_bw hb4 B3.out)
  clear p0 p1 p2
  have p0 := blk_cell B4.out 0 rfl
  have p1 := blk_cell B4.out 1 rfl
  have p2 := blk_cell B4.out 2 rfl
  obtain ⟨o, HQ⟩ : ∃ o, Hid ((putJ l js ⟨x, y, z⟩).2 = o) := ⟨_, rfl⟩
  rw [HQ.out]
  have h14 := bw_trans (bw_trans hb2 hb3) hb4
  have hw4 := bw_trans (bw_trans hb1 (bw_alloc _ _)) h14
  cases o with
  | false =>
    go_wp2_with fail
    refine (dmJobs_any _ _ _ _ _ _ _ (Own.ofRow (row_bw HX.out (bw_trans hb3 hb4))).rj (HW.out.bw hb4).rj hlx hlx).mono ?_
    rw [decide_eq_true rfl]
    rintro e w5 ⟨rfl, hb5⟩
    go_wp2
    go_ret
    exact ⟨rfl, bw_trans hw4 hb5⟩
  | true =>
    obtain ⟨hp, _, hok⟩ := insJ_put HQ.out
    have hmem : (⟨x, y, z⟩ : Jb) ∈ insJ ⟨x, y, z⟩ js := (insJ_mem _ _ _).2 (.inl rfl)
    have HX2 := Lib.hid (Own.ofRow (row_bw HX.out (bw_trans hb3 hb4))).rj
    rw [hp] at HX2 hlx ⊢
    dsimp only at HX2 hlx ⊢
    obtain ⟨L, HL⟩ : ∃ L, Hid (insJ ⟨x, y, z⟩ js = L) := ⟨_, rfl⟩
    rw [HL.out] at HX2 hlx hok hmem
    rw [HL.out]
    obtain ⟨k0, hk0⟩ := List.getElem?_of_mem hmem
    have hk0l := (List.getElem?_eq_some_iff.1 hk0).1
    have hji := jobs_in hok hk0
    obtain ⟨q, T, eq, hT, hql, hTok, _, hx0', hx1', _⟩ := job_task hji
    dsimp only at eq hx0' hx1'
    subst eq
    have hdv := due_val hji (by simpa using hT)
    have HK0 := Lib.hid hk0
    have HT0 := Lib.hid hT
    have hTd : 0 ≤ T.due ∧ T.due ≤ 20 := by have := (Tk.ok_iff _).1 hTok; omega
    clear hp hmem hok hk0 hT hTok
    go_wp2_with fail
    refine (DueAt_impl _ _ _ l (q : Int) y z hl (HT.out.bw h14)).mono ?_
    rw [hji, hdv]
    rintro e w5 ⟨rfl, hb5⟩
    have B5 := Lib.hid (blk_bw hb5 B4.out)
    clear p0 p1 p2
    have p0 := blk_cell B5.out 0 rfl
    have p1 := blk_cell B5.out 1 rfl
    have p2 := blk_cell B5.out 2 rfl
    have h15 := bw_trans h14 hb5
    clear p0 p1 p2
    have HJI := Lib.hid hji
    have HDV := Lib.hid hdv
    clear hji hdv
    go_wp2
    go_loopw [12] (fun i wr => ∃ k : Nat, k ≤ L.length ∧ i = .int .i64 k ∧ Hid (∀ m, m < k → L[m]? ≠ some (⟨(q : Int), y, z⟩ : Jb)) ∧ Bw w5 wr) (fun i _ => L.length - (intOf i).toNat)
    case atStart => exact ⟨0, Nat.zero_le _, rfl, fun m hm => by omega, Bw.refl _⟩
    case round =>
      obtain ⟨k, hk, rfl, hno, hbw⟩ := hrel
      by_cases hlt : k < L.length
      · obtain ⟨⟨px, py, pz⟩, b, off, hxk, hao, hbs, c0, c1, c2⟩ := HX2.out.get (bw_trans hb5 hbw) hlt
        obtain ⟨T2, b3, off3, hTk, hbo3, hbs3, _, _, t2, _, _⟩ := HT.out.get (bw_trans h15 hbw) hql
        have hTT : T2 = T := by have h := HT0.out; rw [h] at hTk; simpa using hTk.symm
        subst hTT
        dsimp only at c0 c1 c2
        subst hao
        subst hbo3
        have p0 := blk_cell (blk_bw hbw B5.out) 0 rfl
        have p1 := blk_cell (blk_bw hbw B5.out) 1 rfl
        have p2 := blk_cell (blk_bw hbw B5.out) 2 rfl
        have hbl := blk_lt (blk_bw hbw B5.out)
        have HXK := Lib.hid hxk
        clear hxk hTk
        obtain ⟨g, HG⟩ : ∃ g, Hid (decide ((⟨px, py, pz⟩ : Jb) = ⟨(q : Int), y, z⟩) = g) := ⟨_, rfl⟩
        have heq := fun W => eqlJ px py pz (q : Int) y z W
        rw [HG.out] at heq
        cases g with
        | true =>
          have hxe := of_decide_eq_true HG.out
          simp only [Jb.mk.injEq] at hxe
          obtain ⟨rfl, rfl, rfl⟩ := hxe
          have hwr := IntWalk.i64_in (py + T2.due) (by omega)
          have hee : (py + T2.due == py + T2.due) = true := beq_self_eq_true _
          go_wp2_with fail
          go_quiet (fail)
          go_wp2_with fail
          refine (DueAt_impl _ _ _ l (q : Int) py pz hl (HT.out.bw (blw_drewN (bw_trans h15 hbw) _))).mono ?_
          rw [HJI.out, HDV.out]
          rintro e w6 ⟨rfl, hb6⟩
          have d0 := cell_bw hb6 p0
          have d1 := cell_bw hb6 p1
          have d2 := cell_bw hb6 t2
          have hr6 := Nat.lt_of_lt_of_le hbs3 hb6.size
          clear p0 p1 p2 t2 c0 c1 c2
          go_wp2_with fail
          go_quiet (fail)
          go_wp2
          go_ret
          exact ⟨rfl, bw_trans (bw_trans (bw_trans (bw_trans hw4 hb5) hbw) (blw_drewN (Bw.refl _) _)) (blw_drewN hb6 _)⟩
        | false =>
          have HN2 : Hid (∀ m, m < k + 1 → L[m]? ≠ some (⟨(q : Int), y, z⟩ : Jb)) := fun m hm => by
            rcases Nat.lt_or_ge m k with h | h
            · exact hno.out m h
            · obtain rfl : m = k := by omega
              rw [HXK.out]
              intro h2
              exact of_decide_eq_false HG.out (by simpa using h2)
          go_wp2_with fail
          go_quiet (fail)
          go_wp2
          go_roundw
          case rel => exact ⟨k + 1, by omega, by go_num, HN2.out, blw_drewN hbw _⟩
          case measure => simp [intOf]; omega
      · exact absurd HK0.out (hno.out k0 (by omega))
end Go.Proofs.Ytihegjjhcfoapaa
