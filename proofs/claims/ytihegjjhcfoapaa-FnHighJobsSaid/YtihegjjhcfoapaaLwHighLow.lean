/-
  The walks of the laws FnHighLow and FnHighJobs.
-/
import Derived.Test.YtihegjjhcfoapaaDrB
import Derived.Test.YtihegjjhcfoapaaDm
import Derived.Test.YtihegjjhcfoapaaLwJobsOrder
namespace Go.Proofs.Ytihegjjhcfoapaa
open Go.RowKit

theorem pickFrom_mem (p : Nat → Bool) : ∀ (m i : Nat) (x : Int), x ∈ pickFrom p m i → ∃ k : Nat, x = k ∧ i ≤ k ∧ k < i + m ∧ p k = true
  | 0, _, _, h => by simp [pickFrom] at h
  | m + 1, i, x, h => by
    simp only [pickFrom] at h
    split at h
    · rename_i hp
      rcases List.mem_cons.1 h with rfl | h
      · exact ⟨i, rfl, Nat.le_refl _, by omega, hp⟩
      · obtain ⟨k, h1, h2, h3, h4⟩ := pickFrom_mem p m (i + 1) x h
        exact ⟨k, h1, by omega, by omega, h4⟩
    · obtain ⟨k, h1, h2, h3, h4⟩ := pickFrom_mem p m (i + 1) x h
      exact ⟨k, h1, by omega, by omega, h4⟩
theorem pickFrom_sorted (p : Nat → Bool) : ∀ m i : Nat, (pickFrom p m i).Pairwise (· < ·)
  | 0, _ => List.Pairwise.nil
  | m + 1, i => by
    simp only [pickFrom]
    split
    · refine List.pairwise_cons.2 ⟨fun b hb => ?_, pickFrom_sorted p m (i + 1)⟩
      obtain ⟨k, rfl, h2, _⟩ := pickFrom_mem p m (i + 1) b hb
      omega
    · exact pickFrom_sorted p m (i + 1)
/-- How many of the first are high. -/
def cntP (p : Nat → Bool) : Nat → Nat
  | 0 => 0
  | k + 1 => cntP p k + (if p k then 1 else 0)
theorem cntP_le (p : Nat → Bool) : ∀ k, cntP p k ≤ k
  | 0 => Nat.le_refl _
  | k + 1 => by have := cntP_le p k; simp only [cntP]; split <;> omega
theorem pick_snoc (p : Nat → Bool) : ∀ m i : Nat, (pickFrom p (m + 1) i).length = (pickFrom p m i).length + if p (i + m) then 1 else 0
  | 0, i => by simp [pickFrom]; split <;> simp
  | m + 1, i => by
    have ih := pick_snoc p m (i + 1)
    rw [show i + 1 + m = i + (m + 1) by omega] at ih
    rw [pickFrom, show pickFrom p (m + 1) i = if p i then (i : Int) :: pickFrom p m (i + 1) else pickFrom p m (i + 1) from rfl]
    split
    · rw [List.length_cons, List.length_cons, ih]; omega
    · exact ih
theorem pick_cnt (p : Nat → Bool) : ∀ n, (pickFrom p n 0).length = cntP p n
  | 0 => rfl
  | n + 1 => by rw [pick_snoc, pick_cnt p n, Nat.zero_add]; rfl
theorem highP_at {l : List Tk} {js : List Jb} {k x : Nat} {y z : Int} {t : Tk} (hj : js[k]? = some ⟨x, y, z⟩) (ht : l[x]? = some t) : highP l js k = decide (t.low < z) := by
  rw [highP, hj]; dsimp only; rw [show ((x : Int)).toNat = x by omega, ht]


set_option maxRecDepth 100000 in
set_option maxHeartbeats 3200000 in
theorem law_FnHighLow (v : Value) (w : World) (hv : RawB w v) : Calls Try.prog 12 #[v] w fun e w' => e = .returned (.bool true) ∧ Bw w w' := by
  have HV := Lib.hid hv
  obtain ⟨⟨bo, n, cc, rfl, hc, hm, _⟩⟩ := hv
  unfold maxLen at hm
  by_cases hn : 1048576 < n
  · go_enter Try.func12, Try.ntmps12
    go_wp2
    go_ret
    exact ⟨rfl, Bw.refl _⟩
  have hnd : decide (1048576 < (n : Int)) = false := decide_eq_false (by omega)
  go_enter Try.func12, Try.ntmps12
  go_wp2_with fail
  refine (DrawHighJobs_any HV.out (Bw.refl _)).mono ?_
  clear hnd
  rintro e w1 ⟨ao, c, l, bj, d, js, rfl, ⟨hown, hl6, _, hjow, hj61, _, hb1⟩⟩
  have hl : l.length ≤ 1048576 := by omega
  have hj : js.length ≤ 1048576 := by omega
  have HS := Lib.hid (st_row hown hl)
  have HJ := Lib.hid (sj_row hjow hj)
  have HT := Lib.hid (Own.ofRow hown).rt
  have HK := Lib.hid (Own.ofRow hjow).rj
  clear hown
  go_wp2_with fail
  refine (highs_impl HS.out HJ.out).mono ?_
  rintro e w2 ⟨ah, ch, rfl, hh, hb2⟩
  go_wp2_with fail
  refine (highs_spec (HS.out.bw hb2) (HJ.out.bw hb2)).mono ?_
  rintro e w3 ⟨ak, ck, rfl, hk, hb3⟩
  have HH := Lib.hid hh
  have HHK := Lib.hid hk
  have hlh : (highs l js).length ≤ 1048576 := Nat.le_trans (highs_len _ _) (by omega)
  go_wp2_with fail
  refine (dmInts_any _ _ _ _ _ _ _ (HH.out.bw hb3).ri HHK.out.ri hlh hlh).mono ?_
  rw [decide_eq_true rfl]
  rintro e w4 ⟨rfl, hb4⟩
  have h14 := bw_trans (bw_trans hb2 hb3) hb4
  have hw4 := bw_trans hb1 h14
  clear hh hk
  go_wp2_with fail
  refine (jobsvalid_impl (HS.out.bw h14) (HJ.out.bw h14)).mono ?_
  obtain ⟨g, HG⟩ : ∃ g, Hid (jobsOk l js = g) := ⟨_, rfl⟩
  rw [HG.out]
  rintro e w5 ⟨rfl, hb5⟩
  have h15 := bw_trans h14 hb5
  have hw5 := bw_trans hb1 h15
  cases g with
  | false =>
    have h0 : highs l js = [] := by rw [highs, HG.out]; rfl
    have H0 := Lib.hid h0
    clear h0
    go_wp2_with fail
    refine (highs_spec (HS.out.bw h15) (HJ.out.bw h15)).mono ?_
    rintro e w6 ⟨al, cl, rfl, hk6, hb6⟩
    go_wp2_with fail
    refine (dmInts_any _ _ _ _ _ _ _ (HH.out.bw (bw_trans (bw_trans (bw_trans hb3 hb4) hb5) hb6)).ri hk6.ri hlh hlh).mono ?_
    rw [decide_eq_true rfl]
    rintro e w7 ⟨rfl, hb7⟩
    clear hk6
    have hl0 : (((highs l js).length : Int) == 0) = true := by rw [H0.out]; rfl
    go_wp2
    go_ret
    exact ⟨rfl, bw_trans (bw_trans hw5 hb6) hb7⟩
  | true =>
    have H60 := Lib.hid (jobs_len HG.out)
    have hn : (highs l js).length = cntP (highP l js) js.length := by rw [highs, if_pos HG.out, pick_cnt]
    have HN := Lib.hid hn
    clear hn
    obtain ⟨N, HNN⟩ : ∃ N, Hid ((highs l js).length = N) := ⟨_, rfl⟩
    rw [HNN.out] at HN
    rw [HNN.out]
    go_wp2
    go_loopw [6, 7] (fun u i wr => ∃ k : Nat, k ≤ js.length ∧ i = .int .i64 k ∧ u = .int .i64 (cntP (highP l js) k) ∧ Bw w1 wr) (fun _ i _ => js.length - (intOf i).toNat)
    case atStart => exact ⟨0, Nat.zero_le _, rfl, rfl, h15⟩
    case round =>
      obtain ⟨k, hk, rfl, rfl, hbw⟩ := hrel
      by_cases hlt : k < js.length
      · obtain ⟨⟨x0, x1, x2⟩, b, off, hxk, hao, hbs, c0, c1, c2⟩ := HK.out.get hbw hlt
        obtain ⟨q, T, eq, hT, hql, hTok, _, hx0, hx1, _⟩ := job_task (jobs_in HG.out hxk)
        dsimp only at c0 c1 c2 eq hx0 hx1
        obtain ⟨T2, b3, off3, hTk, hbo3, hbs3, t0, _, _, t3, _⟩ := HT.out.get hbw hql
        have hTT : T2 = T := by rw [hT] at hTk; simpa using hTk.symm
        subst hTT
        subst hbo3
        subst eq
        subst hao
        have hst : cntP (highP l js) (k + 1) = cntP (highP l js) k + if T2.low < x2 then 1 else 0 := by simp [cntP, highP_at hxk hT]
        obtain ⟨C, hC⟩ : ∃ C, cntP (highP l js) k = C := ⟨_, rfl⟩
        have hCk : C ≤ k := hC ▸ cntP_le _ _
        rw [hC] at hst
        rw [hC]
        have HST := Lib.hid hst
        clear hst
        have h6 := H60.out
        have HXK := Lib.hid hxk
        have HT := Lib.hid hT
        have HTK := Lib.hid hTk
        have HTOK := Lib.hid hTok
        have HC := Lib.hid hC
        clear hxk hT hTk hTok hC
        by_cases hq : T2.low < x2
        · have h1 : cntP (highP l js) (k + 1) = C + 1 := by rw [HST.out, if_pos hq]
          have H1 := Lib.hid h1
          clear h1
          go_wp2_with fail
          go_quiet (fail)
          go_wp2
          go_roundw
          case rel => exact ⟨k + 1, by omega, by go_num, by rw [H1.out]; go_num, blw_drewN hbw _⟩
          case measure => simp [intOf]; omega
        · have h1 : cntP (highP l js) (k + 1) = C := by rw [HST.out, if_neg hq]; rfl
          have hq' : decide (T2.low < x2) = false := decide_eq_false hq
          have H1 := Lib.hid h1
          have HQ := Lib.hid hq
          clear h1 hq
          go_wp2_with fail
          go_quiet (fail)
          go_wp2
          go_roundw
          case rel => exact ⟨k + 1, by omega, by go_num, by rw [H1.out], blw_drewN hbw _⟩
          case measure => simp [intOf]; omega
      · have hkl : k = js.length := by omega
        subst hkl
        have hcn : ((cntP (highP l js) js.length : Int) == (N : Int)) = true := by simp [HN.out]
        go_wp2
        go_ret
        exact ⟨rfl, bw_trans hb1 hbw⟩

set_option maxRecDepth 100000 in
set_option maxHeartbeats 3200000 in
theorem law_FnHighJobs (v : Value) (w : World) (hv : RawB w v) : Calls Try.prog 11 #[v] w fun e w' => e = .returned (.bool true) ∧ Bw w w' := by
  have HV := Lib.hid hv
  obtain ⟨⟨bo, n, cc, rfl, hc, hm, _⟩⟩ := hv
  unfold maxLen at hm
  by_cases hn : 1048576 < n
  · go_enter Try.func11, Try.ntmps11
    go_wp2
    go_ret
    exact ⟨rfl, Bw.refl _⟩
  have hnd : decide (1048576 < (n : Int)) = false := decide_eq_false (by omega)
  go_enter Try.func11, Try.ntmps11
  go_wp2_with fail
  refine (DrawHighJobs_any HV.out (Bw.refl _)).mono ?_
  clear hnd
  rintro e w1 ⟨ao, c, l, bj, d, js, rfl, ⟨hown, hl6, _, hjow, hj61, _, hb1⟩⟩
  have hl : l.length ≤ 1048576 := by omega
  have hj : js.length ≤ 1048576 := by omega
  have HS := Lib.hid (st_row hown hl)
  have HJ := Lib.hid (sj_row hjow hj)
  have HT := Lib.hid (Own.ofRow hown).rt
  have HK := Lib.hid (Own.ofRow hjow).rj
  clear hown
  go_wp2_with fail
  refine (highs_impl HS.out HJ.out).mono ?_
  rintro e w2 ⟨ah, ch, rfl, hh, hb2⟩
  go_wp2_with fail
  refine (highs_spec (HS.out.bw hb2) (HJ.out.bw hb2)).mono ?_
  rintro e w3 ⟨ak, ck, rfl, hk, hb3⟩
  have HH := Lib.hid hh
  have HHK := Lib.hid hk
  have hlh : (highs l js).length ≤ 1048576 := Nat.le_trans (highs_len _ _) (by omega)
  go_wp2_with fail
  refine (dmInts_any _ _ _ _ _ _ _ (HH.out.bw hb3).ri HHK.out.ri hlh hlh).mono ?_
  rw [decide_eq_true rfl]
  rintro e w4 ⟨rfl, hb4⟩
  have h14 := bw_trans (bw_trans hb2 hb3) hb4
  have hw4 := bw_trans hb1 h14
  clear hh hk
  go_wp2_with fail
  refine (jobsvalid_impl (HS.out.bw h14) (HJ.out.bw h14)).mono ?_
  obtain ⟨g, HG⟩ : ∃ g, Hid (jobsOk l js = g) := ⟨_, rfl⟩
  rw [HG.out]
  rintro e w5 ⟨rfl, hb5⟩
  have h15 := bw_trans h14 hb5
  have hw5 := bw_trans hb1 h15
  go_wp2_with fail
  refine (jobsvalid_spec (HS.out.bw h15) (HJ.out.bw h15)).mono ?_
  rw [HG.out]
  rintro e w6 ⟨rfl, hb6⟩
  have h16 := bw_trans h15 hb6
  have hsj : ∀ (k : Nat) (x : Int), (highs l js)[k]? = some x → g = true ∧ ∃ q : Nat, x = q ∧ q < js.length ∧ highP l js q = true := by
    intro k x hx
    unfold highs at hx
    rw [HG.out] at hx
    cases g with
    | false => simp at hx
    | true =>
      obtain ⟨q, h1, _, h3, h4⟩ := pickFrom_mem _ _ _ x (List.mem_of_getElem? (by simpa using hx))
      exact ⟨rfl, q, h1, by omega, h4⟩
  have hso : (highs l js).Pairwise (· < ·) := by
    unfold highs
    split
    · exact pickFrom_sorted _ _ _
    · exact List.Pairwise.nil
  have hempty : g = false → highs l js = [] := fun h => by rw [highs, HG.out, h]; rfl
  have HR := Lib.hid (HH.out.bw (bw_trans (bw_trans (bw_trans hb3 hb4) hb5) hb6)).ri
  have HE := Lib.hid hempty
  have HSJ := Lib.hid hsj
  have HSO := Lib.hid hso
  clear hempty hsj hso
  obtain ⟨L, HL⟩ : ∃ L, Hid (highs l js = L) := ⟨_, rfl⟩
  rw [HL.out] at HR HE HSJ HSO hlh
  rw [HL.out]
  have tidy : ∀ x : Bool, (x != x) = false := fun x => by cases x <;> rfl
  go_wp2
  go_loopw [6] (fun i wr => ∃ k : Nat, k ≤ L.length ∧ i = .int .i64 k ∧ Bw w6 wr) (fun i _ => L.length - (intOf i).toNat)
  case atStart => exact ⟨0, Nat.zero_le _, rfl, Bw.refl _⟩
  case round =>
    obtain ⟨k, hk, rfl, hbw⟩ := hrel
    by_cases hlt : k < L.length
    · obtain ⟨x, b0, off0, hxk, hao0, hbs0, cx⟩ := HR.out.get hbw hlt
      obtain ⟨hg, q, rfl, hqj, hhp⟩ := HSJ.out k x hxk
      subst hg
      subst hao0
      obtain ⟨⟨x0, x1, x2⟩, b, off, hjk, hao, hbs, c0, c1, c2⟩ := HK.out.get (bw_trans h16 hbw) hqj
      obtain ⟨q2, T, eq, hT, hql, hTok, hhi, hx0, hx1, _⟩ := job_task (jobs_in HG.out hjk)
      dsimp only at c0 c1 c2 eq hx0 hx1 hhi
      obtain ⟨T2, b3, off3, hTk, hbo3, hbs3, t0, _, _, t3, t4⟩ := HT.out.get (bw_trans h16 hbw) hql
      have hTT : T2 = T := by rw [hT] at hTk; simpa using hTk.symm
      subst hTT
      subst hbo3
      subst eq
      subst hao
      rw [highP_at hjk hT] at hhp
      have hlow : T2.low < x2 := of_decide_eq_true hhp
      have hok := (Tk.ok_iff _).1 hTok
      have hcr : T2.crit = true := by
        rcases hok.2.2.2.2.2 with h | h
        · exact h
        · omega
      rw [hcr] at t4
      have hnl : decide (x2 ≤ T2.low) = false := decide_eq_false (by omega)
      rcases Nat.eq_zero_or_pos k with h0 | h0
      · subst h0
        have hlt0 : decide ((0 : Int) < 0) = false := by simp
        simp only [Nat.add_zero] at cx
        have HOK := Lib.hid hok
        have HJK := Lib.hid hjk
        have HT := Lib.hid hT
        have HTK := Lib.hid hTk
        have HTOK := Lib.hid hTok
        have HCR := Lib.hid hcr
        have HXK := Lib.hid hxk
        have HLOW := Lib.hid hlow
        have HHP := Lib.hid hhp
        have HHI := Lib.hid hhi
        clear hok hjk hT hTk hTok hcr hxk hlow hhp hhi
        go_wp2_with fail
        go_quiet (fail)
        go_wp2
        go_roundw
        case rel => exact ⟨1, by omega, by go_num, blw_drewN (bw_trans hbw (bw_alloc _ _)) _⟩
        case measure => simp [intOf]; omega
      · obtain ⟨k, rfl⟩ : ∃ m, k = m + 1 := ⟨k - 1, by omega⟩
        obtain ⟨y, b4, off4, hyk, hao4, hbs4, cy⟩ := HR.out.get hbw (show k < L.length by omega)
        simp only [Option.some.injEq, Addr.mk.injEq, and_true] at hao4
        obtain ⟨rfl, rfl⟩ := hao4
        obtain ⟨e1, f1⟩ := List.getElem?_eq_some_iff.1 hxk
        obtain ⟨e2, f2⟩ := List.getElem?_eq_some_iff.1 hyk
        have hlt2 := List.pairwise_iff_getElem.1 HSO.out k (k + 1) e2 e1 (by omega)
        rw [f1, f2] at hlt2
        have hlb : decide ((q : Int) ≤ y) = false := decide_eq_false (by omega)
        have hpos : (0 : Int) < (k : Int) + 1 := by omega
        clear f1 f2
        clear e1 e2
        have HOK := Lib.hid hok
        have HJK := Lib.hid hjk
        have HT := Lib.hid hT
        have HTK := Lib.hid hTk
        have HTOK := Lib.hid hTok
        have HCR := Lib.hid hcr
        have HXK := Lib.hid hxk
        have HYK := Lib.hid hyk
        have HLOW := Lib.hid hlow
        have HHP := Lib.hid hhp
        have HHI := Lib.hid hhi
        have HLT2 := Lib.hid hlt2
        clear hok hjk hT hTk hTok hcr hxk hyk hlow hhp hhi hlt2
        go_wp2_with fail
        go_quiet (fail)
        go_wp2
        go_roundw
        case rel => exact ⟨k + 2, by omega, by go_num, blw_drewN (bw_trans hbw (bw_alloc _ _)) _⟩
        case measure => simp [intOf]; omega
    · rcases Nat.eq_zero_or_pos L.length with h0 | h0
      · have hl0 : ((L.length : Int) == 0) = true := beq_iff_eq.2 (by omega)
        have H0 := Lib.hid h0
        clear h0
        go_wp2
        go_ret
        exact ⟨rfl, bw_trans hb1 (bw_trans h16 hbw)⟩
      · have hl0 : ((L.length : Int) == 0) = false := beq_eq_false_iff_ne.2 (by omega)
        have hgt : g = true := by
          cases g with
          | true => rfl
          | false => rw [HE.out rfl] at h0; simp at h0
        subst hgt
        have H0 := Lib.hid h0
        clear h0
        go_wp2_with fail
        refine (jobsvalid_impl (HS.out.bw (bw_trans h16 hbw)) (HJ.out.bw (bw_trans h16 hbw))).mono ?_
        rw [HG.out]
        rintro e w7 ⟨rfl, hb7⟩
        go_wp2
        go_ret
        exact ⟨rfl, bw_trans hb1 (bw_trans (bw_trans h16 hbw) hb7)⟩
end Go.Proofs.Ytihegjjhcfoapaa
