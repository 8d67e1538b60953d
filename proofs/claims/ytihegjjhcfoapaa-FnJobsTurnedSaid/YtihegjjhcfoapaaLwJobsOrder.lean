/-
  The walk of the law FnJobsOrder.
-/
import Derived.Test.YtihegjjhcfoapaaDrB
import Derived.Test.YtihegjjhcfoapaaDm
import Derived.Test.YtihegjjhcfoapaaJv
import Derived.Test.YtihegjjhcfoapaaPlW
namespace Go.Proofs.Ytihegjjhcfoapaa
open Go.RowKit
theorem jobs_apart {l : List Tk} {js : List Jb} (h : jobsOk l js = true) {i k : Nat} {a b : Jb} (ha : js[i]? = some a) (hb : js[k]? = some b) (hik : i < k) : Apart l a b := by
  have hp := ((jobsOk_iff l js).1 h).2.2.2
  obtain ⟨h1, e1⟩ := List.getElem?_eq_some_iff.1 ha
  obtain ⟨h2, e2⟩ := List.getElem?_eq_some_iff.1 hb
  rw [← e1, ← e2]
  exact List.pairwise_iff_getElem.1 hp i k h1 h2 hik
theorem job_task {l : List Tk} {j : Jb} (h : jobIn l j = true) : ∃ (x : Nat) (t : Tk), j.task = x ∧ l[x]? = some t ∧ x < l.length ∧ t.ok = true ∧ j.need ≤ t.high ∧ 0 ≤ j.at_ ∧ j.at_ ≤ 200 ∧ 1 ≤ j.need := by
  obtain ⟨hso, ht0, htl, ha0, ha1, hn1, t, htk, hnh⟩ := jobIn_spec h
  exact ⟨j.task.toNat, t, by omega, htk, by omega, setOk_at hso htk, hnh, ha0, ha1, hn1⟩

set_option maxRecDepth 100000 in
set_option maxHeartbeats 3200000 in
theorem law_FnJobsOrder (v : Value) (w : World) (hv : RawB w v) : Calls Try.prog 5 #[v] w fun e w' => e = .returned (.bool true) ∧ Bw w w' := by
  have HV := Lib.hid hv
  obtain ⟨⟨bo, n, cc, rfl, hc, hm, _⟩⟩ := hv
  unfold maxLen at hm
  by_cases hn : 1048576 < n
  · go_enter Try.func5, Try.ntmps5
    go_wp2
    go_ret
    exact ⟨rfl, Bw.refl _⟩
  have hnd : decide (1048576 < (n : Int)) = false := decide_eq_false (by omega)
  go_enter Try.func5, Try.ntmps5
  go_wp2_with fail
  refine (DrawJobsValid_any HV.out (Bw.refl _)).mono ?_
  clear hnd
  rintro e w1 ⟨ao, c, l, bj, d, js, rfl, ⟨hown, hl6, _, hjow, hj61, _, hb1⟩⟩
  have hl : l.length ≤ 1048576 := by omega
  have hj : js.length ≤ 1048576 := by omega
  have HS := Lib.hid (st_row hown hl)
  have HJ := Lib.hid (sj_row hjow hj)
  have HT := Lib.hid (Own.ofRow hown).rt
  have HK := Lib.hid (Own.ofRow hjow).rj
  clear hown
  go_wp2_with fail
  refine (jobsvalid_impl HS.out HJ.out).mono ?_
  obtain ⟨g, HG⟩ : ∃ g, Hid (jobsOk l js = g) := ⟨_, rfl⟩
  rw [HG.out]
  rintro e w2 ⟨rfl, hb2⟩
  go_wp2_with fail
  refine (jobsvalid_spec (HS.out.bw hb2) (HJ.out.bw hb2)).mono ?_
  rw [HG.out]
  rintro e w3 ⟨rfl, hb3⟩
  have h13 := bw_trans hb2 hb3
  have hw3 := bw_trans hb1 h13
  cases g with
  | false =>
    go_wp2_with fail
    refine (jobsvalid_spec (HS.out.bw h13) (HJ.out.bw h13)).mono ?_
    rw [HG.out]
    rintro e w4 ⟨rfl, hb4⟩
    go_wp2
    go_ret
    exact ⟨rfl, bw_trans hw3 hb4⟩
  | true =>
    have H60 := Lib.hid (jobs_len HG.out)
    go_wp2
    go_loopw [6] (fun i wr => ∃ k : Nat, k ≤ js.length ∧ i = .int .i64 k ∧ Bw w1 wr) (fun i _ => js.length - (intOf i).toNat)
    case atStart => exact ⟨0, Nat.zero_le _, rfl, h13⟩
    case round =>
      obtain ⟨k, hk, rfl, hbw⟩ := hrel
      by_cases hlt : k < js.length
      · obtain ⟨wo, rfl⟩ : ∃ wo : World, wo = wr := ⟨_, rfl⟩
        go_wp2
        go_loopw [7] (fun i wi => ∃ m : Nat, k < m ∧ m ≤ js.length ∧ i = .int .i64 m ∧ Bw w1 wi) (fun i _ => js.length - (intOf i).toNat)
        case atStart => exact ⟨k + 1, by omega, by omega, by go_num, hbw⟩
        case round =>
          clear hbw
          obtain ⟨m, hkm, hm, rfl, hbw⟩ := hrel
          by_cases hmt : m < js.length
          · obtain ⟨⟨x0, x1, x2⟩, b, off, hxk, hao, hbs, c0, c1, c2⟩ := HK.out.get hbw hlt
            obtain ⟨⟨y0, y1, y2⟩, b2, off2, hyk, hbo, hbs2, d0, d1, d2⟩ := HK.out.get hbw hmt
            have hap := jobs_apart HG.out hxk hyk hkm
            obtain ⟨q, T, eq, hT, hql, hTok, _, hx0, hx1, _⟩ := job_task (jobs_in HG.out hxk)
            obtain ⟨q', T', eq', hT', hql', hTok', _, hy0, hy1, _⟩ := job_task (jobs_in HG.out hyk)
            dsimp only at c0 c1 c2 d0 d1 d2 eq eq' hx0 hx1 hy0 hy1
            have hlo : decide (y1 < x1) = false := by
              have h := hap.1
              simp only [Lt] at h
              exact decide_eq_false (by omega)
            subst hao
            simp only [Option.some.injEq, Addr.mk.injEq, and_true] at hbo
            obtain ⟨rfl, rfl⟩ := hbo
            obtain ⟨T2, b3, off3, hTk, hbo3, hbs3, _, _, _, t3, _⟩ := HT.out.get hbw hql
            have hTT : T2 = T := by rw [hT] at hTk; simpa using hTk.symm
            subst hTT
            subst hbo3
            subst eq
            subst eq'
            have hwr := IntWalk.i64_in (y1 - x1) (by omega)
            by_cases he : (q' : Int) = (q : Int)
            · have he' : ((q' : Int) == (q : Int)) = true := by simp [he]
              have hgap : decide (y1 - x1 < T2.every) = false := by
                have h := hap.2 he.symm
                have hev : evAt l ⟨(q' : Int), y1, y2⟩ = T2.every := by simp [evAt, he, hT]
                rw [hev] at h
                dsimp only at h
                exact decide_eq_false (by omega)
              have HE := Lib.hid he
              have HAP := Lib.hid hap
              have HXK := Lib.hid hxk
              have HYK := Lib.hid hyk
              have HT := Lib.hid hT
              have HTK := Lib.hid hTk
              have HTOK := Lib.hid hTok
              have HTOK' := Lib.hid hTok'
              have HT' := Lib.hid hT'
              clear he hap hxk hyk hT hTk hTok hTok' hT'
              go_wp2_with fail
              go_quiet (fail)
              go_wp2
              go_roundw
              case rel => exact ⟨m + 1, by omega, by omega, by go_num, blw_drewN hbw _⟩
              case measure => simp [intOf]; omega
            · have he' : ((q' : Int) == (q : Int)) = false := by simp [he]
              have HE := Lib.hid he
              have HAP := Lib.hid hap
              have HXK := Lib.hid hxk
              have HYK := Lib.hid hyk
              have HT := Lib.hid hT
              have HTK := Lib.hid hTk
              have HTOK := Lib.hid hTok
              have HTOK' := Lib.hid hTok'
              have HT' := Lib.hid hT'
              clear he hap hxk hyk hT hTk hTok hTok' hT'
              go_wp2_with fail
              go_quiet (fail)
              go_wp2
              go_roundw
              case rel => exact ⟨m + 1, by omega, by omega, by go_num, blw_drewN hbw _⟩
              case measure => simp [intOf]; omega
          · go_wp2
            go_roundw
            case rel => exact ⟨k + 1, by omega, by go_num, hbw⟩
            case measure => simp [intOf]; omega
      · go_wp2
        go_ret
        exact ⟨rfl, bw_trans hb1 hbw⟩
end Go.Proofs.Ytihegjjhcfoapaa
