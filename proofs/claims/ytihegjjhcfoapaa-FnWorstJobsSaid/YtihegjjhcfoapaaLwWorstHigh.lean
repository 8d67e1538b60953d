/-
  The walk of the law FnWorstHigh.
-/
import Derived.Test.YtihegjjhcfoapaaDrA
import Derived.Test.YtihegjjhcfoapaaDm
import Derived.Test.YtihegjjhcfoapaaPlW
import Derived.Test.YtihegjjhcfoapaaWorstS
namespace Go.Proofs.Ytihegjjhcfoapaa
open Go.RowKit

set_option maxHeartbeats 400000 in
theorem worst_implR {w : World} {v : Value} {l : List Tk} (hl : ST w v l) (u : Int) (hi : Bool) : Calls Try.prog 21 #[v, .int .i64 u, .bool hi] w (RetP w 38 3 (jbs (worst l u hi).1) (worst l u hi).1.length (worst l u hi).2) := by
  obtain ⟨⟨ao, c, rfl, hr, _⟩, hn⟩ := hl
  cases hi
  · exact WorstJobs_impl_false ao c w l u hn hr
  · exact WorstJobs_impl_true ao c w l u hn hr
theorem worst_specR {w : World} {v : Value} {l : List Tk} (hl : ST w v l) (u : Int) (hi : Bool) : Calls Try.prog 22 #[v, .int .i64 u, .bool hi] w (RetP w 38 3 (jbs (worst l u hi).1) (worst l u hi).1.length (worst l u hi).2) := by
  obtain ⟨⟨ao, c, rfl, hr, _⟩, hn⟩ := hl
  cases hi
  · exact WorstJobs_spec_false ao c w l u hn hr
  · exact WorstJobs_spec_true ao c w l u hn hr

set_option maxRecDepth 100000 in
set_option maxHeartbeats 3200000 in
theorem law_FnWorstHigh (v : Value) (w : World) (hv : RawB w v) : Calls Try.prog 4 #[v] w fun e w' => e = .returned (.bool true) ∧ Bw w w' := by
  have HV := Lib.hid hv
  obtain ⟨⟨bo, n, cc, rfl, hc, hm, _⟩⟩ := hv
  unfold maxLen at hm
  by_cases hn : 1048576 < n
  · go_enter Try.func4, Try.ntmps4
    go_wp2
    go_ret
    exact ⟨rfl, Bw.refl _⟩
  have hnd : decide (1048576 < (n : Int)) = false := decide_eq_false (by omega)
  go_enter Try.func4, Try.ntmps4
  go_wp2_with fail
  refine (DrawWorstJobs_any HV.out (Bw.refl _)).mono ?_
  clear hnd
  rintro e w1 ⟨ao, c, l, t, h, rfl, ⟨hown, hl6, _, hb1⟩, _⟩
  have hl : l.length ≤ 1048576 := by omega
  have HS := Lib.hid (st_row hown hl)
  clear hown
  go_wp2_with fail
  refine (worst_implR HS.out t h).mono ?_
  rintro e w2 ⟨ax, cx, rfl, hx, hb2⟩
  have hlx : (worst l t h).1.length ≤ 1048576 := Nat.le_trans (worst_len _ _ _) (by omega)
  have HX := Lib.hid hx
  clear hx
  go_wp2_with fail
  refine (worst_specR (HS.out.bw hb2) t h).mono ?_
  rintro e w3 ⟨aw, cw, rfl, hw, hb3⟩
  have HW := Lib.hid (Own.ofRow hw)
  clear hw
  go_wp2_with fail
  refine (dmJobs_any _ _ _ _ _ _ _ (Own.ofRow (row_bw HX.out hb3)).rj HW.out.rj hlx hlx).mono ?_
  rw [decide_eq_true rfl]
  rintro e w4 ⟨rfl, hb4⟩
  obtain ⟨o, HQ⟩ : ∃ o, Hid ((worst l t h).2 = o) := ⟨_, rfl⟩
  rw [HQ.out]
  have hw4 := bw_trans (bw_trans (bw_trans hb1 hb2) hb3) hb4
  have h14 := bw_trans (bw_trans hb2 hb3) hb4
  cases o with
  | false =>
    go_wp2_with fail
    refine (dmJobs_any _ _ _ _ _ _ _ (Own.ofRow (row_bw HX.out (bw_trans hb3 hb4))).rj (HW.out.bw hb4).rj hlx hlx).mono ?_
    rw [decide_eq_true rfl]
    rintro e w5 ⟨rfl, hb5⟩
    go_wp2
    go_ret
    exact ⟨rfl, bw_trans hw4 hb5⟩
  | true =>
    obtain ⟨hp, hq, hrel, hno⟩ := worst_both HQ.out
    go_wp2_with fail
    refine (worst_implR (HS.out.bw h14) t false).mono ?_
    rw [hp]
    rintro e w5 ⟨aa, ca, rfl, ha, hb5⟩
    go_wp2_with fail
    refine (worst_implR (HS.out.bw (bw_trans h14 hb5)) t true).mono ?_
    rw [hq]
    rintro e w6 ⟨ab, cb, rfl, hb, hb6⟩
    have hla := worst_len l t false
    have hlab := hrel.len
    have HA := Lib.hid (row_bw ha hb6)
    have HB := Lib.hid hb
    obtain ⟨A, eA⟩ : ∃ A, (worst l t false).1 = A := ⟨_, rfl⟩
    obtain ⟨B, eB⟩ : ∃ B, (worst l t true).1 = B := ⟨_, rfl⟩
    rw [eA] at hrel hla hlab HA hno
    rw [eB] at hrel hlab HB
    rw [eA, eB]
    have hA : A.length ≤ 1048576 := by omega
    have hw6 := bw_trans (bw_trans hw4 hb5) hb6
    have h16 := bw_trans (bw_trans h14 hb5) hb6
    have HRA := Lib.hid (Own.ofRow HA.out).rj
    have HRB := Lib.hid (Own.ofRow HB.out).rj
    have HREL := Lib.hid hrel
    have hab : ((A.length : Int) == (B.length : Int)) = true := by simp; omega
    clear ha hb eA eB hp hq hrel
    have HLAB := Lib.hid hlab
    clear hlab
    go_wp2
    go_loopw [14] (fun i wr => ∃ k : Nat, k ≤ A.length ∧ i = .int .i64 k ∧ Bw w6 wr) (fun i _ => A.length - (intOf i).toNat)
    case atStart => exact ⟨0, Nat.zero_le _, rfl, Bw.refl _⟩
    case round =>
      obtain ⟨k, hk, rfl, hbw⟩ := hrel
      by_cases hlt : k < A.length
      · have hltb : k < B.length := by have := HLAB.out; omega
        obtain ⟨⟨x0, x1, x2⟩, b, off, hxk, hao, hbs, c0, c1, c2⟩ := HRA.out.get hbw hlt
        obtain ⟨⟨y0, y1, y2⟩, b2, off2, hyk, hbo, hbs2, d0, d1, d2⟩ := HRB.out.get hbw hltb
        obtain ⟨r0, r1, r2⟩ := HREL.out.get hxk hyk
        dsimp only at *
        have hne : decide (y2 < x2) = false := decide_eq_false (by omega)
        have hn0 : (x0 != y0) = false := by simp [r0]
        have hn1 : (x1 != y1) = false := by simp [r1]
        have HXK := Lib.hid hxk
        have HYK := Lib.hid hyk
        have R0 := Lib.hid r0
        have R1 := Lib.hid r1
        have R2 := Lib.hid r2
        clear hxk hyk r0 r1 r2
        subst hao; subst hbo
        go_wp2_with fail
        go_quiet (fail)
        go_wp2
        go_roundw
        case rel => exact ⟨k + 1, by omega, by go_num, blw_drewN hbw _⟩
        case measure => simp [intOf]; omega
      · go_wp2_with fail
        refine (highs_impl (HS.out.bw (bw_trans h16 hbw)) (sj_row (row_bw HA.out hbw) hA)).mono ?_
        rw [hno]
        rintro e w7 ⟨ah, ch, rfl, hh, hb7⟩
        go_wp2
        go_ret
        exact ⟨rfl, bw_trans (bw_trans hw6 hbw) hb7⟩
end Go.Proofs.Ytihegjjhcfoapaa
