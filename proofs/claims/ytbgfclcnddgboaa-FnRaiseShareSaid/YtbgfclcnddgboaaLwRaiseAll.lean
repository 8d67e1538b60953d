/-
  The walk of the law FnRaiseAll.
-/
import Derived.Test.YtbgfclcnddgboaaGD
import Derived.Test.YtbgfclcnddgboaaDm
import Derived.Test.YtbgfclcnddgboaaRaise
import Derived.Test.YtbgfclcnddgboaaRsv



namespace Go.Proofs.Ytbgfclcnddgboaa
open Go.RowKit

theorem up_back (d : Int) (t : Tk) : upT (-d) (upT d t) = t := by simp [upT]; cases t; simp; omega
theorem raise_back {l : List Tk} {d : Int} (h : (raiseT l d).2 = true) : raiseT l d = (l.map (upT d), true) ∧ setOk l = true ∧ setOk (l.map (upT d)) = true ∧ -20 ≤ d ∧ d ≤ 20 ∧ raiseT (l.map (upT d)) (-d) = (l, true) := by
  by_cases c : -20 ≤ d ∧ d ≤ 20 ∧ setOk l = true ∧ setOk (l.map (upT d)) = true
  · have e : (l.map (upT d)).map (upT (-d)) = l := by
      rw [List.map_map]
      have : (upT (-d) ∘ upT d) = id := by funext t; exact up_back d t
      rw [this, List.map_id]
    refine ⟨raiseT_yes c, c.2.2.1, c.2.2.2, c.1, c.2.1, ?_⟩
    have := raiseT_yes (l := l.map (upT d)) (d := -d) ⟨by omega, by omega, c.2.2.2, by rw [e]; exact c.2.2.1⟩
    rw [e] at this; exact this
  · rw [raiseT_no c] at h; simp at h
theorem raise_lower {l : List Tk} {d : Int} (hd : 0 ≤ d) : Lower l (l.map (upT d)) := ⟨by simp, fun i T U hT hU => by
  rw [List.getElem?_map, hT] at hU
  simp at hU; subst hU
  simp [upT]; omega⟩

set_option maxRecDepth 100000 in
set_option maxHeartbeats 3200000 in
theorem law_FnRaiseAll (v : Value) (w : World) (hv : RawB w v) : Calls Try.prog 5 #[v] w fun e w' => e = .returned (.bool true) ∧ Bw w w' := by
  have HV := Lib.hid hv
  obtain ⟨⟨bo, n, cc, rfl, hc, hm, _⟩⟩ := hv
  unfold maxLen at hm
  by_cases hn : 1048576 < n
  · go_enter Try.func5, Try.ntmps5
    go_wp2
    go_ret
    exact ⟨rfl, Bw.refl _⟩
  · have hnd : decide (1048576 < (n : Int)) = false := decide_eq_false (by omega)
    go_enter Try.func5, Try.ntmps5
    go_wp2_with fail
    refine (DrawRaiseAll_any HV.out (Bw.refl _)).mono ?_
    clear hnd
    rintro e w1 ⟨ao, c, l, t, rfl, ⟨hown, hl6, _, hb1⟩, _⟩
    have hl : l.length ≤ 1048576 := by omega
    have HS := Lib.hid (st_row hown hl)
    have HO := Lib.hid (Own.ofRow hown)
    clear hown
    go_wp2_with fail
    refine (raise_implR HS.out t).mono ?_
    rintro e w2 ⟨ax, cx, rfl, hx, hb2⟩
    have hlx : (raiseT l t).1.length ≤ 1048576 := Nat.le_trans (raiseT_len _ _) (by omega)
    have HSTX := Lib.hid (st_row hx hlx)
    have HOX := Lib.hid (Own.ofRow hx)
    clear hx
    go_wp2_with fail
    refine (raise_specR (HS.out.bw hb2) t).mono ?_
    rintro e w3 ⟨aw, cw, rfl, hw, hb3⟩
    have HW := Lib.hid (Own.ofRow hw)
    clear hw
    go_wp2_with fail
    refine (dmTasks_any _ _ _ _ _ _ _ (HOX.out.bw hb3).rt HW.out.rt hlx hlx).mono ?_
    rw [decide_eq_true rfl]
    rintro e w4 ⟨rfl, hb4⟩
    obtain ⟨o, HQ⟩ : ∃ o, Hid ((raiseT l t).2 = o) := ⟨_, rfl⟩
    rw [HQ.out]
    have hw4 := bw_trans (bw_trans (bw_trans hb1 hb2) hb3) hb4
    have h14 := bw_trans (bw_trans hb2 hb3) hb4
    have h24 := bw_trans hb3 hb4
    cases o with
    | false =>
      go_wp2_with fail
      refine (dmTasks_any _ _ _ _ _ _ _ (HOX.out.bw h24).rt (HW.out.bw hb4).rt hlx hlx).mono ?_
      rw [decide_eq_true rfl]
      rintro e w5 ⟨rfl, hb5⟩
      go_wp2
      go_ret
      exact ⟨rfl, bw_trans hw4 hb5⟩
    | true =>
      obtain ⟨hy, hso, hsx, hd0, hd1, hback⟩ := raise_back HQ.out
      obtain ⟨X, hX⟩ : ∃ X, (raiseT l t).1 = X := ⟨_, rfl⟩
      have hXe : X = l.map (upT t) := by rw [← hX, hy]
      rw [hX] at hlx
      rw [hX] at HSTX HOX
      have HLW : Hid (0 ≤ t → Lower l X) := by rw [hXe]; exact raise_lower
      have HSETX : Hid (setOk X = true) := by rw [hXe]; exact hsx
      have HBK : Hid (raiseT X (-t) = (l, true)) := by rw [hXe]; exact hback
      have HSL := Lib.hid hso
      rw [hX]
      have hneg := IntWalk.i64_in (-t) (by omega)
      have hneg2 := IntWalk.i64_in (0 - t) (by omega)
      have hc := raise_implR (HSTX.out.bw h24) (-t)
      rw [HBK.out] at hc
      dsimp only at hc
      have HY := Lib.hid hy
      have HSO := Lib.hid hso
      have HSX := Lib.hid hsx
      have HBACK := Lib.hid hback
      have HX := Lib.hid hX
      have HXE := Lib.hid hXe
      have HC := Lib.hid hc
      clear hy hso hsx hback hX hXe hc
      clear HW
      go_wp2_with fail
      refine (HC.out).mono ?_
      rintro e w5 ⟨ay, cy, rfl, hyo, hb5⟩
      have HY := Lib.hid (Own.ofRow hyo)
      clear hyo hneg hneg2
      have h25 := bw_trans h24 hb5
      have h15 := bw_trans h14 hb5
      obtain ⟨⟨a2, c2, e2, hrt, _⟩, _⟩ := HSTX.out
      have HRX := Lib.hid hrt
      simp only [Value.slice.injEq] at e2
      obtain ⟨rfl, _, rfl⟩ := e2
      obtain ⟨⟨a3, c3, e3, hrt3, _⟩, _⟩ := HS.out
      have HRL := Lib.hid hrt3
      simp only [Value.slice.injEq] at e3
      obtain ⟨rfl, _, rfl⟩ := e3
      clear hrt hrt3
      go_wp2_with fail
      refine (impl.SetValid_walk _ _ _ X hlx (HRX.out.bw h25)).mono ?_
      rw [HSETX.out]
      rintro e w6 ⟨rfl, hb6⟩
      go_wp2_with fail
      refine (dmTasks_any _ _ _ _ _ _ _ (HY.out.bw hb6).rt (HRL.out.bw (bw_trans h15 hb6)) hl hl).mono ?_
      rw [decide_eq_true rfl]
      rintro e w7 ⟨rfl, hb7⟩
      have h27 := bw_trans (bw_trans h25 hb6) hb7
      have h17 := bw_trans (bw_trans h15 hb6) hb7
      have hw7 := bw_trans (bw_trans (bw_trans hw4 hb5) hb6) hb7
      by_cases ht : t < 0
      · have d0 : decide (t < 0) = true := decide_eq_true ht
        go_wp2
        go_ret
        exact ⟨rfl, hw7⟩
      · have d0 : decide (t < 0) = false := decide_eq_false ht
        go_wp2_with fail
        refine (both_implR (HSTX.out.bw h27)).mono ?_
        obtain ⟨q, HQX⟩ : ∃ q, Hid (holdsBothB X = q) := ⟨_, rfl⟩
        rw [HQX.out]
        rintro e w8 ⟨rfl, hb8⟩
        cases q with
        | false =>
          go_wp2
          go_ret
          exact ⟨rfl, bw_trans hw7 hb8⟩
        | true =>
          have hres := both_lower HSL.out (HLW.out (by omega)) HQX.out
          have hc := both_implR (HS.out.bw (bw_trans h17 hb8))
          rw [hres] at hc
          have HRES := Lib.hid hres
          have HC := Lib.hid hc
          clear hres hc
          go_wp2_with fail
          refine (HC.out).mono ?_
          rintro e w9 ⟨rfl, hb9⟩
          go_wp2
          go_ret
          exact ⟨rfl, bw_trans (bw_trans hw7 hb8) hb9⟩
end Go.Proofs.Ytbgfclcnddgboaa
