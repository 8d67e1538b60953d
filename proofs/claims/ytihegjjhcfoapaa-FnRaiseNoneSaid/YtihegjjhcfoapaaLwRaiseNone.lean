/-
  The walk of the law FnRaiseNone.
-/
import Derived.Test.YtihegjjhcfoapaaDrA
import Derived.Test.YtihegjjhcfoapaaDm
import Derived.Test.YtihegjjhcfoapaaRaise
namespace Go.Proofs.Ytihegjjhcfoapaa
open Go.RowKit

theorem up0 (t : Tk) : upT 0 t = t := by simp [upT]
theorem raise0 (l : List Tk) : raiseT l 0 = if setOk l = true then (l, true) else ([], false) := by
  have e : l.map (upT 0) = l := by rw [List.map_congr_left (fun t _ => up0 t)]; simp
  unfold raiseT
  rw [e]
  by_cases h : setOk l = true <;> simp [h]
theorem raise_off {l : List Tk} {t : Int} (h : setOk l = false) : raiseT l t = ([], false) := raiseT_no (by rw [h]; simp)

set_option maxRecDepth 100000 in
set_option maxHeartbeats 3200000 in
theorem law_FnRaiseNone (v : Value) (w : World) (hv : RawB w v) : Calls Try.prog 3 #[v] w fun e w' => e = .returned (.bool true) ∧ Bw w w' := by
  have HV := Lib.hid hv
  obtain ⟨⟨bo, n, cc, rfl, hc, hm, _⟩⟩ := hv
  unfold maxLen at hm
  by_cases hn : 1048576 < n
  · go_enter Try.func3, Try.ntmps3
    go_wp2
    go_ret
    exact ⟨rfl, Bw.refl _⟩
  · have hnd : decide (1048576 < (n : Int)) = false := decide_eq_false (by omega)
    go_enter Try.func3, Try.ntmps3
    go_wp2_with fail
    refine (DrawRaiseAll_any HV.out (Bw.refl _)).mono ?_
    clear hnd
    rintro e w1 ⟨ao, c, l, t, rfl, ⟨hown, hl6, _, hb1⟩, _⟩
    have hl : l.length ≤ 1048576 := by omega
    have HS := Lib.hid (st_row hown hl)
    have HO := Lib.hid (Own.ofRow hown)
    clear hown
    go_wp2_with fail
    refine (raise_implR HS.out t).mono ?_
    rintro e w2 ⟨ax, cx, rfl, hx, hb2⟩
    have HX := Lib.hid (Own.ofRow hx)
    have hlx : (raiseT l t).1.length ≤ 1048576 := Nat.le_trans (raiseT_len _ _) (by omega)
    clear hx
    go_wp2_with fail
    refine (raise_specR (HS.out.bw hb2) t).mono ?_
    rintro e w3 ⟨aw, cw, rfl, hw, hb3⟩
    have HW := Lib.hid (Own.ofRow hw)
    clear hw
    go_wp2_with fail
    refine (dmTasks_any _ _ _ _ _ _ _ (HX.out.bw hb3).rt HW.out.rt hlx hlx).mono ?_
    rw [decide_eq_true rfl]
    rintro e w4 ⟨rfl, hb4⟩
    obtain ⟨o, HQ⟩ : ∃ o, Hid ((raiseT l t).2 = o) := ⟨_, rfl⟩
    rw [HQ.out]
    have hw4 := bw_trans (bw_trans (bw_trans hb1 hb2) hb3) hb4
    have h14 := bw_trans (bw_trans hb2 hb3) hb4
    obtain ⟨g, HG⟩ : ∃ g, Hid (setOk l = g) := ⟨_, rfl⟩
    go_wp2_with fail
    refine (raise_implR (HS.out.bw h14) 0).mono ?_
    have HGO : Hid (g = false → o = false) := fun h => by rw [← HQ.out, raise_off (by rw [HG.out]; exact h)]
    cases g with
    | true =>
      rw [show raiseT l 0 = (l, true) by rw [raise0, if_pos HG.out]]
      rintro e w5 ⟨ay, cy, rfl, hy, hb5⟩
      have HY := Lib.hid (Own.ofRow hy)
      clear hy
      go_wp2_with fail
      obtain ⟨⟨a2, c2, e2, hrt, _⟩, _⟩ := HS.out
      have HRT := Lib.hid hrt
      simp only [Value.slice.injEq] at e2
      obtain ⟨rfl, _, rfl⟩ := e2
      clear hrt
      refine (impl.SetValid_walk _ _ _ l hl (HRT.out.bw (bw_trans h14 hb5))).mono ?_
      rw [HG.out]
      rintro e w6 ⟨rfl, hb6⟩
      go_wp2_with fail
      refine (dmTasks_any _ _ _ _ _ _ _ (HY.out.bw hb6).rt (HRT.out.bw (bw_trans (bw_trans h14 hb5) hb6)) hl hl).mono ?_
      rw [decide_eq_true rfl]
      rintro e w7 ⟨rfl, hb7⟩
      cases o
      all_goals
        go_wp2
        go_ret
        exact ⟨rfl, bw_trans (bw_trans (bw_trans hw4 hb5) hb6) hb7⟩
    | false =>
      obtain rfl := HGO.out rfl
      rw [raise_off HG.out]
      rintro e w5 ⟨ay, cy, rfl, hy, hb5⟩
      clear hy
      go_wp2_with fail
      obtain ⟨⟨a2, c2, e2, hrt, _⟩, _⟩ := HS.out
      have HRT := Lib.hid hrt
      simp only [Value.slice.injEq] at e2
      obtain ⟨rfl, _, rfl⟩ := e2
      clear hrt
      refine (impl.SetValid_walk _ _ _ l hl (HRT.out.bw (bw_trans h14 hb5))).mono ?_
      rw [HG.out]
      rintro e w6 ⟨rfl, hb6⟩
      go_wp2
      go_ret
      exact ⟨rfl, bw_trans (bw_trans hw4 hb5) hb6⟩
end Go.Proofs.Ytihegjjhcfoapaa
