/-
  The walk of the law FnRaiseShare.
-/
import Derived.Test.YtbgfclcnddgboaaLwRaiseAll
import Derived.Test.YtbgfclcnddgboaaCmp
import Derived.Test.YtbgfclcnddgboaaEdfU


namespace Go.Proofs.Ytbgfclcnddgboaa
open Go.RowKit

theorem util_raise {l : List Tk} {d : Int} (hl : setOk l = true) (_hx : setOk (l.map (upT d)) = true) (hd : 0 ≤ d) (crit high : Bool) : prodE (l.map (upT d)) = prodE l ∧ util l crit high ≤ util (l.map (upT d)) crit high := by
  have hp : ∀ l : List Tk, prodE (l.map (upT d)) = prodE l := by
    intro l
    induction l with
    | nil => rfl
    | cons t l ih => simp only [List.map_cons, prodE, ih]; rfl
  refine ⟨hp l, ?_⟩
  unfold util
  rw [hp l]
  generalize prodE l = N
  have : ∀ l : List Tk, (∀ t ∈ l, t.ok = true) → utilF (needF crit high) N l ≤ utilF (needF crit high) N (l.map (upT d)) := by
    intro l
    induction l with
    | nil => intro _; exact Nat.le_refl _
    | cons t l ih =>
      intro h
      have h1 := ih fun u hu => h u (by simp [hu])
      have hk := (Tk.ok_iff t).1 (h t (by simp))
      simp only [utilF, List.map_cons]
      refine Nat.add_le_add ?_ h1
      by_cases hc : t.crit = crit
      · have e1 : needF crit high t = some (if high then t.high.toNat else t.low.toNat) := by simp [needF, hc]
        have e2 : needF crit high (upT d t) = some (if high then (t.high + d).toNat else (t.low + d).toNat) := by simp [needF, upT, hc]
        rw [e1, e2]
        dsimp only
        exact Nat.mul_le_mul_right _ (by split <;> omega)
      · have e1 : needF crit high t = none := by simp [needF, hc]
        have e2 : needF crit high (upT d t) = none := by simp [needF, upT, hc]
        rw [e1, e2]; exact Nat.le_refl _
  exact this l (setOk_all hl)
theorem share_raise {l : List Tk} {d : Int} (hl : setOk l = true) (hx : setOk (l.map (upT d)) = true) (hd : 0 ≤ d) (crit high : Bool) : (share l crit high).p * (share (l.map (upT d)) crit high).q ≤ (share (l.map (upT d)) crit high).p * (share l crit high).q := by
  obtain ⟨q1, e1⟩ := share_util hl crit high
  obtain ⟨q2, e2⟩ := share_util hx crit high
  obtain ⟨hp, hu⟩ := util_raise hl hx hd crit high
  rw [hp] at e2
  have hN := prodE_pos (setOk_all hl)
  generalize share l crit high = a at *
  generalize share (l.map (upT d)) crit high = b at *
  generalize util l crit high = U at *
  generalize util (l.map (upT d)) crit high = V at *
  generalize prodE l = N at *
  refine Nat.le_of_mul_le_mul_right ?_ hN
  calc a.p * b.q * N = (a.p * N) * b.q := by ac_rfl
    _ = a.q * b.q * U := by rw [e1]; ac_rfl
    _ ≤ a.q * b.q * V := Nat.mul_le_mul_left _ hu
    _ = (b.p * N) * a.q := by rw [e2]; ac_rfl
    _ = b.p * a.q * N := by ac_rfl
theorem share_small {l : List Tk} (h : setOk l = true) (crit high : Bool) : Good (share l crit high) ∧ (share l crit high).p ≤ 100000000 ∧ (share l crit high).q ≤ 100000000 := by
  obtain ⟨h1, h2, h3⟩ := share_bd h crit high
  have h4 := share_both h high high
  have h5 := share_bd h false high
  have h6 := share_bd h true high
  have hq : (share l crit high).q ≤ 3200000 := by
    cases crit
    · exact Nat.le_trans (Nat.le_mul_of_pos_right _ h6.1.1) h4
    · exact Nat.le_trans (Nat.le_mul_of_pos_left _ h5.1.1) h4
  exact ⟨h1, by omega, by omega⟩

set_option maxRecDepth 100000 in
set_option maxHeartbeats 3200000 in
theorem law_FnRaiseShare (v : Value) (w : World) (hv : RawB w v) : Calls Try.prog 4 #[v] w fun e w' => e = .returned (.bool true) ∧ Bw w w' := by
  have HV := Lib.hid hv
  obtain ⟨⟨bo, n, cc, rfl, hc, hm, _⟩⟩ := hv
  unfold maxLen at hm
  by_cases hn : 1048576 < n
  · go_enter Try.func4, Try.ntmps4
    go_wp2
    go_ret
    exact ⟨rfl, Bw.refl _⟩
  · have hnd : decide (1048576 < (n : Int)) = false := decide_eq_false (by omega)
    go_enter Try.func4, Try.ntmps4
    go_wp2_with fail
    refine (DrawRaiseAll_any HV.out (Bw.refl _)).mono ?_
    clear hnd
    rintro e w1 ⟨ao, c, l, t, rfl, ⟨hown, hl6, _, hb1⟩, _⟩
    have hl : l.length ≤ 1048576 := by omega
    have HS := Lib.hid (st_row hown hl)
    clear hown
    go_wp2_with fail
    refine (raise_implR HS.out t).mono ?_
    rintro e w2 ⟨ax, cx, rfl, hx, hb2⟩
    have hlx : (raiseT l t).1.length ≤ 1048576 := Nat.le_trans (raiseT_len _ _) (by omega)
    have HSTX := Lib.hid (st_row hx hlx)
    have HOX := Lib.hid (Own.ofRow hx)
    clear hx
    go_wp2_with fail
    refine (raise_specR (HS.out.bw hb2) t).mono ?_
    rintro e w3 ⟨aw, cw, rfl, hw, hb3⟩
    have HW := Lib.hid (Own.ofRow hw)
    clear hw
    go_wp2_with fail
    refine (dmTasks_any _ _ _ _ _ _ _ (HOX.out.bw hb3).rt HW.out.rt hlx hlx).mono ?_
    rw [decide_eq_true rfl]
    rintro e w4 ⟨rfl, hb4⟩
    obtain ⟨o, HQ⟩ : ∃ o, Hid ((raiseT l t).2 = o) := ⟨_, rfl⟩
    rw [HQ.out]
    have hw4 := bw_trans (bw_trans (bw_trans hb1 hb2) hb3) hb4
    have h14 := bw_trans (bw_trans hb2 hb3) hb4
    have h24 := bw_trans hb3 hb4
    by_cases hno : o = false ∨ t < 0
    · rcases hno with rfl | ht
      · go_wp2_with fail
        refine (dmTasks_any _ _ _ _ _ _ _ (HOX.out.bw h24).rt (HW.out.bw hb4).rt hlx hlx).mono ?_
        rw [decide_eq_true rfl]
        rintro e w5 ⟨rfl, hb5⟩
        go_wp2
        go_ret
        exact ⟨rfl, bw_trans hw4 hb5⟩
      · have d0 : decide (t < 0) = true := decide_eq_true ht
        cases o
        all_goals
          go_wp2_with fail
          refine (dmTasks_any _ _ _ _ _ _ _ (HOX.out.bw h24).rt (HW.out.bw hb4).rt hlx hlx).mono ?_
          rw [decide_eq_true rfl]
          rintro e w5 ⟨rfl, hb5⟩
          go_wp2
          go_ret
          exact ⟨rfl, bw_trans hw4 hb5⟩
    · obtain ⟨ho, ht⟩ : o = true ∧ ¬ t < 0 := ⟨by cases o <;> simp_all, fun h => hno (.inr h)⟩
      subst ho
      have d0 : decide (t < 0) = false := decide_eq_false ht
      obtain ⟨hy, hso, hsx, hd0, hd1, hback⟩ := raise_back HQ.out
      obtain ⟨X, hX⟩ : ∃ X, (raiseT l t).1 = X := ⟨_, rfl⟩
      have hXe : X = l.map (upT t) := by rw [← hX, hy]
      rw [hX] at hlx
      rw [hX] at HSTX HOX
      have HCM : Hid (∀ crit high, (share l crit high).p * (share X crit high).q ≤ (share X crit high).p * (share l crit high).q) := by rw [hXe]; exact share_raise hso hsx (by omega)
      have HSETX : Hid (setOk X = true) := by rw [hXe]; exact hsx
      have HSL := Lib.hid hso
      rw [hX]
      have HY := Lib.hid hy
      have HSO := Lib.hid hso
      have HSX := Lib.hid hsx
      have HBACK := Lib.hid hback
      have HX := Lib.hid hX
      have HXE := Lib.hid hXe
      have HNO := Lib.hid hno
      clear hy hso hsx hback hX hXe hno
      clear HW
      obtain ⟨⟨a2, c2, e2, hrt, _⟩, _⟩ := HSTX.out
      have HRX := Lib.hid hrt
      simp only [Value.slice.injEq] at e2
      obtain ⟨rfl, _, rfl⟩ := e2
      obtain ⟨⟨a3, c3, e3, hrt3, _⟩, _⟩ := HS.out
      have HRL := Lib.hid hrt3
      simp only [Value.slice.injEq] at e3
      obtain ⟨rfl, _, rfl⟩ := e3
      clear hrt hrt3
      go_wp2_with fail
      refine (HighShare_impl_true _ _ _ l hl (HRL.out.bw h14) HSL.out).mono ?_
      rintro e w5 ⟨rfl, hb5⟩
      go_wp2_with fail
      refine (HighShare_impl_true _ _ _ X hlx (HRX.out.bw (bw_trans h24 hb5)) HSETX.out).mono ?_
      rintro e w6 ⟨rfl, hb6⟩
      go_wp2_with fail
      refine (CompareShares_le _ _ _ (share_small HSL.out _ _).1 (share_small HSETX.out _ _).1 (share_small HSL.out _ _).2.1 (share_small HSL.out _ _).2.2 (share_small HSETX.out _ _).2.1 (share_small HSETX.out _ _).2.2 (HCM.out _ _)).mono ?_
      rintro e w7 ⟨n1, hn1, rfl, hb7⟩
      have d1 : decide (n1 ≤ 0) = true := decide_eq_true hn1
      have h47 := bw_trans (bw_trans hb5 hb6) hb7
      have h17 := bw_trans h14 h47
      have h27 := bw_trans h24 h47
      go_wp2_with fail
      refine (LowShare_impl_true _ _ _ l hl (HRL.out.bw h17) HSL.out).mono ?_
      rintro e w8 ⟨rfl, hb8⟩
      go_wp2_with fail
      refine (LowShare_impl_true _ _ _ X hlx (HRX.out.bw (bw_trans h27 hb8)) HSETX.out).mono ?_
      rintro e w9 ⟨rfl, hb9⟩
      go_wp2_with fail
      refine (CompareShares_le _ _ _ (share_small HSL.out _ _).1 (share_small HSETX.out _ _).1 (share_small HSL.out _ _).2.1 (share_small HSL.out _ _).2.2 (share_small HSETX.out _ _).2.1 (share_small HSETX.out _ _).2.2 (HCM.out _ _)).mono ?_
      rintro e wa ⟨n2, hn2, rfl, hba⟩
      have d2 : decide (n2 ≤ 0) = true := decide_eq_true hn2
      go_wp2
      go_ret
      exact ⟨rfl, bw_trans (bw_trans hw4 h47) (bw_trans (bw_trans hb8 hb9) hba)⟩
end Go.Proofs.Ytbgfclcnddgboaa
