/-
  The walks of the functions that compare slices of jobs and of tasks. Lengths at most 2^20.
-/
import Derived.Test.YtbgfclcnddgboaaToS
namespace Go.Proofs.Ytbgfclcnddgboaa
open Go.RowKit

def eqJ (a b : Jb) : Bool := decide (a = b)
def eqT (a b : Tk) : Bool := decide (a = b)
theorem eqJ_refl (a : Jb) : eqJ a a = true := by simp [eqJ]
theorem eqT_refl (a : Tk) : eqT a a = true := by simp [eqT]

set_option maxHeartbeats 800000 in
theorem eqJob_any (x y z x' y' z' : Int) (w : World) :
    Calls Try.prog 71 #[.agg #[.int .i64 x, .int .i64 y, .int .i64 z], .agg #[.int .i64 x', .int .i64 y', .int .i64 z']] w fun e w' => e = .returned (.bool (eqJ ⟨x, y, z⟩ ⟨x', y', z'⟩)) ∧ Bw w w' := by
  have h2 := bw_trans (bw_alloc w (.cells #[.int .i64 x, .int .i64 y, .int .i64 z] 26)) (bw_alloc _ (.cells #[.int .i64 x', .int .i64 y', .int .i64 z'] 26))
  have no : ¬ (x = x' ∧ y = y' ∧ z = z') → false = eqJ ⟨x, y, z⟩ ⟨x', y', z'⟩ := fun h => (decide_eq_false (by simpa using h)).symm
  have NO := Lib.hid no
  clear no
  by_cases h0 : x = x'
  · by_cases h1 : y = y'
    · by_cases h2' : z = z'
      · subst h0 h1 h2'
        have q0 : (x != x) = false := by simp
        have q1 : (y != y) = false := by simp
        have q2 : (z != z) = false := by simp
        have HY : Hid (true = eqJ ⟨x, y, z⟩ ⟨x, y, z⟩) := by simp [Hid, eqJ]
        go_enter Try.func71, Try.ntmps71
        go_wp2
        go_ret
        exact ⟨ret_b HY.out, h2⟩
      · have q : (z != z') = true := by simp [h2']
        have HN := Lib.hid (NO.out (fun h => h2' h.2.2))
        subst h0 h1
        have q0 : (x != x) = false := by simp
        have q1 : (y != y) = false := by simp
        clear h2'
        go_enter Try.func71, Try.ntmps71
        go_wp2
        go_ret
        exact ⟨ret_b HN.out, h2⟩
    · have q : (y != y') = true := by simp [h1]
      have HN := Lib.hid (NO.out (fun h => h1 h.2.1))
      subst h0
      have q0 : (x != x) = false := by simp
      clear h1
      go_enter Try.func71, Try.ntmps71
      go_wp2
      go_ret
      exact ⟨ret_b HN.out, h2⟩
  · have q : (x != x') = true := by simp [h0]
    have HN := Lib.hid (NO.out (fun h => h0 h.1))
    clear h0
    go_enter Try.func71, Try.ntmps71
    go_wp2
    go_ret
    exact ⟨ret_b HN.out, h2⟩

set_option maxHeartbeats 800000 in
theorem eqTask_any (a0 a1 a2 a3 b0 b1 b2 b3 : Int) (a4 b4 : Bool) (w : World) :
    Calls Try.prog 70 #[.agg #[.int .i64 a0, .int .i64 a1, .int .i64 a2, .int .i64 a3, .bool a4], .agg #[.int .i64 b0, .int .i64 b1, .int .i64 b2, .int .i64 b3, .bool b4]] w fun e w' => e = .returned (.bool (eqT ⟨a0, a1, a2, a3, a4⟩ ⟨b0, b1, b2, b3, b4⟩)) ∧ Bw w w' := by
  have hb := bw_trans (bw_alloc w (.cells #[.int .i64 a0, .int .i64 a1, .int .i64 a2, .int .i64 a3, .bool a4] 64)) (bw_alloc _ (.cells #[.int .i64 b0, .int .i64 b1, .int .i64 b2, .int .i64 b3, .bool b4] 64))
  have no : ¬ (a0 = b0 ∧ a1 = b1 ∧ a2 = b2 ∧ a3 = b3 ∧ a4 = b4) → false = eqT ⟨a0, a1, a2, a3, a4⟩ ⟨b0, b1, b2, b3, b4⟩ := fun h => (decide_eq_false (by simpa using h)).symm
  have NO := Lib.hid no
  clear no
  by_cases h0 : a0 = b0
  · by_cases h1 : a1 = b1
    · by_cases h2 : a2 = b2
      · by_cases h3 : a3 = b3
        · subst h0 h1 h2 h3
          have q0 : (a0 != a0) = false := by simp
          have q1 : (a1 != a1) = false := by simp
          have q2 : (a2 != a2) = false := by simp
          have q3 : (a3 != a3) = false := by simp
          cases a4 <;> cases b4
          · have HY : Hid (true = eqT ⟨a0, a1, a2, a3, false⟩ ⟨a0, a1, a2, a3, false⟩) := by simp [Hid, eqT]
            go_enter Try.func70, Try.ntmps70
            go_wp2
            go_ret
            exact ⟨ret_b HY.out, hb⟩
          · have HY : Hid (false = eqT ⟨a0, a1, a2, a3, false⟩ ⟨a0, a1, a2, a3, true⟩) := by simp [Hid, eqT]
            go_enter Try.func70, Try.ntmps70
            go_wp2
            go_ret
            exact ⟨ret_b HY.out, hb⟩
          · have HY : Hid (false = eqT ⟨a0, a1, a2, a3, true⟩ ⟨a0, a1, a2, a3, false⟩) := by simp [Hid, eqT]
            go_enter Try.func70, Try.ntmps70
            go_wp2
            go_ret
            exact ⟨ret_b HY.out, hb⟩
          · have HY : Hid (true = eqT ⟨a0, a1, a2, a3, true⟩ ⟨a0, a1, a2, a3, true⟩) := by simp [Hid, eqT]
            go_enter Try.func70, Try.ntmps70
            go_wp2
            go_ret
            exact ⟨ret_b HY.out, hb⟩
        · have q : (a3 != b3) = true := by simp [h3]
          have HN := Lib.hid (NO.out (fun h => h3 h.2.2.2.1))
          subst h0 h1 h2
          have q0 : (a0 != a0) = false := by simp
          have q1 : (a1 != a1) = false := by simp
          have q2 : (a2 != a2) = false := by simp
          clear h3
          go_enter Try.func70, Try.ntmps70
          go_wp2
          go_ret
          exact ⟨ret_b HN.out, hb⟩
      · have q : (a2 != b2) = true := by simp [h2]
        have HN := Lib.hid (NO.out (fun h => h2 h.2.2.1))
        subst h0 h1
        have q0 : (a0 != a0) = false := by simp
        have q1 : (a1 != a1) = false := by simp
        clear h2
        go_enter Try.func70, Try.ntmps70
        go_wp2
        go_ret
        exact ⟨ret_b HN.out, hb⟩
    · have q : (a1 != b1) = true := by simp [h1]
      have HN := Lib.hid (NO.out (fun h => h1 h.2.1))
      subst h0
      have q0 : (a0 != a0) = false := by simp
      clear h1
      go_enter Try.func70, Try.ntmps70
      go_wp2
      go_ret
      exact ⟨ret_b HN.out, hb⟩
  · have q : (a0 != b0) = true := by simp [h0]
    have HN := Lib.hid (NO.out (fun h => h0 h.1))
    clear h0
    go_enter Try.func70, Try.ntmps70
    go_wp2
    go_ret
    exact ⟨ret_b HN.out, hb⟩

set_option maxHeartbeats 1600000 in
theorem eqJobS_any (ao bo : Option Addr) (la lb : List Jb) (ca cb : Nat) (w : World) (ha : RJ w ao la) (hb : RJ w bo lb) (na : la.length ≤ 1048576) (_nb : lb.length ≤ 1048576) :
    Calls Try.prog 38 #[.slice ao la.length ca, .slice bo lb.length cb] w fun e w' => e = .returned (.bool (decide (la = lb))) ∧ Bw w w' := by
  have HA := Lib.hid ha
  have HB := Lib.hid hb
  clear ha hb
  by_cases hl : la.length = lb.length
  · have hL : ((la.length : Int) != (lb.length : Int)) = false := by simp [hl]
    have HL := Lib.hid hl
    clear hl
    go_enter Try.func38, Try.ntmps38
    go_wp2
    go_loopw [5] (fun i wr => ∃ k : Nat, k ≤ la.length ∧ i = .int .i64 k ∧ Hid (decide (la = lb) = decide (la.drop k = lb.drop k)) ∧ Bw w wr) (fun i _ => la.length - (intOf i).toNat)
    case atStart => exact ⟨0, Nat.zero_le _, rfl, rfl, Bw.refl _⟩
    case round =>
      obtain ⟨k, hk, rfl, hx, hbw⟩ := hrel
      by_cases hlt : k < la.length
      · have hltb : k < lb.length := by rw [← HL.out]; exact hlt
        obtain ⟨⟨x0, x1, x2⟩, b, off, hxk, hao, hbs, c0, c1, c2⟩ := HA.out.get hbw hlt
        obtain ⟨⟨y0, y1, y2⟩, b2, off2, hyk, hbo, hbs2, d0, d1, d2⟩ := HB.out.get hbw hltb
        dsimp only at c0 c1 c2 d0 d1 d2
        have HXK := Lib.hid hxk
        have HYK := Lib.hid hyk
        clear hxk hyk
        subst hao; subst hbo
        have hst : decide (la.drop k = lb.drop k) = (eqJ ⟨x0, x1, x2⟩ ⟨y0, y1, y2⟩ && decide (la.drop (k + 1) = lb.drop (k + 1))) := by
          rw [drop_cons HXK.out, drop_cons HYK.out]; simp [eqJ]
        obtain ⟨q, HQ⟩ : ∃ q, Hid (eqJ ⟨x0, x1, x2⟩ ⟨y0, y1, y2⟩ = q) := ⟨_, rfl⟩
        have hcon := fun W => eqJob_any x0 x1 x2 y0 y1 y2 W
        simp only [HQ.out] at hcon
        have HST := Lib.hid hst
        have HCON := Lib.hid hcon
        clear hst hcon
        have k0 := fun d os => cell_regrown c0 d os
        have m0 := fun d os => cell_regrown d0 d os
        have k1 := fun d os => cell_regrown c1 d os
        have m1 := fun d os => cell_regrown d1 d os
        have k2 := fun d os => cell_regrown c2 d os
        have m2 := fun d os => cell_regrown d2 d os
        clear c0 c1 c2 d0 d1 d2
        cases q with
        | true =>
          go_wp2_with fail
          refine wp_region_quiet_below (by kernel_rfl) (by kernel_rfl) ?_
          repeat (go_big_quiet_step ((go_at_call 71; exact Calls.regrown_of (HCON.out _))))
          refine wpQuiet_nil ?_
          intro wq hw'
          have hbq := bw_of_ex hw'
          clear hw'
          go_wp2
          go_roundw
          case rel => exact ⟨k + 1, by omega, by go_num, by show _ = _; rw [hx.out, HST.out, HQ.out, Bool.true_and], bw_trans hbw hbq⟩
          case measure => simp [intOf]; omega
        | false =>
          go_wp2_with fail
          refine wp_region_quiet_below (by kernel_rfl) (by kernel_rfl) ?_
          repeat (go_big_quiet_step ((go_at_call 71; exact Calls.regrown_of (HCON.out _))))
          refine wpQuiet_nil ?_
          intro wq hw'
          have hbq := bw_of_ex hw'
          clear hw'
          go_wp2
          go_ret
          exact ⟨ret_b (by rw [hx.out, HST.out, HQ.out, Bool.false_and]), bw_trans hbw hbq⟩
      · have HD : Hid (true = decide (la = lb)) := by
          have h2 : ¬ k < lb.length := by rw [← HL.out]; exact hlt
          show _ = _
          rw [hx.out, drop_end hlt, drop_end h2]; simp
        go_wp2
        go_ret
        exact ⟨ret_b HD.out, hbw⟩
  · have hL : ((la.length : Int) != (lb.length : Int)) = true := by simp; omega
    have HF : Hid (false = decide (la = lb)) := by show _ = _; rw [decide_eq_false (fun e => hl (by rw [e]))]
    clear hl
    go_enter Try.func38, Try.ntmps38
    go_wp2
    go_ret
    exact ⟨ret_b HF.out, Bw.refl _⟩

set_option maxHeartbeats 1600000 in
theorem eqTaskS_any (ao bo : Option Addr) (la lb : List Tk) (ca cb : Nat) (w : World) (ha : RT w ao la) (hb : RT w bo lb) (na : la.length ≤ 1048576) (_nb : lb.length ≤ 1048576) :
    Calls Try.prog 37 #[.slice ao la.length ca, .slice bo lb.length cb] w fun e w' => e = .returned (.bool (decide (la = lb))) ∧ Bw w w' := by
  have HA := Lib.hid ha
  have HB := Lib.hid hb
  clear ha hb
  by_cases hl : la.length = lb.length
  · have hL : ((la.length : Int) != (lb.length : Int)) = false := by simp [hl]
    have HL := Lib.hid hl
    clear hl
    go_enter Try.func37, Try.ntmps37
    go_wp2
    go_loopw [5] (fun i wr => ∃ k : Nat, k ≤ la.length ∧ i = .int .i64 k ∧ Hid (decide (la = lb) = decide (la.drop k = lb.drop k)) ∧ Bw w wr) (fun i _ => la.length - (intOf i).toNat)
    case atStart => exact ⟨0, Nat.zero_le _, rfl, rfl, Bw.refl _⟩
    case round =>
      obtain ⟨k, hk, rfl, hx, hbw⟩ := hrel
      by_cases hlt : k < la.length
      · have hltb : k < lb.length := by rw [← HL.out]; exact hlt
        obtain ⟨⟨x0, x1, x2, x3, x4⟩, b, off, hxk, hao, hbs, c0, c1, c2, c3, c4⟩ := HA.out.get hbw hlt
        obtain ⟨⟨y0, y1, y2, y3, y4⟩, b2, off2, hyk, hbo, hbs2, d0, d1, d2, d3, d4⟩ := HB.out.get hbw hltb
        dsimp only at c0 c1 c2 c3 c4 d0 d1 d2 d3 d4
        have HXK := Lib.hid hxk
        have HYK := Lib.hid hyk
        clear hxk hyk
        subst hao; subst hbo
        have hst : decide (la.drop k = lb.drop k) = (eqT ⟨x0, x1, x2, x3, x4⟩ ⟨y0, y1, y2, y3, y4⟩ && decide (la.drop (k + 1) = lb.drop (k + 1))) := by
          rw [drop_cons HXK.out, drop_cons HYK.out]; simp [eqT]
        obtain ⟨q, HQ⟩ : ∃ q, Hid (eqT ⟨x0, x1, x2, x3, x4⟩ ⟨y0, y1, y2, y3, y4⟩ = q) := ⟨_, rfl⟩
        have hcon := fun W => eqTask_any x0 x1 x2 x3 y0 y1 y2 y3 x4 y4 W
        simp only [HQ.out] at hcon
        have HST := Lib.hid hst
        have HCON := Lib.hid hcon
        clear hst hcon
        have k0 := fun d os => cell_regrown c0 d os
        have m0 := fun d os => cell_regrown d0 d os
        have k1 := fun d os => cell_regrown c1 d os
        have m1 := fun d os => cell_regrown d1 d os
        have k2 := fun d os => cell_regrown c2 d os
        have m2 := fun d os => cell_regrown d2 d os
        have k3 := fun d os => cell_regrown c3 d os
        have m3 := fun d os => cell_regrown d3 d os
        have k4 := fun d os => cell_regrown c4 d os
        have m4 := fun d os => cell_regrown d4 d os
        clear c0 c1 c2 c3 c4 d0 d1 d2 d3 d4
        cases q with
        | true =>
          go_wp2_with fail
          refine wp_region_quiet_below (by kernel_rfl) (by kernel_rfl) ?_
          repeat (go_big_quiet_step ((go_at_call 70; exact Calls.regrown_of (HCON.out _))))
          refine wpQuiet_nil ?_
          intro wq hw'
          have hbq := bw_of_ex hw'
          clear hw'
          go_wp2
          go_roundw
          case rel => exact ⟨k + 1, by omega, by go_num, by show _ = _; rw [hx.out, HST.out, HQ.out, Bool.true_and], bw_trans hbw hbq⟩
          case measure => simp [intOf]; omega
        | false =>
          go_wp2_with fail
          refine wp_region_quiet_below (by kernel_rfl) (by kernel_rfl) ?_
          repeat (go_big_quiet_step ((go_at_call 70; exact Calls.regrown_of (HCON.out _))))
          refine wpQuiet_nil ?_
          intro wq hw'
          have hbq := bw_of_ex hw'
          clear hw'
          go_wp2
          go_ret
          exact ⟨ret_b (by rw [hx.out, HST.out, HQ.out, Bool.false_and]), bw_trans hbw hbq⟩
      · have HD : Hid (true = decide (la = lb)) := by
          have h2 : ¬ k < lb.length := by rw [← HL.out]; exact hlt
          show _ = _
          rw [hx.out, drop_end hlt, drop_end h2]; simp
        go_wp2
        go_ret
        exact ⟨ret_b HD.out, hbw⟩
  · have hL : ((la.length : Int) != (lb.length : Int)) = true := by simp; omega
    have HF : Hid (false = decide (la = lb)) := by show _ = _; rw [decide_eq_false (fun e => hl (by rw [e]))]
    clear hl
    go_enter Try.func37, Try.ntmps37
    go_wp2
    go_ret
    exact ⟨ret_b HF.out, Bw.refl _⟩
end Go.Proofs.Ytbgfclcnddgboaa
