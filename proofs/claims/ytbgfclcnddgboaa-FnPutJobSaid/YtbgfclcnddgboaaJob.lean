/-
  The walks of the functions on one job: each returns what its mirror says and writes nothing that was there.
-/
import Derived.Test.YtbgfclcnddgboaaTask
import Derived.Lib.QuietBelow
namespace Go.Proofs.Ytbgfclcnddgboaa
open Go.RowKit

def placedB (l : List Tk) (at_ : Int) : Bool := setOk l && decide (0 ≤ at_ ∧ at_ < l.length)

set_option maxHeartbeats 400000 in
theorem impl.placed_any (ao : Option Addr) (c : Nat) (w : World) (l : List Tk) (at_ : Int) (hl : l.length ≤ 1048576) (hr : RT w ao l) :
    Calls Try.prog 81 #[.slice ao l.length c, .int .i64 at_] w fun r w' => r = .returned (.bool (placedB l at_)) ∧ Bw w w' := by
  have HR := Lib.hid hr
  clear hr
  go_enter Try.func81, Try.ntmps81
  go_wp2_with fail
  refine (impl.SetValid_walk _ _ _ l hl HR.out).mono ?_
  obtain ⟨q, HQ⟩ : ∃ q, Hid (setOk l = q) := ⟨_, rfl⟩
  rw [HQ.out]
  rintro e w1 ⟨rfl, hb1⟩
  cases q with
  | false =>
    go_wp2
    go_ret
    exact ⟨ret_b (by rw [placedB, HQ.out, Bool.false_and]), hb1⟩
  | true =>
    have hx : placedB l at_ = decide (0 ≤ at_ ∧ at_ < l.length) := by rw [placedB, HQ.out, Bool.true_and]
    have hy : 0 ≤ at_ → Ending.returned (.bool (decide (at_ < l.length))) = .returned (.bool (placedB l at_)) := fun a => by rw [hx]; congr 2; simp [a]
    have hn : ¬ (0 ≤ at_ ∧ at_ < l.length) → Ending.returned (.bool false) = .returned (.bool (placedB l at_)) := fun a => by rw [hx, decide_eq_false a]
    have HX := Lib.hid hx
    have HY := Lib.hid hy
    have HN := Lib.hid hn
    clear hx hy hn
    go_wp2
    · go_ret
      exact ⟨HY.out (by omega), hb1⟩
    all_goals
      go_ret
      exact ⟨HN.out (by omega), hb1⟩
/-- Is it a job of these tasks (which are valid)? -/
def l6In (l : List Tk) (j : Jb) : Bool := match l[j.task.toNat]? with
  | some t => decide (0 ≤ j.task ∧ j.task < l.length ∧ 0 ≤ j.at_ ∧ j.at_ ≤ 200 ∧ 1 ≤ j.need ∧ j.need ≤ t.high)
  | none => false
def jobIn (l : List Tk) (j : Jb) : Bool := setOk l && l6In l j

theorem l6In_no {l : List Tk} {j : Jb} (h : ¬ (0 ≤ j.task ∧ j.task < l.length ∧ 0 ≤ j.at_ ∧ j.at_ ≤ 200 ∧ 1 ≤ j.need)) : l6In l j = false := by
  unfold l6In
  split
  · exact decide_eq_false fun k => h ⟨k.1, k.2.1, k.2.2.1, k.2.2.2.1, k.2.2.2.2.1⟩
  · rfl
theorem l6In_at {l : List Tk} {j : Jb} {t : Tk} (ht : l[j.task.toNat]? = some t) (h : 0 ≤ j.task ∧ j.task < l.length ∧ 0 ≤ j.at_ ∧ j.at_ ≤ 200 ∧ 1 ≤ j.need) : l6In l j = decide (j.need ≤ t.high) := by
  unfold l6In
  rw [ht]
  simp [h]

theorem jobIn_no1 {l : List Tk} {x y z : Int} (h : placedB l x = false) : Ending.returned (.bool false) = .returned (.bool (jobIn l ⟨x, y, z⟩)) := by
  have : jobIn l ⟨x, y, z⟩ = false := by
    unfold jobIn
    cases hs : setOk l
    · rfl
    · simp only [placedB, hs, Bool.true_and, decide_eq_false_iff_not] at h
      rw [Bool.true_and]
      exact l6In_no fun k => h ⟨k.1, k.2.1⟩
  rw [this]
theorem jobIn_no2 {l : List Tk} {x y z : Int} (h : ¬ (0 ≤ y ∧ y ≤ 200 ∧ 1 ≤ z)) : Ending.returned (.bool false) = .returned (.bool (jobIn l ⟨x, y, z⟩)) := by
  have : jobIn l ⟨x, y, z⟩ = false := by
    unfold jobIn
    rw [l6In_no fun k => h ⟨k.2.2.1, k.2.2.2.1, k.2.2.2.2⟩, Bool.and_false]
  rw [this]
theorem jobIn_yes {l : List Tk} {x : Nat} {y z : Int} {t : Tk} (hp : placedB l x = true) (ht : l[x]? = some t) (h1 : 0 ≤ y) (h2 : y ≤ 200) (h3 : 1 ≤ z) : Ending.returned (.bool (decide (z ≤ t.high))) = .returned (.bool (jobIn l ⟨x, y, z⟩)) := by
  simp only [placedB, Bool.and_eq_true, decide_eq_true_eq] at hp
  have : jobIn l ⟨x, y, z⟩ = decide (z ≤ t.high) := by
    unfold jobIn
    rw [hp.1, Bool.true_and]
    exact l6In_at (j := ⟨x, y, z⟩) (by simpa using ht) ⟨hp.2.1, hp.2.2, h1, h2, h3⟩
  rw [this]

set_option maxHeartbeats 1600000 in
theorem jobOf_any (ao : Option Addr) (c : Nat) (w : World) (l : List Tk) (x y z : Int) (hl : l.length ≤ 1048576) (hr : RT w ao l) :
    Calls Try.prog 52 #[.slice ao l.length c, .agg #[.int .i64 x, .int .i64 y, .int .i64 z]] w fun r w' => r = .returned (.bool (jobIn l ⟨x, y, z⟩)) ∧ Bw w w' := by
  have HR := Lib.hid hr
  clear hr
  by_cases hp : placedB l x = true
  · have hpp : 0 ≤ x ∧ x < l.length := by simp [placedB] at hp; exact hp.2
    obtain ⟨x', rfl⟩ : ∃ n : Nat, x = n := ⟨x.toNat, by omega⟩
    have hx' : x' < l.length := by omega
    obtain ⟨t, b, off, htk, hao, hbs, c0, c1, c2, c3, c4⟩ := HR.out.get (bw_alloc w (.cells #[.int .i64 x', .int .i64 y, .int .i64 z] 26)) hx'
    subst hao
    have hpc := fun (W : World) (hW : Bw w W) => impl.placed_any (some ⟨b, off, none⟩) c W l x' hl (HR.out.bw hW)
    simp only [hp] at hpc
    have HTK := Lib.hid htk
    have HP := Lib.hid hp
    have HPP := Lib.hid hpp
    have HPC := Lib.hid hpc
    clear htk hp hpp hpc
    clear c0 c2 c3 c4
    have b0 := fun d os => cell_regrown (w := w.alloc (.cells #[.int .i64 x', .int .i64 y, .int .i64 z] 26)) (a := ⟨w.heap.size, 0, none⟩) (v := .int .i64 x') (by simp) d os
    have b1 := fun d os => cell_regrown (w := w.alloc (.cells #[.int .i64 x', .int .i64 y, .int .i64 z] 26)) (a := ⟨w.heap.size, 1, none⟩) (v := .int .i64 y) (by simp) d os
    have b2 := fun d os => cell_regrown (w := w.alloc (.cells #[.int .i64 x', .int .i64 y, .int .i64 z] 26)) (a := ⟨w.heap.size, 2, none⟩) (v := .int .i64 z) (by simp) d os
    have b3 := fun d os => cell_regrown c1 d os
    have no := fun h => jobIn_no2 (l := l) (x := x') (y := y) (z := z) h
    have yes := fun h1 h2 h3 => jobIn_yes (y := y) (z := z) HP.out HTK.out h1 h2 h3
    have NO := Lib.hid no
    have YES := Lib.hid yes
    clear no yes
    by_cases h1 : 0 ≤ y
    · by_cases h2 : y ≤ 200
      · by_cases h3 : 1 ≤ z
        · go_enter Try.func52, Try.ntmps52
          go_wp2_with fail
          refine wp_region_quiet_below (by kernel_rfl) (by kernel_rfl) ?_
          repeat (go_big_quiet_step ((go_at_call 81; exact Calls.regrown_of (HPC.out _ (bw_trans (bw_alloc _ _) (below_regrown _ _ _))))))
          refine wpQuiet_nil ?_
          intro wq hw'
          have hbq := bw_of_ex hw'
          clear hw'
          go_wp2
          go_ret
          exact ⟨YES.out h1 h2 h3, bw_trans (bw_alloc _ _) hbq⟩
        · have hd : decide (1 ≤ z) = false := by simp; omega
          have H3 := Lib.hid h3
          clear h3
          go_enter Try.func52, Try.ntmps52
          go_wp2_with fail
          refine wp_region_quiet_below (by kernel_rfl) (by kernel_rfl) ?_
          repeat (go_big_quiet_step ((go_at_call 81; exact Calls.regrown_of (HPC.out _ (bw_trans (bw_alloc _ _) (below_regrown _ _ _))))))
          refine wpQuiet_nil ?_
          intro wq hw'
          have hbq := bw_of_ex hw'
          clear hw'
          go_wp2
          go_ret
          exact ⟨NO.out (by have := H3.out; omega), bw_trans (bw_alloc _ _) hbq⟩
      · have hd : decide (y ≤ 200) = false := by simp; omega
        have H2 := Lib.hid h2
        clear h2
        go_enter Try.func52, Try.ntmps52
        go_wp2_with fail
        refine wp_region_quiet_below (by kernel_rfl) (by kernel_rfl) ?_
        repeat (go_big_quiet_step ((go_at_call 81; exact Calls.regrown_of (HPC.out _ (bw_trans (bw_alloc _ _) (below_regrown _ _ _))))))
        refine wpQuiet_nil ?_
        intro wq hw'
        have hbq := bw_of_ex hw'
        clear hw'
        go_wp2
        go_ret
        exact ⟨NO.out (by have := H2.out; omega), bw_trans (bw_alloc _ _) hbq⟩
    · have hd : decide (0 ≤ y) = false := by simp; omega
      have H1 := Lib.hid h1
      clear h1
      go_enter Try.func52, Try.ntmps52
      go_wp2_with fail
      refine wp_region_quiet_below (by kernel_rfl) (by kernel_rfl) ?_
      repeat (go_big_quiet_step ((go_at_call 81; exact Calls.regrown_of (HPC.out _ (bw_trans (bw_alloc _ _) (below_regrown _ _ _))))))
      refine wpQuiet_nil ?_
      intro wq hw'
      have hbq := bw_of_ex hw'
      clear hw'
      go_wp2
      go_ret
      exact ⟨NO.out (by have := H1.out; omega), bw_trans (bw_alloc _ _) hbq⟩
  · have hpc := fun (W : World) (hW : Bw w W) => impl.placed_any ao c W l x hl (HR.out.bw hW)
    have hp : placedB l x = false := by simpa using hp
    simp only [hp] at hpc
    have b0 := fun d os => cell_regrown (w := w.alloc (.cells #[.int .i64 x, .int .i64 y, .int .i64 z] 26)) (a := ⟨w.heap.size, 0, none⟩) (v := .int .i64 x) (by simp) d os
    have HP := Lib.hid hp
    have HPC := Lib.hid hpc
    clear hp hpc
    go_enter Try.func52, Try.ntmps52
    go_wp2_with fail
    refine wp_region_quiet_below (by kernel_rfl) (by kernel_rfl) ?_
    repeat (go_big_quiet_step ((go_at_call 81; exact Calls.regrown_of (HPC.out _ (bw_trans (bw_alloc _ _) (below_regrown _ _ _))))))
    refine wpQuiet_nil ?_
    intro wq hw'
    have hbq := bw_of_ex hw'
    clear hw'
    go_wp2
    go_ret
    exact ⟨jobIn_no1 HP.out, bw_trans (bw_alloc _ _) hbq⟩

theorem l6In_n {l : List Tk} {x y z : Int} (h : ¬ (0 ≤ x ∧ x < l.length ∧ 0 ≤ y ∧ y ≤ 200 ∧ 1 ≤ z)) : Ending.returned (.bool false) = .returned (.bool (l6In l ⟨x, y, z⟩)) := by rw [l6In_no h]
theorem l6In_y {l : List Tk} {x : Nat} {y z : Int} {t : Tk} (ht : l[x]? = some t) (h0 : (x : Int) < l.length) (h1 : 0 ≤ y) (h2 : y ≤ 200) (h3 : 1 ≤ z) : Ending.returned (.bool (decide (z ≤ t.high))) = .returned (.bool (l6In l ⟨x, y, z⟩)) := by
  rw [l6In_at (j := ⟨x, y, z⟩) (t := t) (by simpa using ht) ⟨by simp, h0, h1, h2, h3⟩]

set_option maxHeartbeats 1600000 in
theorem l6Job_any (ao : Option Addr) (c : Nat) (w : World) (l : List Tk) (x y z : Int) (_hl : l.length ≤ 1048576) (hr : RT w ao l) :
    Calls Try.prog 80 #[.slice ao l.length c, .agg #[.int .i64 x, .int .i64 y, .int .i64 z]] w fun r w' => r = .returned (.bool (l6In l ⟨x, y, z⟩)) ∧ Bw w w' := by
  have HR := Lib.hid hr
  clear hr
  have no := fun h => l6In_n (l := l) (x := x) (y := y) (z := z) h
  have NO := Lib.hid no
  clear no
  by_cases h0 : 0 ≤ x
  · obtain ⟨x', rfl⟩ : ∃ n : Nat, x = n := ⟨x.toNat, by omega⟩
    by_cases hx' : x' < l.length
    · obtain ⟨t, b, off, htk, hao, hbs, c0, c1, c2, c3, c4⟩ := HR.out.get (bw_alloc w (.cells #[.int .i64 x', .int .i64 y, .int .i64 z] 26)) hx'
      subst hao
      have HTK := Lib.hid htk
      clear htk
      clear c0 c2 c3 c4
      have hxi : (x' : Int) < l.length := by omega
      by_cases h1 : 0 ≤ y
      · by_cases h2 : y ≤ 200
        · by_cases h3 : 1 ≤ z
          · go_enter Try.func80, Try.ntmps80
            go_wp2_with fail
            go_quiet (fail)
            go_wp2
            go_ret
            exact ⟨l6In_y HTK.out hxi h1 h2 h3, blw_drewN (bw_alloc _ _) _⟩
          · have hd : decide (1 ≤ z) = false := by simp; omega
            have H3 := Lib.hid h3
            clear h3
            go_enter Try.func80, Try.ntmps80
            go_wp2_with fail
            go_quiet (fail)
            go_wp2
            go_ret
            exact ⟨NO.out (by have := H3.out; omega), blw_drewN (bw_alloc _ _) _⟩
        · have hd : decide (y ≤ 200) = false := by simp; omega
          have H2 := Lib.hid h2
          clear h2
          go_enter Try.func80, Try.ntmps80
          go_wp2_with fail
          go_quiet (fail)
          go_wp2
          go_ret
          exact ⟨NO.out (by have := H2.out; omega), blw_drewN (bw_alloc _ _) _⟩
      · have hd : decide (0 ≤ y) = false := by simp; omega
        have H1 := Lib.hid h1
        clear h1
        go_enter Try.func80, Try.ntmps80
        go_wp2_with fail
        go_quiet (fail)
        go_wp2
        go_ret
        exact ⟨NO.out (by have := H1.out; omega), blw_drewN (bw_alloc _ _) _⟩
    · have hd : decide (x' < l.length) = false := by simp; omega
      have HX' := Lib.hid hx'
      clear hx'
      go_enter Try.func80, Try.ntmps80
      go_wp2_with fail
      go_quiet (fail)
      go_wp2
      go_ret
      exact ⟨NO.out (by have := HX'.out; omega), blw_drewN (bw_alloc _ _) _⟩
  · have hd : decide (0 ≤ x) = false := by simp; omega
    have H0 := Lib.hid h0
    clear h0
    go_enter Try.func80, Try.ntmps80
    go_wp2_with fail
    go_quiet (fail)
    go_wp2
    go_ret
    exact ⟨NO.out (by have := H0.out; omega), blw_drewN (bw_alloc _ _) _⟩

/-- Job before job: by At, then by Task. -/
def jbBefore (x y x' y' : Int) : Bool := decide (y < y' ∨ (y = y' ∧ x < x'))

set_option maxHeartbeats 400000 in
theorem l6Before_any (x y z x' y' z' : Int) (w : World) :
    Calls Try.prog 51 #[.agg #[.int .i64 x, .int .i64 y, .int .i64 z], .agg #[.int .i64 x', .int .i64 y', .int .i64 z']] w fun r w' => r = .returned (.bool (jbBefore x y x' y')) ∧ Bw w w' := by
  have h2 := bw_trans (bw_alloc w (.cells #[.int .i64 x, .int .i64 y, .int .i64 z] 26)) (bw_alloc _ (.cells #[.int .i64 x', .int .i64 y', .int .i64 z'] 26))
  by_cases hy : y < y'
  · have HD : Hid (true = jbBefore x y x' y') := by show _ = _; simp [jbBefore, hy]
    go_enter Try.func51, Try.ntmps51
    go_wp2
    go_ret
    exact ⟨ret_b HD.out, h2⟩
  · by_cases he : y = y'
    · have HD : Hid (decide (x < x') = jbBefore x y x' y') := by show _ = _; simp [jbBefore, he]
      have hb : (y == y') = true := by simp [he]
      have HE := Lib.hid he
      clear he
      go_enter Try.func51, Try.ntmps51
      go_wp2
      go_ret
      exact ⟨ret_b HD.out, h2⟩
    · have HD : Hid (false = jbBefore x y x' y') := by show _ = _; simp [jbBefore, he, hy]
      have hb : (y == y') = false := by simp [he]
      have HE := Lib.hid he
      clear he
      go_enter Try.func51, Try.ntmps51
      go_wp2
      go_ret
      exact ⟨ret_b HD.out, h2⟩
end Go.Proofs.Ytbgfclcnddgboaa
