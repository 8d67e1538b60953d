import Derived.Test.YtaadlgpglfpmpaaDoorGA
import Derived.Lib.QuietBelow
import Derived.Test.YtaadlgpglfpmpaaDoorTo

/-
  The walks of the functions on one job: each returns what its mirror says and writes nothing that was there.
-/


namespace Go.Proofs.YtaadlgpglfpmpaaDoor
open Go.RowKit

def placedB (l : List Tk) (at_ : Int) : Bool := setOk l && decide (0 ≤ at_ ∧ at_ < l.length)

set_option maxHeartbeats 400000 in
theorem impl.placed_any (ao : Option Addr) (c : Nat) (w : World) (l : List Tk) (at_ : Int) (hl : l.length ≤ 1048576) (hr : RT w ao l) :
    Calls Tryd.prog 96 #[.slice ao l.length c, .int .i64 at_] w fun r w' => r = .returned (.bool (placedB l at_)) ∧ Bw w w' := by
  have HR := Lib.hid hr
  clear hr
  go_enter Tryd.func96, Tryd.ntmps96
  go_wp2_with fail
  refine (impl.SetValid_walk _ _ _ l hl HR.out).mono ?_
  obtain ⟨q, HQ⟩ : ∃ q, Hid (setOk l = q) := ⟨_, rfl⟩
  rw [HQ.out]
  rintro e w1 ⟨rfl, hb1⟩
  cases q with
  | false =>
    go_wp2
    go_ret
    exact ⟨ret_b (by rw [placedB, HQ.out, Bool.false_and]), hb1⟩
  | true =>
    have hx : placedB l at_ = decide (0 ≤ at_ ∧ at_ < l.length) := by rw [placedB, HQ.out, Bool.true_and]
    have hy : 0 ≤ at_ → Ending.returned (.bool (decide (at_ < l.length))) = .returned (.bool (placedB l at_)) := fun a => by rw [hx]; congr 2; simp [a]
    have hn : ¬ (0 ≤ at_ ∧ at_ < l.length) → Ending.returned (.bool false) = .returned (.bool (placedB l at_)) := fun a => by rw [hx, decide_eq_false a]
    have HX := Lib.hid hx
    have HY := Lib.hid hy
    have HN := Lib.hid hn
    clear hx hy hn
    go_wp2
    · go_ret
      exact ⟨HY.out (by omega), hb1⟩
    all_goals
      go_ret
      exact ⟨HN.out (by omega), hb1⟩
/-- Is it a job of these tasks (which are valid)? -/
def l6In (l : List Tk) (j : Jb) : Bool := match l[j.task.toNat]? with
  | some t => decide (0 ≤ j.task ∧ j.task < l.length ∧ 0 ≤ j.at_ ∧ j.at_ ≤ 200 ∧ 1 ≤ j.need ∧ j.need ≤ t.high)
  | none => false
def jobIn (l : List Tk) (j : Jb) : Bool := setOk l && l6In l j

theorem l6In_no {l : List Tk} {j : Jb} (h : ¬ (0 ≤ j.task ∧ j.task < l.length ∧ 0 ≤ j.at_ ∧ j.at_ ≤ 200 ∧ 1 ≤ j.need)) : l6In l j = false := by
  unfold l6In
  split
  · exact decide_eq_false fun k => h ⟨k.1, k.2.1, k.2.2.1, k.2.2.2.1, k.2.2.2.2.1⟩
  · rfl
theorem l6In_at {l : List Tk} {j : Jb} {t : Tk} (ht : l[j.task.toNat]? = some t) (h : 0 ≤ j.task ∧ j.task < l.length ∧ 0 ≤ j.at_ ∧ j.at_ ≤ 200 ∧ 1 ≤ j.need) : l6In l j = decide (j.need ≤ t.high) := by
  unfold l6In
  rw [ht]
  simp [h]

theorem jobIn_no1 {l : List Tk} {x y z : Int} (h : placedB l x = false) : Ending.returned (.bool false) = .returned (.bool (jobIn l ⟨x, y, z⟩)) := by
  have : jobIn l ⟨x, y, z⟩ = false := by
    unfold jobIn
    cases hs : setOk l
    · rfl
    · simp only [placedB, hs, Bool.true_and, decide_eq_false_iff_not] at h
      rw [Bool.true_and]
      exact l6In_no fun k => h ⟨k.1, k.2.1⟩
  rw [this]
theorem jobIn_no2 {l : List Tk} {x y z : Int} (h : ¬ (0 ≤ y ∧ y ≤ 200 ∧ 1 ≤ z)) : Ending.returned (.bool false) = .returned (.bool (jobIn l ⟨x, y, z⟩)) := by
  have : jobIn l ⟨x, y, z⟩ = false := by
    unfold jobIn
    rw [l6In_no fun k => h ⟨k.2.2.1, k.2.2.2.1, k.2.2.2.2⟩, Bool.and_false]
  rw [this]
theorem jobIn_yes {l : List Tk} {x : Nat} {y z : Int} {t : Tk} (hp : placedB l x = true) (ht : l[x]? = some t) (h1 : 0 ≤ y) (h2 : y ≤ 200) (h3 : 1 ≤ z) : Ending.returned (.bool (decide (z ≤ t.high))) = .returned (.bool (jobIn l ⟨x, y, z⟩)) := by
  simp only [placedB, Bool.and_eq_true, decide_eq_true_eq] at hp
  have : jobIn l ⟨x, y, z⟩ = decide (z ≤ t.high) := by
    unfold jobIn
    rw [hp.1, Bool.true_and]
    exact l6In_at (j := ⟨x, y, z⟩) (by simpa using ht) ⟨hp.2.1, hp.2.2, h1, h2, h3⟩
  rw [this]

set_option maxHeartbeats 1600000 in
theorem jobOf_any (ao : Option Addr) (c : Nat) (w : World) (l : List Tk) (x y z : Int) (hl : l.length ≤ 1048576) (hr : RT w ao l) :
    Calls Tryd.prog 75 #[.slice ao l.length c, .agg #[.int .i64 x, .int .i64 y, .int .i64 z]] w fun r w' => r = .returned (.bool (jobIn l ⟨x, y, z⟩)) ∧ Bw w w' := by
  have HR := Lib.hid hr
  clear hr
  by_cases hp : placedB l x = true
  · have hpp : 0 ≤ x ∧ x < l.length := by simp [placedB] at hp; exact hp.2
    obtain ⟨x', rfl⟩ : ∃ n : Nat, x = n := ⟨x.toNat, by omega⟩
    have hx' : x' < l.length := by omega
    obtain ⟨t, b, off, htk, hao, hbs, c0, c1, c2, c3, c4⟩ := HR.out.get (bw_alloc w (.cells #[.int .i64 x', .int .i64 y, .int .i64 z] 57)) hx'
    subst hao
    have hpc := fun (W : World) (hW : Bw w W) => impl.placed_any (some ⟨b, off, none⟩) c W l x' hl (HR.out.bw hW)
    simp only [hp] at hpc
    have HTK := Lib.hid htk
    have HP := Lib.hid hp
    have HPP := Lib.hid hpp
    have HPC := Lib.hid hpc
    clear htk hp hpp hpc
    clear c0 c2 c3 c4
    have b0 := fun d os => cell_regrown (w := w.alloc (.cells #[.int .i64 x', .int .i64 y, .int .i64 z] 57)) (a := ⟨w.heap.size, 0, none⟩) (v := .int .i64 x') (by simp) d os
    have b1 := fun d os => cell_regrown (w := w.alloc (.cells #[.int .i64 x', .int .i64 y, .int .i64 z] 57)) (a := ⟨w.heap.size, 1, none⟩) (v := .int .i64 y) (by simp) d os
    have b2 := fun d os => cell_regrown (w := w.alloc (.cells #[.int .i64 x', .int .i64 y, .int .i64 z] 57)) (a := ⟨w.heap.size, 2, none⟩) (v := .int .i64 z) (by simp) d os
    have b3 := fun d os => cell_regrown c1 d os
    have no := fun h => jobIn_no2 (l := l) (x := x') (y := y) (z := z) h
    have yes := fun h1 h2 h3 => jobIn_yes (y := y) (z := z) HP.out HTK.out h1 h2 h3
    have NO := Lib.hid no
    have YES := Lib.hid yes
    clear no yes
    by_cases h1 : 0 ≤ y
    · by_cases h2 : y ≤ 200
      · by_cases h3 : 1 ≤ z
        · go_enter Tryd.func75, Tryd.ntmps75
          go_wp2_with fail
          refine wp_region_quiet_below (by kernel_rfl) (by kernel_rfl) ?_
          repeat (go_big_quiet_step ((go_at_call 96; exact Calls.regrown_of (HPC.out _ (bw_trans (bw_alloc _ _) (below_regrown _ _ _))))))
          refine wpQuiet_nil ?_
          intro wq hw'
          have hbq := bw_of_ex hw'
          clear hw'
          go_wp2
          go_ret
          exact ⟨YES.out h1 h2 h3, bw_trans (bw_alloc _ _) hbq⟩
        · have hd : decide (1 ≤ z) = false := by simp; omega
          have H3 := Lib.hid h3
          clear h3
          go_enter Tryd.func75, Tryd.ntmps75
          go_wp2_with fail
          refine wp_region_quiet_below (by kernel_rfl) (by kernel_rfl) ?_
          repeat (go_big_quiet_step ((go_at_call 96; exact Calls.regrown_of (HPC.out _ (bw_trans (bw_alloc _ _) (below_regrown _ _ _))))))
          refine wpQuiet_nil ?_
          intro wq hw'
          have hbq := bw_of_ex hw'
          clear hw'
          go_wp2
          go_ret
          exact ⟨NO.out (by have := H3.out; omega), bw_trans (bw_alloc _ _) hbq⟩
      · have hd : decide (y ≤ 200) = false := by simp; omega
        have H2 := Lib.hid h2
        clear h2
        go_enter Tryd.func75, Tryd.ntmps75
        go_wp2_with fail
        refine wp_region_quiet_below (by kernel_rfl) (by kernel_rfl) ?_
        repeat (go_big_quiet_step ((go_at_call 96; exact Calls.regrown_of (HPC.out _ (bw_trans (bw_alloc _ _) (below_regrown _ _ _))))))
        refine wpQuiet_nil ?_
        intro wq hw'
        have hbq := bw_of_ex hw'
        clear hw'
        go_wp2
        go_ret
        exact ⟨NO.out (by have := H2.out; omega), bw_trans (bw_alloc _ _) hbq⟩
    · have hd : decide (0 ≤ y) = false := by simp; omega
      have H1 := Lib.hid h1
      clear h1
      go_enter Tryd.func75, Tryd.ntmps75
      go_wp2_with fail
      refine wp_region_quiet_below (by kernel_rfl) (by kernel_rfl) ?_
      repeat (go_big_quiet_step ((go_at_call 96; exact Calls.regrown_of (HPC.out _ (bw_trans (bw_alloc _ _) (below_regrown _ _ _))))))
      refine wpQuiet_nil ?_
      intro wq hw'
      have hbq := bw_of_ex hw'
      clear hw'
      go_wp2
      go_ret
      exact ⟨NO.out (by have := H1.out; omega), bw_trans (bw_alloc _ _) hbq⟩
  · have hpc := fun (W : World) (hW : Bw w W) => impl.placed_any ao c W l x hl (HR.out.bw hW)
    have hp : placedB l x = false := by simpa using hp
    simp only [hp] at hpc
    have b0 := fun d os => cell_regrown (w := w.alloc (.cells #[.int .i64 x, .int .i64 y, .int .i64 z] 57)) (a := ⟨w.heap.size, 0, none⟩) (v := .int .i64 x) (by simp) d os
    have HP := Lib.hid hp
    have HPC := Lib.hid hpc
    clear hp hpc
    go_enter Tryd.func75, Tryd.ntmps75
    go_wp2_with fail
    refine wp_region_quiet_below (by kernel_rfl) (by kernel_rfl) ?_
    repeat (go_big_quiet_step ((go_at_call 96; exact Calls.regrown_of (HPC.out _ (bw_trans (bw_alloc _ _) (below_regrown _ _ _))))))
    refine wpQuiet_nil ?_
    intro wq hw'
    have hbq := bw_of_ex hw'
    clear hw'
    go_wp2
    go_ret
    exact ⟨jobIn_no1 HP.out, bw_trans (bw_alloc _ _) hbq⟩

theorem l6In_n {l : List Tk} {x y z : Int} (h : ¬ (0 ≤ x ∧ x < l.length ∧ 0 ≤ y ∧ y ≤ 200 ∧ 1 ≤ z)) : Ending.returned (.bool false) = .returned (.bool (l6In l ⟨x, y, z⟩)) := by rw [l6In_no h]
theorem l6In_y {l : List Tk} {x : Nat} {y z : Int} {t : Tk} (ht : l[x]? = some t) (h0 : (x : Int) < l.length) (h1 : 0 ≤ y) (h2 : y ≤ 200) (h3 : 1 ≤ z) : Ending.returned (.bool (decide (z ≤ t.high))) = .returned (.bool (l6In l ⟨x, y, z⟩)) := by
  rw [l6In_at (j := ⟨x, y, z⟩) (t := t) (by simpa using ht) ⟨by simp, h0, h1, h2, h3⟩]

set_option maxHeartbeats 1600000 in
theorem l6Job_any (ao : Option Addr) (c : Nat) (w : World) (l : List Tk) (x y z : Int) (_hl : l.length ≤ 1048576) (hr : RT w ao l) :
    Calls Tryd.prog 79 #[.slice ao l.length c, .agg #[.int .i64 x, .int .i64 y, .int .i64 z]] w fun r w' => r = .returned (.bool (l6In l ⟨x, y, z⟩)) ∧ Bw w w' := by
  have HR := Lib.hid hr
  clear hr
  have no := fun h => l6In_n (l := l) (x := x) (y := y) (z := z) h
  have NO := Lib.hid no
  clear no
  by_cases h0 : 0 ≤ x
  · obtain ⟨x', rfl⟩ : ∃ n : Nat, x = n := ⟨x.toNat, by omega⟩
    by_cases hx' : x' < l.length
    · obtain ⟨t, b, off, htk, hao, hbs, c0, c1, c2, c3, c4⟩ := HR.out.get (bw_alloc w (.cells #[.int .i64 x', .int .i64 y, .int .i64 z] 57)) hx'
      subst hao
      have HTK := Lib.hid htk
      clear htk
      clear c0 c2 c3 c4
      have hxi : (x' : Int) < l.length := by omega
      by_cases h1 : 0 ≤ y
      · by_cases h2 : y ≤ 200
        · by_cases h3 : 1 ≤ z
          · go_enter Tryd.func79, Tryd.ntmps79
            go_wp2_with fail
            go_quiet (fail)
            go_wp2
            go_ret
            exact ⟨l6In_y HTK.out hxi h1 h2 h3, blw_drewN (bw_alloc _ _) _⟩
          · have hd : decide (1 ≤ z) = false := by simp; omega
            have H3 := Lib.hid h3
            clear h3
            go_enter Tryd.func79, Tryd.ntmps79
            go_wp2_with fail
            go_quiet (fail)
            go_wp2
            go_ret
            exact ⟨NO.out (by have := H3.out; omega), blw_drewN (bw_alloc _ _) _⟩
        · have hd : decide (y ≤ 200) = false := by simp; omega
          have H2 := Lib.hid h2
          clear h2
          go_enter Tryd.func79, Tryd.ntmps79
          go_wp2_with fail
          go_quiet (fail)
          go_wp2
          go_ret
          exact ⟨NO.out (by have := H2.out; omega), blw_drewN (bw_alloc _ _) _⟩
      · have hd : decide (0 ≤ y) = false := by simp; omega
        have H1 := Lib.hid h1
        clear h1
        go_enter Tryd.func79, Tryd.ntmps79
        go_wp2_with fail
        go_quiet (fail)
        go_wp2
        go_ret
        exact ⟨NO.out (by have := H1.out; omega), blw_drewN (bw_alloc _ _) _⟩
    · have hd : decide (x' < l.length) = false := by simp; omega
      have HX' := Lib.hid hx'
      clear hx'
      go_enter Tryd.func79, Tryd.ntmps79
      go_wp2_with fail
      go_quiet (fail)
      go_wp2
      go_ret
      exact ⟨NO.out (by have := HX'.out; omega), blw_drewN (bw_alloc _ _) _⟩
  · have hd : decide (0 ≤ x) = false := by simp; omega
    have H0 := Lib.hid h0
    clear h0
    go_enter Tryd.func79, Tryd.ntmps79
    go_wp2_with fail
    go_quiet (fail)
    go_wp2
    go_ret
    exact ⟨NO.out (by have := H0.out; omega), blw_drewN (bw_alloc _ _) _⟩

/-- Job before job: by At, then by Task. -/
def jbBefore (x y x' y' : Int) : Bool := decide (y < y' ∨ (y = y' ∧ x < x'))

set_option maxHeartbeats 400000 in
theorem l6Before_any (x y z x' y' z' : Int) (w : World) :
    Calls Tryd.prog 80 #[.agg #[.int .i64 x, .int .i64 y, .int .i64 z], .agg #[.int .i64 x', .int .i64 y', .int .i64 z']] w fun r w' => r = .returned (.bool (jbBefore x y x' y')) ∧ Bw w w' := by
  have h2 := bw_trans (bw_alloc w (.cells #[.int .i64 x, .int .i64 y, .int .i64 z] 57)) (bw_alloc _ (.cells #[.int .i64 x', .int .i64 y', .int .i64 z'] 57))
  by_cases hy : y < y'
  · have HD : Hid (true = jbBefore x y x' y') := by show _ = _; simp [jbBefore, hy]
    go_enter Tryd.func80, Tryd.ntmps80
    go_wp2
    go_ret
    exact ⟨ret_b HD.out, h2⟩
  · by_cases he : y = y'
    · have HD : Hid (decide (x < x') = jbBefore x y x' y') := by show _ = _; simp [jbBefore, he]
      have hb : (y == y') = true := by simp [he]
      have HE := Lib.hid he
      clear he
      go_enter Tryd.func80, Tryd.ntmps80
      go_wp2
      go_ret
      exact ⟨ret_b HD.out, h2⟩
    · have HD : Hid (false = jbBefore x y x' y') := by show _ = _; simp [jbBefore, he, hy]
      have hb : (y == y') = false := by simp [he]
      have HE := Lib.hid he
      clear he
      go_enter Tryd.func80, Tryd.ntmps80
      go_wp2
      go_ret
      exact ⟨ret_b HD.out, h2⟩
end Go.Proofs.YtaadlgpglfpmpaaDoor

/-
  The walk of impl.JobsValid: it returns what its mirror says and writes nothing that was there.
-/

namespace Go.Proofs.YtaadlgpglfpmpaaDoor
open Go.RowKit

/-- Two jobs of one task that come too close. -/
def clash (ev : Int) (j k : Jb) : Bool := decide (k.task = j.task ∧ j.at_ - k.at_ < ev)
/-- p is not ahead of j. -/
def ordBad (p j : Jb) : Bool := decide (j.at_ < p.at_ ∨ (p.at_ = j.at_ ∧ j.task ≤ p.task))
def evAt (l : List Tk) (j : Jb) : Int := match l[j.task.toNat]? with | some t => t.every | none => 0
/-- The last of the jobs done is not ahead of j. -/
def lastBad (done : List Jb) (j : Jb) : Bool := match done.getLast? with | some p => ordBad p j | none => false
def jvFrom (l : List Tk) : List Jb → List Jb → Bool
  | _, [] => true
  | done, j :: rest => jobIn l j && ((done.all fun k => !clash (evAt l j) j k) && (!lastBad done j && jvFrom l (done ++ [j]) rest))
def jobsOk (l : List Tk) (js : List Jb) : Bool := setOk l && (decide (js.length ≤ 60) && jvFrom l [] js)

theorem jobIn_spec {l : List Tk} {j : Jb} (h : jobIn l j = true) : setOk l = true ∧ 0 ≤ j.task ∧ j.task < l.length ∧ 0 ≤ j.at_ ∧ j.at_ ≤ 200 ∧ 1 ≤ j.need ∧ ∃ t, l[j.task.toNat]? = some t ∧ j.need ≤ t.high := by
  unfold jobIn l6In at h
  simp only [Bool.and_eq_true] at h
  obtain ⟨h1, h2⟩ := h
  split at h2
  · rename_i t ht
    simp only [decide_eq_true_eq] at h2
    exact ⟨h1, h2.1, h2.2.1, h2.2.2.1, h2.2.2.2.1, h2.2.2.2.2.1, t, ht, h2.2.2.2.2.2⟩
  · cases h2

set_option maxRecDepth 100000 in
set_option maxHeartbeats 4000000 in
theorem JobsValid_impl (ao bo : Option Addr) (c d : Nat) (w : World) (l : List Tk) (js : List Jb) (hl : l.length ≤ 1048576) (hj : js.length ≤ 1048576) (hd : js.length ≤ d) (hr : RT w ao l) (hs : RJ w bo js) :
    Calls Tryd.prog 48 #[.slice ao l.length c, .slice bo js.length d] w fun r w' => r = .returned (.bool (jobsOk l js)) ∧ Bw w w' := by
  have HR := Lib.hid hr
  have HS := Lib.hid hs
  clear hr hs
  go_enter Tryd.func48, Tryd.ntmps48
  go_wp2_with fail
  refine (impl.SetValid_walk _ _ _ l hl HR.out).mono ?_
  obtain ⟨q, HQ⟩ : ∃ q, Hid (setOk l = q) := ⟨_, rfl⟩
  rw [HQ.out]
  rintro e w1 ⟨rfl, hb1⟩
  cases q with
  | false =>
    go_wp2
    go_ret
    exact ⟨ret_b (by rw [jobsOk, HQ.out, Bool.false_and]), hb1⟩
  | true =>
    by_cases h60 : js.length ≤ 60
    · have hx0 : jobsOk l js = jvFrom l [] js := by rw [jobsOk, HQ.out, Bool.true_and, decide_eq_true h60, Bool.true_and]
      have HX0 := Lib.hid hx0
      clear hx0
      go_wp2
      go_loopw [19] (fun i wr => ∃ k : Nat, k ≤ js.length ∧ i = .int .i64 k ∧ Hid (jobsOk l js = jvFrom l (js.take k) (js.drop k)) ∧ Hid (∀ x ∈ js.take k, 0 ≤ x.at_ ∧ x.at_ ≤ 200) ∧ Bw w wr) (fun i _ => js.length - (intOf i).toNat)
      case atStart => exact ⟨0, Nat.zero_le _, rfl, HX0.out, by intro x hx; simp at hx, hb1⟩
      case round =>
        obtain ⟨k, hk, rfl, hx, hin, hbw⟩ := hrel
        obtain ⟨wo, rfl⟩ : ∃ wo : World, wo = wr := ⟨_, rfl⟩
        by_cases hlt : k < js.length
        · obtain ⟨⟨x, y, z⟩, b, off, hjk, hbo, hbs, c0, c1, c2⟩ := HS.out.get hbw hlt
          dsimp only at c0 c1 c2
          have HJK := Lib.hid hjk
          clear hjk
          subst hbo
          have hst : jvFrom l (js.take k) (js.drop k) = (jobIn l ⟨x, y, z⟩ && (((js.take k).all fun u => !clash (evAt l ⟨x, y, z⟩) ⟨x, y, z⟩ u) && (!lastBad (js.take k) ⟨x, y, z⟩ && jvFrom l (js.take (k + 1)) (js.drop (k + 1))))) := by
            rw [drop_cons HJK.out, take_snoc HJK.out]; rfl
          have HST := Lib.hid hst
          clear hst
          go_wp2_with fail
          refine (jobOf_any _ _ _ l _ _ _ hl (HR.out.bw (bw_trans hbw (bw_alloc _ _)))).mono ?_
          obtain ⟨q, HJ⟩ : ∃ q, Hid (jobIn l ⟨x, y, z⟩ = q) := ⟨_, rfl⟩
          rw [HJ.out]
          rintro e w2 ⟨rfl, hb2⟩
          have hw2 := bw_trans hbw (bw_trans (bw_alloc _ _) hb2)
          cases q with
          | false =>
            go_wp2
            go_ret
            exact ⟨ret_b (by rw [hx.out, HST.out, HJ.out, Bool.false_and]), hw2⟩
          | true =>
            obtain ⟨hso, ht0, htl, ha0, ha1, hn1, t, htk, hnh⟩ := jobIn_spec HJ.out
            dsimp only at ht0 htl ha0 ha1 hn1 htk hnh
            obtain ⟨x, rfl⟩ : ∃ n : Nat, x = (n : Int) := ⟨x.toNat, by omega⟩
            have hev : evAt l ⟨(x : Int), y, z⟩ = t.every := by simp [evAt] at htk ⊢; rw [htk]
            have hx' : x < l.length := by omega
            have htk' : l[x]? = some t := by simpa using htk
            obtain ⟨t', b2, off2, htk2, hao2, hbs2, _, _, _, r3, _⟩ := HR.out.get hw2 hx'
            have htt : t' = t := by rw [htk'] at htk2; simpa using htk2.symm
            subst htt
            have hte : 1 ≤ t'.every ∧ t'.every ≤ 20 := by have := (Tk.ok_iff _).1 (setOk_at hso htk'); omega
            obtain ⟨te1, te2⟩ := hte
            subst hao2
            have HTK := Lib.hid htk
            have HEV := Lib.hid hev
            have HTK' := Lib.hid htk'
            have HTK2 := Lib.hid htk2
            have HSO := Lib.hid hso
            have HNH := Lib.hid hnh
            clear htk hev htk' htk2 hso hnh
            clear c0 c1 c2
            have B2 := Lib.hid (box_last hb2)
            have c0 := blk_cell B2.out 0 rfl
            have c1 := blk_cell B2.out 1 rfl
            have c2 := blk_cell B2.out 2 rfl
            have hkd : k ≤ d := by omega
            have hd0 : ¬ d = 0 := by omega
            have hbx : wo.heap.size < w2.heap.size := by have := blk_lt B2.out; simpa using this
            go_wp2_with fail
            go_loopw [32] (fun i wi => ∃ m : Nat, m ≤ k ∧ i = .int .i64 m ∧ Hid (((js.take k).all fun u => !clash (evAt l ⟨x, y, z⟩) ⟨x, y, z⟩ u) = ((js.take k).drop m).all fun u => !clash (evAt l ⟨x, y, z⟩) ⟨x, y, z⟩ u) ∧ Bw w2 wi) (fun i _ => k - (intOf i).toNat)
            case atStart => exact ⟨0, Nat.zero_le _, rfl, rfl, Bw.refl _⟩
            case round =>
              obtain ⟨m, hm, rfl, hy, hbi⟩ := hrel
              have hbr : wo.heap.size < wr.heap.size := Nat.lt_of_lt_of_le hbx hbi.size
              have hb2r : b2 < wr.heap.size := Nat.lt_of_lt_of_le hbs2 hbi.size
              have e0 := cell_bw hbi c0
              have e1 := cell_bw hbi c1
              have er := cell_bw hbi r3
              by_cases hmk : m < k
              · obtain ⟨⟨x', y', z'⟩, b', off', hjm, hbo', hbs', d0, d1, d2⟩ := HS.out.get (bw_trans hw2 hbi) (k := m) (by omega)
                simp only [Option.some.injEq, Addr.mk.injEq, and_true] at hbo'
                obtain ⟨rfl, rfl⟩ := hbo'
                dsimp only at d0 d1 d2
                have hmt : (js.take k)[m]? = some ⟨x', y', z'⟩ := by rw [List.getElem?_take, if_pos hmk]; exact hjm
                obtain ⟨hy0, hy1⟩ := hin.out _ (List.mem_of_getElem? hmt)
                dsimp only at hy0 hy1
                have hst2 : (((js.take k).drop m).all fun u => !clash (evAt l ⟨x, y, z⟩) ⟨x, y, z⟩ u) = (!clash t'.every ⟨x, y, z⟩ ⟨x', y', z'⟩ && ((js.take k).drop (m + 1)).all fun u => !clash (evAt l ⟨x, y, z⟩) ⟨x, y, z⟩ u) := by
                  rw [drop_cons hmt]; simp only [List.all_cons, HEV.out]
                have HJM := Lib.hid hjm
                have HMT := Lib.hid hmt
                have HST2 := Lib.hid hst2
                clear hjm hmt hst2
                by_cases hxe : x' = (x : Int)
                · subst hxe
                  have hxq : ((x : Int) == (x : Int)) = true := by simp
                  have hwr : IntKind.i64.wrap (y - y') = y - y' := IntWalk.i64_in _ (by omega)
                  by_cases hlt2 : y - y' < t'.every
                  · have HC : Hid (clash t'.every ⟨x, y, z⟩ ⟨x, y', z'⟩ = true) := by simp [Hid, clash, hlt2]
                    go_wp2_with fail
                    go_quiet (fail)
                    go_wp2
                    go_ret
                    exact ⟨ret_b (by rw [hx.out, HST.out, hy.out, HST2.out, HC.out]; simp), blw_drewN (bw_trans (bw_trans hw2 hbi) (bw_alloc _ _)) _⟩
                  · have HC : Hid (clash t'.every ⟨x, y, z⟩ ⟨x, y', z'⟩ = false) := by simp [Hid, clash]; omega
                    go_wp2_with fail
                    go_quiet (fail)
                    go_wp2
                    go_roundw
                    case rel => exact ⟨m + 1, by omega, by go_num, by show _ = _; rw [hy.out, HST2.out, HC.out]; rfl, blw_drewN (bw_trans hbi (bw_alloc _ _)) _⟩
                    case measure => simp [intOf]; omega
                · have hxq : (x' == (x : Int)) = false := by simp [hxe]
                  have HC : Hid (clash t'.every ⟨x, y, z⟩ ⟨x', y', z'⟩ = false) := by simp [Hid, clash, hxe]
                  have HXE := Lib.hid hxe
                  clear hxe
                  go_wp2_with fail
                  go_quiet (fail)
                  go_wp2
                  go_roundw
                  case rel => exact ⟨m + 1, by omega, by go_num, by show _ = _; rw [hy.out, HST2.out, HC.out]; rfl, blw_drewN (bw_trans hbi (bw_alloc _ _)) _⟩
                  case measure => simp [intOf]; omega
              · have HAL : Hid (((js.take k).all fun u => !clash (evAt l ⟨x, y, z⟩) ⟨x, y, z⟩ u) = true) := by
                  show _ = _
                  rw [hy.out, drop_end (by rw [List.length_take]; omega)]; rfl
                clear er
                have hwi := bw_trans hw2 hbi
                have HX2 : Hid (jobsOk l js = (!lastBad (js.take k) ⟨x, y, z⟩ && jvFrom l (js.take (k + 1)) (js.drop (k + 1)))) := by
                  show _ = _
                  rw [hx.out, HST.out, HJ.out, HAL.out, Bool.true_and, Bool.true_and]
                have HIN2 : Hid (∀ u ∈ js.take (k + 1), 0 ≤ u.at_ ∧ u.at_ ≤ 200) := by
                  intro u hu
                  rw [take_snoc HJK.out, List.mem_append] at hu
                  rcases hu with hu | hu
                  · exact hin.out u hu
                  · simp at hu; subst hu; exact ⟨ha0, ha1⟩
                rcases Nat.eq_zero_or_pos k with hk0 | hk0
                · subst hk0
                  have HLB : Hid (lastBad (js.take 0) ⟨x, y, z⟩ = false) := by simp [Hid, lastBad]
                  go_wp2_with fail
                  go_quiet (fail)
                  go_wp2
                  go_roundw
                  case rel => exact ⟨0 + 1, by omega, by go_num, by show _ = _; rw [HX2.out, HLB.out]; rfl, HIN2.out, blw_drewN hwi _⟩
                  case measure => simp [intOf]; omega
                · obtain ⟨k, rfl⟩ : ∃ n, k = n + 1 := ⟨k - 1, by omega⟩
                  obtain ⟨⟨px, py, pz⟩, b', off', hjp, hbo', hbs', d0, d1, d2⟩ := HS.out.get hwi (k := k) (by omega)
                  simp only [Option.some.injEq, Addr.mk.injEq, and_true] at hbo'
                  obtain ⟨rfl, rfl⟩ := hbo'
                  dsimp only at d0 d1 d2
                  have hlb : lastBad (js.take (k + 1)) ⟨x, y, z⟩ = decide (y < py ∨ (py = y ∧ (x : Int) ≤ px)) := by
                    rw [take_snoc hjp]; simp [lastBad, ordBad]
                  have HJP := Lib.hid hjp
                  have HLB := Lib.hid hlb
                  clear hjp hlb
                  have yes : ∀ q, (q = true → ¬ (y < py ∨ (py = y ∧ (x : Int) ≤ px))) → (q = false → (y < py ∨ (py = y ∧ (x : Int) ≤ px))) → Hid (lastBad (js.take (k + 1)) ⟨x, y, z⟩ = !q) := by
                    intro q h1 h2
                    show _ = _
                    rw [HLB.out]
                    cases q
                    · simp [h2 rfl]
                    · simpa using h1 rfl
                  have YES := Lib.hid yes
                  clear yes
                  by_cases h1 : y < py
                  · have LB := YES.out false (by simp) (fun _ => .inl h1)
                    go_wp2_with fail
                    go_quiet (fail)
                    go_wp2
                    go_ret
                    exact ⟨ret_b (by rw [HX2.out, LB.out]; rfl), blw_drewN hwi _⟩
                  · by_cases h2 : py = y
                    · subst h2
                      have hq : (py == py) = true := by simp
                      by_cases h3 : (x : Int) ≤ px
                      · have LB := YES.out false (by simp) (fun _ => .inr ⟨rfl, h3⟩)
                        have hd1 : decide (py < py) = false := by simp
                        clear h1
                        go_wp2_with fail
                        go_quiet (fail)
                        go_wp2
                        go_ret
                        exact ⟨ret_b (by rw [HX2.out, LB.out]; rfl), blw_drewN hwi _⟩
                      · have LB := YES.out true (by simp; omega) (by simp)
                        have hd1 : decide (py < py) = false := by simp
                        have hd3 : decide ((x : Int) ≤ px) = false := by simp; omega
                        clear h1
                        go_wp2_with fail
                        go_quiet (fail)
                        go_wp2
                        go_roundw
                        case rel => exact ⟨k + 1 + 1, by omega, by go_num, by show _ = _; rw [HX2.out, LB.out]; rfl, HIN2.out, blw_drewN hwi _⟩
                        case measure => simp [intOf]; omega
                    · have LB := YES.out true (by simp; omega) (by simp)
                      have hq : (py == y) = false := by simp [h2]
                      have hd1 : decide (y < py) = false := by simp; omega
                      have H2 := Lib.hid h2
                      clear h2
                      go_wp2_with fail
                      go_quiet (fail)
                      go_wp2
                      go_roundw
                      case rel => exact ⟨k + 1 + 1, by omega, by go_num, by show _ = _; rw [HX2.out, LB.out]; rfl, HIN2.out, blw_drewN hwi _⟩
                      case measure => simp [intOf]; omega
        · have HD : Hid (true = jobsOk l js) := by show _ = _; rw [hx.out, drop_end hlt]; rfl
          go_wp2
          go_ret
          exact ⟨ret_b HD.out, hbw⟩
    · have HD : Hid (false = jobsOk l js) := by show _ = _; rw [jobsOk, decide_eq_false h60, Bool.false_and, Bool.and_false]
      go_wp2
      go_ret
      exact ⟨ret_b HD.out, hb1⟩
end Go.Proofs.YtaadlgpglfpmpaaDoor

/-
  What the laws hand on: slices and runs that were made for the call, what a mark may turn, and the walks in these words.
-/




namespace Go.Proofs.YtaadlgpglfpmpaaDoor
open Go.RowKit

/-- Of the blocks that were there only those from lo on and below hi may have turned. -/
structure HitR (lo hi : Nat) (w w' : World) : Prop where
  os : w'.os = w.os
  tape : w'.tape = w.tape
  output : w'.output = w.output
  size : w.heap.size ≤ w'.heap.size
  block : ∀ k, k < w.heap.size → (k < lo ∨ hi ≤ k) → w'.heap[k]? = w.heap[k]?

theorem bw_hit {w0 w w' : World} {lo hi : Nat} (hb : Bw w0 w) (h : HitR lo hi w w') (hl : w0.heap.size ≤ lo) : Bw w0 w' :=
  ⟨h.os.trans hb.os, h.tape.trans hb.tape, h.output.trans hb.output, Nat.le_trans hb.size h.size, fun k hk => (h.block k (Nat.lt_of_lt_of_le hk hb.size) (.inl (by omega))).trans (hb.block k hk)⟩
theorem blk_hit {w w' : World} {lo hi g : Nat} {x : Obj} (h : HitR lo hi w w') (hb : w.heap[g]? = some x) (hg : g < lo ∨ hi ≤ g) : w'.heap[g]? = some x := by rw [h.block g (blk_lt hb) hg]; exact hb
theorem Own.hit {w w' : World} {lo hi b E : Nat} {ao : Option Addr} {xs : List Value} (h : Own w b E ao xs) (hh : HitR lo hi w w') (hb : hi ≤ b) : Own w' b E ao xs := by
  rcases h with h | ⟨g, cur, e, hg, hk, ht⟩
  · exact .inl h
  · exact .inr ⟨g, cur, e, hg, blk_hit hh hk (.inr (by omega)), ht⟩
theorem hit_hitR {w w' : World} {lo hi : Nat} {ao : Option Addr} (h : Hit w w' ao) (hl : ∀ a, ao = some a → lo ≤ a.block ∧ a.block < hi) : HitR lo hi w w' :=
  ⟨h.os, h.tape, h.output, h.size, fun k hk hne => h.block k hk (fun e => by
    cases ao with
    | none => simp at e
    | some a => have := hl a rfl; simp at e; omega)⟩

/-- nil, or an address. -/
def Fit (ao : Option Addr) (c : Nat) : Prop := (ao = none ∧ c = 0) ∨ ∃ b off, ao = some ⟨b, off, none⟩

structure ST (w : World) (v : Value) (l : List Tk) : Prop where
  form : ∃ ao c, v = .slice ao l.length c ∧ RT w ao l ∧ l.length ≤ c ∧ Fit ao c
  n : l.length ≤ 1048576
theorem ST.bw {w w' : World} {v : Value} {l : List Tk} (h : ST w v l) (hb : Bw w w') : ST w' v l := by
  obtain ⟨⟨ao, c, e, r, q⟩, n⟩ := h
  exact ⟨⟨ao, c, e, r.bw hb, q⟩, n⟩
/-- Made for the call: block g whole. -/
structure NT (w : World) (g : Nat) (v : Value) (l : List Tk) : Prop where
  form : v = .slice (some ⟨g, 0, none⟩) l.length l.length
  blk : ∃ cur, w.heap[g]? = some (.cells cur 76 (0, 0)) ∧ cur.toList = tks l
  n : l.length ≤ 1048576
theorem NT.bw {w w' : World} {g : Nat} {v : Value} {l : List Tk} (h : NT w g v l) (hb : Bw w w') : NT w' g v l := by
  obtain ⟨e, ⟨cur, hk, hc⟩, n⟩ := h
  exact ⟨e, ⟨cur, blk_bw hb hk, hc⟩, n⟩
theorem NT.hit {w w' : World} {g lo hi : Nat} {v : Value} {l : List Tk} (h : NT w g v l) (hh : HitR lo hi w w') (hg : g < lo ∨ hi ≤ g) : NT w' g v l := by
  obtain ⟨e, ⟨cur, hk, hc⟩, n⟩ := h
  exact ⟨e, ⟨cur, blk_hit hh hk hg, hc⟩, n⟩
theorem NT.lt {w : World} {g : Nat} {v : Value} {l : List Tk} (h : NT w g v l) : g < w.heap.size := by
  obtain ⟨e, ⟨cur, hk, hc⟩, n⟩ := h
  exact blk_lt hk
structure SJ (w : World) (v : Value) (l : List Jb) : Prop where
  form : ∃ ao c, v = .slice ao l.length c ∧ RJ w ao l ∧ l.length ≤ c ∧ Fit ao c
  n : l.length ≤ 1048576
theorem SJ.bw {w w' : World} {v : Value} {l : List Jb} (h : SJ w v l) (hb : Bw w w') : SJ w' v l := by
  obtain ⟨⟨ao, c, e, r, q⟩, n⟩ := h
  exact ⟨⟨ao, c, e, r.bw hb, q⟩, n⟩
/-- Made for the call: block g whole. -/
structure NJ (w : World) (g : Nat) (v : Value) (l : List Jb) : Prop where
  form : v = .slice (some ⟨g, 0, none⟩) l.length l.length
  blk : ∃ cur, w.heap[g]? = some (.cells cur 57 (0, 0)) ∧ cur.toList = jbs l
  n : l.length ≤ 1048576
theorem NJ.bw {w w' : World} {g : Nat} {v : Value} {l : List Jb} (h : NJ w g v l) (hb : Bw w w') : NJ w' g v l := by
  obtain ⟨e, ⟨cur, hk, hc⟩, n⟩ := h
  exact ⟨e, ⟨cur, blk_bw hb hk, hc⟩, n⟩
theorem NJ.hit {w w' : World} {g lo hi : Nat} {v : Value} {l : List Jb} (h : NJ w g v l) (hh : HitR lo hi w w') (hg : g < lo ∨ hi ≤ g) : NJ w' g v l := by
  obtain ⟨e, ⟨cur, hk, hc⟩, n⟩ := h
  exact ⟨e, ⟨cur, blk_hit hh hk hg, hc⟩, n⟩
theorem NJ.lt {w : World} {g : Nat} {v : Value} {l : List Jb} (h : NJ w g v l) : g < w.heap.size := by
  obtain ⟨e, ⟨cur, hk, hc⟩, n⟩ := h
  exact blk_lt hk
theorem NT.st {w : World} {g : Nat} {v : Value} {l : List Tk} (h : NT w g v l) : ST w v l := by
  obtain ⟨e, ⟨cur, hk, hc⟩, n⟩ := h
  exact ⟨⟨_, _, e, (own_blk (Nat.zero_le _) hk hc).rt, Nat.le_refl _, .inr ⟨_, _, rfl⟩⟩, n⟩
theorem NJ.st {w : World} {g : Nat} {v : Value} {l : List Jb} (h : NJ w g v l) : SJ w v l := by
  obtain ⟨e, ⟨cur, hk, hc⟩, n⟩ := h
  exact ⟨⟨_, _, e, (own_blk (Nat.zero_le _) hk hc).rj, Nat.le_refl _, .inr ⟨_, _, rfl⟩⟩, n⟩
theorem NR.st {w : World} {g : Nat} {v : Value} {l : Rn} (h : NR w g v l) : RR w v l := h.rr

theorem toJobs {w0 w : World} {v : Value} {l : List Jb} (h : RawJ w0 v l) (hn : l.length ≤ 1048576) (hb : Bw w0 w) : Calls Tryd.prog 31 #[v] w fun e w' => ∃ u, e = .returned u ∧ NJ w' w.heap.size u l ∧ Bw w w' := by
  obtain ⟨⟨ao, c, rfl, r⟩, _, _⟩ := h
  exact (toJobS_any ao c w l hn (r.bw hb)).mono fun e w' ⟨he, hb', cur, hk, hc⟩ => ⟨_, he, ⟨rfl, ⟨cur, hk, hc⟩, hn⟩, hb'⟩

/-- A result slice of the call's own (or empty). -/
def RS (w : World) (E : Nat) (xs : List Value) (n : Nat) (e : Ending) (w' : World) : Prop := ∃ ao c, e = .returned (.slice ao n c) ∧ Own w' w.heap.size E ao xs ∧ Bw w w'
/-- Such a slice and whether there is one. -/
def RP (w : World) (E : Nat) (xs : List Value) (n : Nat) (ok : Bool) (e : Ending) (w' : World) : Prop := ∃ ao c, e = .returned (.tuple #[.slice ao n c, .bool ok]) ∧ Own w' w.heap.size E ao xs ∧ Bw w w'
theorem Ret.rs {w : World} {E size : Nat} {xs : List Value} {n : Nat} {e : Ending} {w' : World} (h : Ret w E size xs n e w') : RS w E xs n e w' := by
  obtain ⟨ao, c, he, ho, hb⟩ := h
  exact ⟨ao, c, he, Own.ofRow ho, hb⟩

/-- The end of a mark on a result. -/
def MkEnd (w : World) (ao : Option Addr) (b E : Nat) (q : Int) (xs : List Value) (e : Ending) (w' : World) : Prop := e = .returned (.int .i64 q) ∧ HitR b w.heap.size w w' ∧ Own w' b E ao xs

theorem mk_end {w w' : World} {ao : Option Addr} {b E : Nat} {q : Int} {xs ys : List Value} {e : Ending} (ho : Own w b E ao ys) (hl : xs.length = ys.length) (h : MarkEnd w ao E q xs e w') : MkEnd w ao b E q xs e w' := by
  obtain ⟨he, hh, hx, hnil⟩ := h
  rcases ho with h0 | ⟨g, cur, rfl, hg, hk, ht⟩
  · subst h0
    have : xs = [] := List.eq_nil_of_length_eq_zero (by simpa using hl)
    rw [hnil this]
    exact ⟨he, ⟨rfl, rfl, rfl, Nat.le_refl _, fun _ _ _ => rfl⟩, .inl this⟩
  · refine ⟨he, hit_hitR hh (fun a ha => by simp at ha; subst ha; exact ⟨hg, blk_lt hk⟩), ?_⟩
    rcases hx with hx | ⟨g', cur', e', _, hk', ht'⟩
    · exact .inl hx
    · simp at e'; subst e'; exact .inr ⟨g, cur', rfl, hg, hk', ht'⟩

theorem own_room {w : World} {b E : Nat} {ao : Option Addr} {xs : List Value} (h : Own w b E ao xs) : xs.length = 0 ∨ ∃ g cur, ao = some ⟨g, 0, none⟩ ∧ w.heap[g]? = some (.cells cur E (0, 0)) ∧ xs.length ≤ cur.size := by
  rcases h with h | ⟨g, cur, e, _, hh, ht⟩
  · exact .inl (by rw [h]; rfl)
  · refine .inr ⟨g, cur, e, hh, ?_⟩
    rw [← ht]; simp only [List.length_take, Array.length_toList]; omega

end Go.Proofs.YtaadlgpglfpmpaaDoor

/-
  The contracts in the words that the laws use.
-/

namespace Go.Proofs.YtaadlgpglfpmpaaDoor
open Go.RowKit
theorem own_ri {w : World} {b E : Nat} {ao : Option Addr} {l : List Int} (h : Own w b E ao (ints l)) : RI w ao l := h.ri

set_option maxHeartbeats 3200000 in
theorem same_impl {w : World} {v u : Value} {r s : Rn} (hv : RR w v r) (hu : RR w u s) : Calls Tryd.prog 21 #[v, u] w fun e w' => e = .returned (.bool (eqR r s)) ∧ Bw w w' := by
  obtain ⟨⟨a1, c1, a2, c2, a3, c3, rfl, h1, h2, h3⟩, n1, n2, n3, _⟩ := hv
  obtain ⟨⟨b1, d1, b2, d2, b3, d3, rfl, k1, k2, k3⟩, m1, m2, m3, _⟩ := hu
  have H1 := Lib.hid h1
  have H2 := Lib.hid h2
  have H3 := Lib.hid h3
  have K1 := Lib.hid k1
  have K2 := Lib.hid k2
  have K3 := Lib.hid k3
  clear h1 h2 h3 k1 k2 k3
  obtain ⟨e1, E1⟩ : ∃ b, Hid (eqI r.ended s.ended = b) := ⟨_, rfl⟩
  obtain ⟨e2, E2⟩ : ∃ b, Hid (eqI r.trace s.trace = b) := ⟨_, rfl⟩
  obtain ⟨e3, E3⟩ : ∃ b, Hid (eqI r.switches s.switches = b) := ⟨_, rfl⟩
  have E : Hid (eqR r s = (e1 && e2 && e3 && (r.high == s.high))) := by show eqR r s = _; rw [eqR, E1.out, E2.out, E3.out]
  obtain ⟨rh, RH⟩ : ∃ x, Hid (r.high = x) := ⟨_, rfl⟩
  obtain ⟨sh, SH⟩ : ∃ x, Hid (s.high = x) := ⟨_, rfl⟩
  rw [RH.out, SH.out]
  have E' : Hid (eqR r s = (e1 && e2 && e3 && (rh == sh))) := by show _ = _; rw [E.out, RH.out, SH.out]
  clear E
  go_enter Tryd.func21, Tryd.ntmps21
  go_wp2_with fail
  refine (slicesEqual_any _ _ _ _ _ _ _ (H1.out.bw (bw_trans (bw_alloc _ _) (bw_alloc _ _))) (K1.out.bw (bw_trans (bw_alloc _ _) (bw_alloc _ _))) n1 m1).mono ?_
  rw [E1.out]
  rintro e w1 ⟨rfl, hb1⟩
  have hw1 := bw_trans (bw_trans (bw_alloc _ _) (bw_alloc _ _)) hb1
  have C1 := Lib.hid (box_two hb1).1
  have C2 := Lib.hid (box_two hb1).2
  cases e1 with
  | false =>
    go_wp2
    go_ret
    exact ⟨ret_b (by rw [E'.out]; simp), hw1⟩
  | true =>
    have p2 := blk_cell C1.out 1 rfl
    have q2 := blk_cell C2.out 1 rfl
    go_wp2_with fail
    refine (slicesEqual_any _ _ _ _ _ _ _ (H2.out.bw hw1) (K2.out.bw hw1) n2 m2).mono ?_
    rw [E2.out]
    rintro e w2 ⟨rfl, hb2⟩
    have hw2 := bw_trans hw1 hb2
    clear p2 q2
    cases e2 with
    | false =>
      go_wp2
      go_ret
      exact ⟨ret_b (by rw [E'.out]; simp), hw2⟩
    | true =>
      have p3 := blk_cell (blk_bw hb2 C1.out) 2 rfl
      have q3 := blk_cell (blk_bw hb2 C2.out) 2 rfl
      go_wp2_with fail
      refine (slicesEqual_any _ _ _ _ _ _ _ (H3.out.bw hw2) (K3.out.bw hw2) n3 m3).mono ?_
      rw [E3.out]
      rintro e w3 ⟨rfl, hb3⟩
      have hw3 := bw_trans hw2 hb3
      clear p3 q3
      cases e3 with
      | false =>
        go_wp2
        go_ret
        exact ⟨ret_b (by rw [E'.out]; simp), hw3⟩
      | true =>
        have p3' := blk_cell (blk_bw hb3 (blk_bw hb2 C1.out)) 3 rfl
        have q3' := blk_cell (blk_bw hb3 (blk_bw hb2 C2.out)) 3 rfl
        cases rh <;> cases sh
        all_goals
          go_wp2
          go_ret
          exact ⟨ret_b (by rw [E'.out]; rfl), hw3⟩
set_option maxHeartbeats 3200000 in
theorem same_spec {w : World} {v u : Value} {r s : Rn} (hv : RR w v r) (hu : RR w u s) : Calls Tryd.prog 22 #[v, u] w fun e w' => e = .returned (.bool (eqR r s)) ∧ Bw w w' := by
  obtain ⟨⟨a1, c1, a2, c2, a3, c3, rfl, h1, h2, h3⟩, n1, n2, n3, _⟩ := hv
  obtain ⟨⟨b1, d1, b2, d2, b3, d3, rfl, k1, k2, k3⟩, m1, m2, m3, _⟩ := hu
  have H1 := Lib.hid h1
  have H2 := Lib.hid h2
  have H3 := Lib.hid h3
  have K1 := Lib.hid k1
  have K2 := Lib.hid k2
  have K3 := Lib.hid k3
  clear h1 h2 h3 k1 k2 k3
  obtain ⟨e1, E1⟩ : ∃ b, Hid (eqI r.ended s.ended = b) := ⟨_, rfl⟩
  obtain ⟨e2, E2⟩ : ∃ b, Hid (eqI r.trace s.trace = b) := ⟨_, rfl⟩
  obtain ⟨e3, E3⟩ : ∃ b, Hid (eqI r.switches s.switches = b) := ⟨_, rfl⟩
  have E : Hid (eqR r s = (e1 && e2 && e3 && (r.high == s.high))) := by show eqR r s = _; rw [eqR, E1.out, E2.out, E3.out]
  obtain ⟨rh, RH⟩ : ∃ x, Hid (r.high = x) := ⟨_, rfl⟩
  obtain ⟨sh, SH⟩ : ∃ x, Hid (s.high = x) := ⟨_, rfl⟩
  rw [RH.out, SH.out]
  have E' : Hid (eqR r s = (e1 && e2 && e3 && (rh == sh))) := by show _ = _; rw [E.out, RH.out, SH.out]
  clear E
  cases rh <;> cases sh
  · go_enter Tryd.func22, Tryd.ntmps22
    go_wp2_with fail
    refine (l7Ints_any _ _ _ _ _ _ _ (H1.out.bw (bw_trans (bw_alloc _ _) (bw_alloc _ _))) (K1.out.bw (bw_trans (bw_alloc _ _) (bw_alloc _ _))) n1 m1).mono ?_
    rw [E1.out]
    rintro e w1 ⟨rfl, hb1⟩
    have hw1 := bw_trans (bw_trans (bw_alloc _ _) (bw_alloc _ _)) hb1
    have C1 := Lib.hid (box_two hb1).1
    have C2 := Lib.hid (box_two hb1).2
    cases e1 with
    | false =>
      go_wp2
      go_ret
      exact ⟨ret_b (by rw [E'.out]; simp), hw1⟩
    | true =>
      have p2 := blk_cell C1.out 1 rfl
      have q2 := blk_cell C2.out 1 rfl
      go_wp2_with fail
      refine (l7Ints_any _ _ _ _ _ _ _ (H2.out.bw hw1) (K2.out.bw hw1) n2 m2).mono ?_
      rw [E2.out]
      rintro e w2 ⟨rfl, hb2⟩
      have hw2 := bw_trans hw1 hb2
      clear p2 q2
      cases e2 with
      | false =>
        go_wp2
        go_ret
        exact ⟨ret_b (by rw [E'.out]; simp), hw2⟩
      | true =>
        have p3 := blk_cell (blk_bw hb2 C1.out) 2 rfl
        have q3 := blk_cell (blk_bw hb2 C2.out) 2 rfl
        go_wp2_with fail
        refine (l7Ints_any _ _ _ _ _ _ _ (H3.out.bw hw2) (K3.out.bw hw2) n3 m3).mono ?_
        rw [E3.out]
        rintro e w3 ⟨rfl, hb3⟩
        have hw3 := bw_trans hw2 hb3
        clear p3 q3
        cases e3 with
        | false =>
          go_wp2
          go_ret
          exact ⟨ret_b (by rw [E'.out]; simp), hw3⟩
        | true =>
          go_wp2
          go_ret
          exact ⟨ret_b (by rw [E'.out]; rfl), hw3⟩
  · go_enter Tryd.func22, Tryd.ntmps22
    go_wp2
    go_ret
    exact ⟨ret_b (by rw [E'.out]; simp), bw_trans (bw_alloc _ _) (bw_alloc _ _)⟩
  · go_enter Tryd.func22, Tryd.ntmps22
    go_wp2
    go_ret
    exact ⟨ret_b (by rw [E'.out]; simp), bw_trans (bw_alloc _ _) (bw_alloc _ _)⟩
  · go_enter Tryd.func22, Tryd.ntmps22
    go_wp2_with fail
    refine (l7Ints_any _ _ _ _ _ _ _ (H1.out.bw (bw_trans (bw_alloc _ _) (bw_alloc _ _))) (K1.out.bw (bw_trans (bw_alloc _ _) (bw_alloc _ _))) n1 m1).mono ?_
    rw [E1.out]
    rintro e w1 ⟨rfl, hb1⟩
    have hw1 := bw_trans (bw_trans (bw_alloc _ _) (bw_alloc _ _)) hb1
    have C1 := Lib.hid (box_two hb1).1
    have C2 := Lib.hid (box_two hb1).2
    cases e1 with
    | false =>
      go_wp2
      go_ret
      exact ⟨ret_b (by rw [E'.out]; simp), hw1⟩
    | true =>
      have p2 := blk_cell C1.out 1 rfl
      have q2 := blk_cell C2.out 1 rfl
      go_wp2_with fail
      refine (l7Ints_any _ _ _ _ _ _ _ (H2.out.bw hw1) (K2.out.bw hw1) n2 m2).mono ?_
      rw [E2.out]
      rintro e w2 ⟨rfl, hb2⟩
      have hw2 := bw_trans hw1 hb2
      clear p2 q2
      cases e2 with
      | false =>
        go_wp2
        go_ret
        exact ⟨ret_b (by rw [E'.out]; simp), hw2⟩
      | true =>
        have p3 := blk_cell (blk_bw hb2 C1.out) 2 rfl
        have q3 := blk_cell (blk_bw hb2 C2.out) 2 rfl
        go_wp2_with fail
        refine (l7Ints_any _ _ _ _ _ _ _ (H3.out.bw hw2) (K3.out.bw hw2) n3 m3).mono ?_
        rw [E3.out]
        rintro e w3 ⟨rfl, hb3⟩
        have hw3 := bw_trans hw2 hb3
        clear p3 q3
        cases e3 with
        | false =>
          go_wp2
          go_ret
          exact ⟨ret_b (by rw [E'.out]; simp), hw3⟩
        | true =>
          go_wp2
          go_ret
          exact ⟨ret_b (by rw [E'.out]; rfl), hw3⟩
theorem dropped_len {r : Rn} {w : World} {v : Value} (h : RR w v r) : (dropped r.ended).length ≤ 1048576 := Nat.le_trans (dropFrom_len _ _) h.n1

theorem keep4 {w5 W : World} {g : Nat} {v0 v1 v2 v3 : Value} (hb : Bw w5 W)
    (hs : w5.cell? ⟨g, 0, none⟩ = some v0 ∧ w5.cell? ⟨g, 1, none⟩ = some v1 ∧ w5.cell? ⟨g, 2, none⟩ = some v2 ∧ w5.cell? ⟨g, 3, none⟩ = some v3) :
    W.cell? ⟨g, 0, none⟩ = some v0 ∧ W.cell? ⟨g, 1, none⟩ = some v1 ∧ W.cell? ⟨g, 2, none⟩ = some v2 ∧ W.cell? ⟨g, 3, none⟩ = some v3 := by
  obtain ⟨a, b, c, d⟩ := hs
  exact ⟨cell_bw hb a, cell_bw hb b, cell_bw hb c, cell_bw hb d⟩
/-- What a size leaves: less than nothing, or what is left of the limit. -/
def Sz (left : Int) (n : Nat) (q : Int) : Prop := q < 0 ∨ (0 ≤ q ∧ q + n = left)
def SzEnd (w : World) (left : Int) (n : Nat) (e : Ending) (w' : World) : Prop := ∃ q, e = .returned (.int .i64 q) ∧ Bw w w' ∧ Sz left n q
theorem box4 {w : World} {g E : Nat} {x0 x1 x2 x3 : Value} (h : w.heap[g]? = some (.cells #[x0, x1, x2, x3] E (0, 0))) :
    w.cell? ⟨g, 0, none⟩ = some x0 ∧ w.cell? ⟨g, 1, none⟩ = some x1 ∧ w.cell? ⟨g, 2, none⟩ = some x2 ∧ w.cell? ⟨g, 3, none⟩ = some x3 :=
  ⟨blk_cell h 0 rfl, blk_cell h 1 rfl, blk_cell h 2 rfl, blk_cell h 3 rfl⟩

set_option maxHeartbeats 800000 in
theorem szRun_any (a1 a2 a3 : Option Addr) (n1 c1 n2 c2 n3 c3 : Nat) (h : Bool) (left : Int) (w : World) (h1 : n1 ≤ maxLen) (h2 : n2 ≤ maxLen) (h3 : n3 ≤ maxLen) (l0 : 0 ≤ left) (l1 : left ≤ 1048576) :
    Calls Tryd.prog 26 #[rnVal a1 n1 c1 a2 n2 c2 a3 n3 c3 h, .int .i64 left] w (SzEnd w left (n1 + n2 + n3)) := by
  go_enter Tryd.func26, Tryd.ntmps26
  go_wp2_with fail
  refine (szIntS_any _ _ _ _ _ h1 l0 l1).mono ?_
  by_cases k1 : left - (n1 : Int) < 0
  · rw [if_pos k1]
    rintro e w1 ⟨rfl, rfl⟩
    go_wp2
    go_ret
    exact ⟨-1, rfl, bw_alloc _ _, .inl (by omega)⟩
  · rw [if_neg k1]
    rintro e w1 ⟨rfl, rfl⟩
    go_wp2_with fail
    refine (szIntS_any _ _ _ _ _ h2 (by omega) (by omega)).mono ?_
    by_cases k2 : left - (n1 : Int) - (n2 : Int) < 0
    · rw [if_pos k2]
      rintro e w1 ⟨rfl, rfl⟩
      go_wp2
      go_ret
      exact ⟨-1, rfl, bw_alloc _ _, .inl (by omega)⟩
    · rw [if_neg k2]
      rintro e w1 ⟨rfl, rfl⟩
      go_wp2_with fail
      refine (szIntS_any _ _ _ _ _ h3 (by omega) (by omega)).mono ?_
      by_cases k3 : left - (n1 : Int) - (n2 : Int) - (n3 : Int) < 0
      · rw [if_pos k3]
        rintro e w1 ⟨rfl, rfl⟩
        go_wp2
        go_ret
        exact ⟨-1, rfl, bw_alloc _ _, .inl (by omega)⟩
      · rw [if_neg k3]
        rintro e w1 ⟨rfl, rfl⟩
        go_wp2
        go_ret
        exact ⟨_, rfl, bw_alloc _ _, .inr ⟨by omega, by omega⟩⟩


theorem szJobE (ao : Option Addr) (n c : Nat) (left : Int) (w : World) (hn : n ≤ maxLen) (h0 : 0 ≤ left) (h1 : left ≤ 1048576) : Calls Tryd.prog 29 #[.slice ao n c, .int .i64 left] w (SzEnd w left n) :=
  (szJobS_any ao n c left w hn h0 h1).mono fun e w' ⟨he, hw⟩ => by
    subst hw
    by_cases h : left - (n : Int) < 0
    · rw [if_pos h] at he; exact ⟨-1, he, Bw.refl _, .inl (by omega)⟩
    · rw [if_neg h] at he; exact ⟨_, he, Bw.refl _, .inr ⟨by omega, by omega⟩⟩
theorem eqI_self (l : List Int) : eqI l l = true := by simp [eqI_iff]
theorem rr_raw {w : World} {v : Value} {r : Rn} (h : RawRun w v r) (n1 : r.ended.length ≤ 1048576) (n2 : r.trace.length ≤ 1048576) (n3 : r.switches.length ≤ 1048576) : RR w v r := by
  obtain ⟨f, _, _, _, ng⟩ := h
  exact ⟨f, n1, n2, n3, ng⟩
theorem Own.bw' {w w' : World} {base E : Nat} {ao : Option Addr} {xs : List Value} (hb : Bw w w') (h : Own w base E ao xs) : Own w' base E ao xs := h.bw hb
theorem Own.hit' {w w' : World} {lo hi b E : Nat} {ao : Option Addr} {xs : List Value} (hh : HitR lo hi w w') (h : Own w b E ao xs) (hb : hi ≤ b) : Own w' b E ao xs := h.hit hh hb
theorem NT.bw' {w w' : World} {g : Nat} {v : Value} {l : List Tk} (hb : Bw w w') (h : NT w g v l) : NT w' g v l := h.bw hb
theorem NT.hit' {w w' : World} {lo hi g : Nat} {v : Value} {l : List Tk} (hh : HitR lo hi w w') (h : NT w g v l) (hg : g < lo ∨ hi ≤ g) : NT w' g v l := h.hit hh hg
theorem NJ.bw' {w w' : World} {g : Nat} {v : Value} {l : List Jb} (hb : Bw w w') (h : NJ w g v l) : NJ w' g v l := h.bw hb
theorem NJ.hit' {w w' : World} {lo hi g : Nat} {v : Value} {l : List Jb} (hh : HitR lo hi w w') (h : NJ w g v l) (hg : g < lo ∨ hi ≤ g) : NJ w' g v l := h.hit hh hg
end Go.Proofs.YtaadlgpglfpmpaaDoor

/-
  The walk of spec.JobsValid: it returns what impl.JobsValid's mirror says and writes nothing that was there.
-/


namespace Go.Proofs.YtaadlgpglfpmpaaDoor
open Go.RowKit

/-- When the last job of a task came; -20 where none did. -/
def lastAt (x : Int) : List Jb → Int
  | [] => -20
  | u :: l => let r := lastAt x l; if l.any (fun v => decide (v.task = x)) then r else if u.task = x then u.at_ else -20
theorem lastAt_snoc (x : Int) (l : List Jb) (j : Jb) : lastAt x (l ++ [j]) = if j.task = x then j.at_ else lastAt x l := by
  induction l with
  | nil => simp [lastAt]
  | cons u l ih =>
    simp only [List.cons_append, lastAt, ih, List.any_append, List.any_cons, List.any_nil, Bool.or_false]
    by_cases h : j.task = x
    · simp [h]
    · simp [h]
theorem lastAt_none (x : Int) (l : List Jb) (h : l.any (fun v => decide (v.task = x)) = false) : lastAt x l = -20 := by
  induction l with
  | nil => rfl
  | cons u l ih =>
    simp only [List.any_cons, Bool.or_eq_false_iff, decide_eq_false_iff_not] at h
    simp [lastAt, h.1, h.2]
/-- The jobs done came one after the other. -/
def Rising : List Jb → Prop
  | [] => True
  | u :: l => (∀ v ∈ l, u.at_ ≤ v.at_) ∧ Rising l
theorem rising_snoc (l : List Jb) (j : Jb) : Rising (l ++ [j]) ↔ Rising l ∧ ∀ u ∈ l, u.at_ ≤ j.at_ := by
  induction l with
  | nil => simp [Rising]
  | cons u l ih =>
    simp only [List.cons_append, Rising, ih, List.mem_append, List.mem_cons, List.not_mem_nil, or_false]
    constructor
    · rintro ⟨h1, h2, h3⟩
      refine ⟨⟨fun v hv => h1 v (.inl hv), h2⟩, fun v hv => ?_⟩
      rcases hv with rfl | hv
      · exact h1 j (.inr rfl)
      · exact h3 v hv
    · rintro ⟨⟨h1, h2⟩, h3⟩
      refine ⟨fun v hv => ?_, h2, fun v hv => h3 v (.inr hv)⟩
      rcases hv with hv | rfl
      · exact h1 v hv
      · exact h3 u (.inl rfl)
/-- Of all jobs done the last one of the task decides. -/
theorem clash_last (ev : Int) (j : Jb) (h0 : 0 ≤ j.at_) (h20 : ev ≤ 20) (l : List Jb) (hr : Rising l) : (l.all fun u => !clash ev j u) = !decide (j.at_ - lastAt j.task l < ev) := by
  induction l with
  | nil => simp [lastAt]; omega
  | cons u l ih =>
    simp only [List.all_cons, ih hr.2]
    by_cases ha : l.any (fun v => decide (v.task = j.task)) = true
    · have hl : lastAt j.task (u :: l) = lastAt j.task l := by simp [lastAt, ha]
      rw [hl]
      by_cases hc : j.at_ - lastAt j.task l < ev
      · simp [hc]
      · have hu : u.at_ ≤ lastAt j.task l := by
          clear ih hl hc
          have h1 := hr.1
          clear hr
          induction l with
          | nil => simp at ha
          | cons v l ih2 =>
            by_cases hb : l.any (fun v => decide (v.task = j.task)) = true
            · have : lastAt j.task (v :: l) = lastAt j.task l := by simp [lastAt, hb]
              rw [this]; exact ih2 hb (fun q hq => h1 q (List.mem_cons_of_mem _ hq))
            · have hb' : l.any (fun v => decide (v.task = j.task)) = false := by simpa using hb
              have hv : v.task = j.task := by
                rw [List.any_cons, hb', Bool.or_false] at ha; simpa using ha
              have : lastAt j.task (v :: l) = v.at_ := by simp [lastAt, hb', hv]
              rw [this]; exact h1 v (List.mem_cons_self ..)
        simp [hc, clash]; omega
    · have ha' : l.any (fun v => decide (v.task = j.task)) = false := by simpa using ha
      rw [lastAt_none _ _ ha']
      have e1 : (!decide (j.at_ - (-20) < ev)) = true := by simp; omega
      rw [e1, Bool.and_true]
      by_cases hu : u.task = j.task
      · simp [lastAt, ha', hu, clash]
      · simp [lastAt, ha', hu, clash]; omega

theorem before_last (p j : Jb) : (!ordBad p j) = jbBefore p.task p.at_ j.task j.at_ := by
  unfold ordBad jbBefore
  rw [Bool.eq_iff_iff]; simp; omega

theorem lastAt_bd (x : Int) (l : List Jb) (h : ∀ u ∈ l, 0 ≤ u.at_ ∧ u.at_ ≤ 200) : -20 ≤ lastAt x l ∧ lastAt x l ≤ 200 := by
  induction l with
  | nil => simp [lastAt]
  | cons u l ih =>
    have h1 := h u (List.mem_cons_self ..)
    have h2 := ih fun v hv => h v (List.mem_cons_of_mem _ hv)
    simp only [lastAt]
    split
    · exact h2
    · split <;> omega
theorem rising_next {l : List Jb} {j : Jb} (h : Rising l) (hb : lastBad l j = false) : Rising (l ++ [j]) := by
  rw [rising_snoc]
  refine ⟨h, fun u hu => ?_⟩
  rcases List.eq_nil_or_concat l with rfl | ⟨i, p, rfl⟩
  · cases hu
  · simp [lastBad, ordBad] at hb
    rw [List.concat_eq_append] at h hu
    rw [rising_snoc] at h
    rcases List.mem_append.1 hu with hu | hu
    · have := h.2 u hu; omega
    · simp at hu; subst hu; exact hb.1

set_option maxRecDepth 100000 in
set_option maxHeartbeats 6000000 in
theorem JobsValid_spec (ao bo : Option Addr) (c d : Nat) (w : World) (l : List Tk) (js : List Jb) (hl : l.length ≤ 1048576) (hj : js.length ≤ 1048576) (hr : RT w ao l) (hs : RJ w bo js) :
    Calls Tryd.prog 52 #[.slice ao l.length c, .slice bo js.length d] w fun r w' => r = .returned (.bool (jobsOk l js)) ∧ Bw w w' := by
  have HR := Lib.hid hr
  have HS := Lib.hid hs
  clear hr hs
  go_enter Tryd.func52, Tryd.ntmps52
  go_wp2_with fail
  refine (spec.SetValid_walk _ _ _ l hl HR.out).mono ?_
  obtain ⟨q, HQ⟩ : ∃ q, Hid (setOk l = q) := ⟨_, rfl⟩
  rw [HQ.out]
  rintro e w1 ⟨rfl, hb1⟩
  cases q with
  | false =>
    go_wp2
    go_ret
    exact ⟨ret_b (by rw [jobsOk, HQ.out, Bool.false_and]), hb1⟩
  | true =>
    by_cases h60 : js.length ≤ 60
    · have hx0 : jobsOk l js = jvFrom l [] js := by rw [jobsOk, HQ.out, Bool.true_and, decide_eq_true h60, Bool.true_and]
      have hl5 := setOk_len HQ.out
      have hmk := mkInt l.length (by omega)
      have HX0 := Lib.hid hx0
      clear hx0
      go_wp2
      clear hmk
      go_loopw [6] (fun i wr => ∃ (k : Nat) (cur : Array Value), k ≤ l.length ∧ i = .int .i64 k ∧ Hid (wr.heap[w1.heap.size]? = some (.cells cur 3 (0, 0))) ∧ Hid (cur.size = l.length) ∧ Hid (cur.toList.take k = ints (List.replicate k (-20))) ∧ Bw w1 wr) (fun i _ => l.length - (intOf i).toNat)
      case atStart => exact ⟨0, _, Nat.zero_le _, rfl, heap_alloc_new w1 _, by simp [Hid, madeCells], by simp [Hid, ints], bw_alloc _ _⟩
      case round =>
        obtain ⟨k, cur, hk, rfl, HB, HC, hx, hbw⟩ := hrel
        by_cases hlt : k < l.length
        · have hk2 : k < cur.size := by rw [HC.out]; exact hlt
          have hold := blk_cell HB.out k (v := cur[k]) (by simp [hk2])
          have hfree := blk_free HB.out k
          obtain ⟨vo, HVO⟩ : ∃ v, Hid (cur[k] = v) := ⟨cur[k], rfl⟩
          rw [HVO.out] at hold
          go_wp2
          go_roundw
          case rel => exact ⟨k + 1, cur.setIfInBounds k (vi (-20)), by omega, by go_num, blk_set HB.out k _, by show _ = _; simp [HC.out], by
              show _ = _
              rw [fill_one hx.out hk2, List.replicate_succ', ints_append]; rfl, bw_set hbw (Nat.le_refl _) _ _⟩
          case measure => simp [intOf]; omega
        · have hcu : cur.toList = ints (List.replicate l.length (-20)) := by
            have := hx.out
            have hkl : k = l.length := by omega
            rw [List.take_of_length_le (by simp [HC.out]; omega), hkl] at this
            exact this
          have HCU := Lib.hid hcu
          clear hcu
          obtain ⟨wo, rfl⟩ : ∃ wo : World, wo = wr := ⟨_, rfl⟩
          go_wp2
          go_loopw [7] (fun i wr => ∃ (k : Nat) (cu : Array Value), k ≤ js.length ∧ i = .int .i64 k ∧ Hid (jobsOk l js = jvFrom l (js.take k) (js.drop k)) ∧ Hid (∀ x ∈ js.take k, 0 ≤ x.at_ ∧ x.at_ ≤ 200) ∧ Hid (Rising (js.take k)) ∧ Hid (wr.heap[w1.heap.size]? = some (.cells cu 3 (0, 0))) ∧ Hid (cu.size = l.length ∧ ∀ i, i < l.length → cu[i]? = some (vi (lastAt i (js.take k)))) ∧ Bw w1 wr) (fun i _ => js.length - (intOf i).toNat)
          case atStart => exact ⟨0, cur, Nat.zero_le _, rfl, HX0.out, by intro x hx; simp at hx, trivial, HB.out, ⟨HC.out, fun i hi => by
              rw [← Array.getElem?_toList, HCU.out]; simp [ints, lastAt, hi]⟩, hbw⟩
          case round =>
            clear hbw hk hlt
            obtain ⟨k, cu, hk, rfl, hx, hin, hri, HB2, hc2, hbw⟩ := hrel
            obtain ⟨wv, rfl⟩ : ∃ wv : World, wv = wr := ⟨_, rfl⟩
            have hwk := bw_trans hb1 hbw
            by_cases hlt : k < js.length
            · obtain ⟨⟨x, y, z⟩, b, off, hjk, hbo, hbs, c0, c1, c2⟩ := HS.out.get hwk hlt
              dsimp only at c0 c1 c2
              have HJK := Lib.hid hjk
              clear hjk
              subst hbo
              have hst : jvFrom l (js.take k) (js.drop k) = (jobIn l ⟨x, y, z⟩ && (((js.take k).all fun u => !clash (evAt l ⟨x, y, z⟩) ⟨x, y, z⟩ u) && (!lastBad (js.take k) ⟨x, y, z⟩ && jvFrom l (js.take (k + 1)) (js.drop (k + 1))))) := by
                rw [drop_cons HJK.out, take_snoc HJK.out]; rfl
              have HST := Lib.hid hst
              clear hst
              obtain ⟨q, HJ⟩ : ∃ q, Hid (l6In l ⟨x, y, z⟩ = q) := ⟨_, rfl⟩
              have HJI : Hid (jobIn l ⟨x, y, z⟩ = q) := by show _ = _; rw [jobIn, HQ.out, Bool.true_and, HJ.out]
              have hpc := fun (W : World) (hW : Bw w W) => l6Job_any ao c W l x y z hl (HR.out.bw hW)
              simp only [HJ.out] at hpc
              have HPC := Lib.hid hpc
              clear hpc
              cases q with
              | false =>
                have b0 := fun d os => cell_regrown (w := wv.alloc (.cells #[.int .i64 x, .int .i64 y, .int .i64 z] 57)) (a := ⟨wv.heap.size, 0, none⟩) (v := .int .i64 x) (by simp) d os
                have b1 := fun d os => cell_regrown (w := wv.alloc (.cells #[.int .i64 x, .int .i64 y, .int .i64 z] 57)) (a := ⟨wv.heap.size, 1, none⟩) (v := .int .i64 y) (by simp) d os
                have b2 := fun d os => cell_regrown (w := wv.alloc (.cells #[.int .i64 x, .int .i64 y, .int .i64 z] 57)) (a := ⟨wv.heap.size, 2, none⟩) (v := .int .i64 z) (by simp) d os
                go_wp2_with fail
                refine wp_region_quiet_below (by kernel_rfl) (by kernel_rfl) ?_
                repeat (go_big_quiet_step ((go_at_call 79; exact Calls.regrown_of (HPC.out _ (bw_trans (bw_trans hwk (bw_alloc _ _)) (below_regrown _ _ _))))))
                refine wpQuiet_nil ?_
                intro wq hw'
                have hbq := bw_of_ex hw'
                clear hw'
                go_wp2
                go_ret
                exact ⟨ret_b (by rw [hx.out, HST.out, HJI.out, Bool.false_and]), bw_trans (bw_trans hwk (bw_alloc _ _)) hbq⟩
              | true =>
                obtain ⟨hso, ht0, htl, ha0, ha1, hn1, t, htk, hnh⟩ := jobIn_spec HJI.out
                dsimp only at ht0 htl ha0 ha1 hn1 htk hnh
                obtain ⟨x, rfl⟩ : ∃ n : Nat, x = (n : Int) := ⟨x.toNat, by omega⟩
                have hev : evAt l ⟨(x : Int), y, z⟩ = t.every := by simp [evAt] at htk ⊢; rw [htk]
                have hx' : x < l.length := by omega
                have htk' : l[x]? = some t := by simpa using htk
                obtain ⟨t', b2, off2, htk2, hao2, hbs2, _, _, _, r3, _⟩ := HR.out.get hwk hx'
                have htt : t' = t := by rw [htk'] at htk2; simpa using htk2.symm
                subst htt
                have hte : 1 ≤ t'.every ∧ t'.every ≤ 20 := by have := (Tk.ok_iff _).1 (setOk_at hso htk'); omega
                obtain ⟨te1, te2⟩ := hte
                subst hao2
                obtain ⟨hL0, hL1⟩ := lastAt_bd (x : Int) _ hin.out
                have hcl := clash_last t'.every ⟨x, y, z⟩ ha0 te2 _ hri.out
                rw [← hev] at hcl
                dsimp only at hcl
                have cl := blk_cell HB2.out x (hc2.out.2 x hx')
                obtain ⟨L, HLA⟩ : ∃ L, Hid (lastAt (x : Int) (js.take k) = L) := ⟨_, rfl⟩
                rw [HLA.out] at hL0 hL1 hcl cl
                rw [hev] at hcl
                have hw := IntWalk.i64_in (y - L) (by omega)
                have hin2 : ∀ u ∈ js.take (k + 1), 0 ≤ u.at_ ∧ u.at_ ≤ 200 := by
                  intro u hu
                  rw [take_snoc HJK.out, List.mem_append] at hu
                  rcases hu with hu | hu
                  · exact hin.out u hu
                  · simp at hu; subst hu; exact ⟨ha0, ha1⟩
                have hri2 : lastBad (js.take k) ⟨x, y, z⟩ = false → Rising (js.take (k + 1)) := by
                  intro h; rw [take_snoc HJK.out]; exact rising_next hri.out h
                have hcu2 : (cu.setIfInBounds x (vi y)).size = l.length ∧ ∀ i, i < l.length → (cu.setIfInBounds x (vi y))[i]? = some (vi (lastAt i (js.take (k + 1)))) := by
                  refine ⟨by simp [hc2.out.1], fun i hi => ?_⟩
                  rw [take_snoc HJK.out, lastAt_snoc]
                  dsimp only
                  by_cases hxi : x = i
                  · subst hxi
                    rw [if_pos rfl, Array.getElem?_setIfInBounds_self_of_lt (by rw [hc2.out.1]; exact hi)]
                  · rw [if_neg (by omega), Array.getElem?_setIfInBounds_ne hxi]; exact hc2.out.2 i hi
                have HTK := Lib.hid htk
                have HEV := Lib.hid hev
                have HTK' := Lib.hid htk'
                have HTK2 := Lib.hid htk2
                have HSO := Lib.hid hso
                have HNH := Lib.hid hnh
                have HCL := Lib.hid hcl
                have HIN2 := Lib.hid hin2
                have HRI2 := Lib.hid hri2
                have HCU2 := Lib.hid hcu2
                clear htk hev htk' htk2 hso hnh hcl hin2 hri2 hcu2
                clear c0 c1 c2
                obtain ⟨⟨_, _, _⟩, _, _, hjk2, hbo2, _, c0, c1, c2⟩ := HS.out.get hwk hlt
                simp only [Option.some.injEq, Addr.mk.injEq, and_true] at hbo2
                obtain ⟨rfl, rfl⟩ := hbo2
                rw [HJK.out] at hjk2
                simp only [Option.some.injEq, Jb.mk.injEq] at hjk2
                obtain ⟨rfl, rfl, rfl⟩ := hjk2
                dsimp only at c0 c1 c2
                have b0 := fun d os => cell_regrown (w := wv.alloc (.cells #[.int .i64 x, .int .i64 y, .int .i64 z] 57)) (a := ⟨wv.heap.size, 0, none⟩) (v := .int .i64 x) (by simp) d os
                have b1 := fun d os => cell_regrown (w := wv.alloc (.cells #[.int .i64 x, .int .i64 y, .int .i64 z] 57)) (a := ⟨wv.heap.size, 1, none⟩) (v := .int .i64 y) (by simp) d os
                have b2 := fun d os => cell_regrown (w := wv.alloc (.cells #[.int .i64 x, .int .i64 y, .int .i64 z] 57)) (a := ⟨wv.heap.size, 2, none⟩) (v := .int .i64 z) (by simp) d os
                have nl := fun d os => cell_regrown (cell_bw (bw_alloc wv (.cells #[.int .i64 x, .int .i64 y, .int .i64 z] 57)) cl) d os
                have nr := fun d os => cell_regrown (cell_bw (bw_alloc wv (.cells #[.int .i64 x, .int .i64 y, .int .i64 z] 57)) r3) d os
                clear cl r3
                have HALL : Hid (t'.every ≤ y - L → ((js.take k).all fun u => !clash (evAt l ⟨x, y, z⟩) ⟨x, y, z⟩ u) = true) := by
                  intro h; rw [HEV.out, HCL.out]; simp; omega
                have HX2' : Hid (t'.every ≤ y - L → jobsOk l js = (!lastBad (js.take k) ⟨x, y, z⟩ && jvFrom l (js.take (k + 1)) (js.drop (k + 1)))) := by
                  intro h; rw [hx.out, HST.out, HJI.out, HALL.out h, Bool.true_and, Bool.true_and]
                have HXN : Hid (y - L < t'.every → jobsOk l js = false) := by
                  intro h; rw [hx.out, HST.out, HJI.out, HEV.out, HCL.out]; simp; omega
                have HXM : Hid (lastBad (js.take k) ⟨x, y, z⟩ = true → jobsOk l js = false) := by
                  intro h; rw [hx.out, HST.out, HJI.out, h]; simp
                rcases Nat.eq_zero_or_pos k with hk0 | hk0
                · subst hk0
                  simp only [Nat.zero_mul, Nat.add_zero] at c0 c1 c2
                  have HLB : Hid (lastBad (js.take 0) ⟨x, y, z⟩ = false) := by simp [Hid, lastBad]
                  by_cases hlt2 : y - L < t'.every
                  · go_wp2_with fail
                    refine wp_region_quiet_below (by kernel_rfl) (by kernel_rfl) ?_
                    repeat (go_big_quiet_step ((go_at_call 79; exact Calls.regrown_of (HPC.out _ (bw_trans (bw_trans hwk (bw_alloc _ _)) (below_regrown _ _ _))))))
                    refine wpQuiet_nil ?_
                    intro wq hw'
                    have hbq := bw_of_ex hw'
                    clear hw'
                    go_wp2
                    go_ret
                    exact ⟨ret_b (HXN.out hlt2).symm, bw_trans (bw_trans hwk (bw_alloc _ _)) hbq⟩
                  · have hdl : decide (y - L < t'.every) = false := by simp; omega
                    have HX2 := Lib.hid (HX2'.out (by omega))
                    go_wp2_with fail
                    refine wp_region_quiet_below (by kernel_rfl) (by kernel_rfl) ?_
                    repeat (go_big_quiet_step ((go_at_call 79; exact Calls.regrown_of (HPC.out _ (bw_trans (bw_trans hwk (bw_alloc _ _)) (below_regrown _ _ _))))))
                    refine wpQuiet_nil ?_
                    intro wq hw'
                    have hbq := bw_of_ex hw'
                    clear hw'
                    have d0 := cell_bw hbq (b := wv.heap.size) (o := 0) (v := .int .i64 x) (by simp)
                    have d1 := cell_bw hbq (b := wv.heap.size) (o := 1) (v := .int .i64 y) (by simp)
                    have HB3 := Lib.hid (blk_bw (bw_trans (bw_alloc _ _) hbq) HB2.out)
                    have hfree := blk_free HB3.out x
                    have hold := blk_cell HB3.out x (hc2.out.2 x hx')
                    have hlw : w1.heap.size < wq.heap.size := blk_lt HB3.out
                    clear b0 b1 b2
                    have HBQ := Lib.hid hbq
                    clear hbq
                    go_wp2
                    go_roundw
                    case rel => exact ⟨0 + 1, cu.setIfInBounds x (vi y), by omega, by go_num, by show _ = _; rw [HX2.out, HLB.out]; rfl, HIN2.out, (HRI2.out HLB.out), blk_set HB3.out x _, HCU2.out, bw_set (bw_trans (bw_trans hbw (bw_alloc _ _)) HBQ.out) (Nat.le_refl _) _ _⟩
                    case measure => simp [intOf]; omega
                · obtain ⟨k, rfl⟩ : ∃ n, k = n + 1 := ⟨k - 1, by omega⟩
                  obtain ⟨⟨px, py, pz⟩, b', off', hjp, hbo', hbs', p0, p1, p2⟩ := HS.out.get hwk (k := k) (by omega)
                  simp only [Option.some.injEq, Addr.mk.injEq, and_true] at hbo'
                  obtain ⟨rfl, rfl⟩ := hbo'
                  dsimp only at p0 p1 p2
                  have hlb : (!lastBad (js.take (k + 1)) ⟨x, y, z⟩) = jbBefore px py x y := by
                    rw [take_snoc hjp, ← before_last ⟨px, py, pz⟩ ⟨x, y, z⟩]; simp [lastBad]
                  have HJP := Lib.hid hjp
                  have HLB := Lib.hid hlb
                  clear hjp hlb
                  have m0 := fun d os => cell_regrown (cell_bw (bw_alloc wv (.cells #[.int .i64 x, .int .i64 y, .int .i64 z] 57)) p0) d os
                  have m1 := fun d os => cell_regrown (cell_bw (bw_alloc wv (.cells #[.int .i64 x, .int .i64 y, .int .i64 z] 57)) p1) d os
                  have m2 := fun d os => cell_regrown (cell_bw (bw_alloc wv (.cells #[.int .i64 x, .int .i64 y, .int .i64 z] 57)) p2) d os
                  clear p0 p1 p2
                  obtain ⟨g, HG⟩ : ∃ g, Hid (jbBefore px py x y = g) := ⟨_, rfl⟩
                  have HLB0 : Hid (lastBad (js.take (k + 1)) ⟨x, y, z⟩ = !g) := by show _ = _; rw [← HG.out, ← HLB.out, Bool.not_not]
                  have hbc := fun (W : World) => l6Before_any px py pz x y z W
                  simp only [HG.out] at hbc
                  have HBC := Lib.hid hbc
                  clear hbc
                  cases g with
                  | false =>
                    go_wp2_with fail
                    refine wp_region_quiet_below (by kernel_rfl) (by kernel_rfl) ?_
                    repeat (go_big_quiet_step ((first | (go_at_call 79; exact Calls.regrown_of (HPC.out _ (bw_trans (bw_trans hwk (bw_alloc _ _)) (below_regrown _ _ _)))) | (go_at_call 80; exact Calls.regrown_of (HBC.out _)))))
                    refine wpQuiet_nil ?_
                    intro wq hw'
                    have hbq := bw_of_ex hw'
                    clear hw'
                    go_wp2
                    go_ret
                    exact ⟨ret_b (HXM.out HLB0.out).symm, bw_trans (bw_trans hwk (bw_alloc _ _)) hbq⟩
                  | true =>
                    clear HLB
                    have HLB : Hid (lastBad (js.take (k + 1)) ⟨x, y, z⟩ = false) := HLB0
                    by_cases hlt2 : y - L < t'.every
                    · go_wp2_with fail
                      refine wp_region_quiet_below (by kernel_rfl) (by kernel_rfl) ?_
                      repeat (go_big_quiet_step ((first | (go_at_call 79; exact Calls.regrown_of (HPC.out _ (bw_trans (bw_trans hwk (bw_alloc _ _)) (below_regrown _ _ _)))) | (go_at_call 80; exact Calls.regrown_of (HBC.out _)))))
                      refine wpQuiet_nil ?_
                      intro wq hw'
                      have hbq := bw_of_ex hw'
                      clear hw'
                      go_wp2
                      go_ret
                      exact ⟨ret_b (HXN.out hlt2).symm, bw_trans (bw_trans hwk (bw_alloc _ _)) hbq⟩
                    · have hdl : decide (y - L < t'.every) = false := by simp; omega
                      have HX2 := Lib.hid (HX2'.out (by omega))
                      go_wp2_with fail
                      refine wp_region_quiet_below (by kernel_rfl) (by kernel_rfl) ?_
                      repeat (go_big_quiet_step ((first | (go_at_call 79; exact Calls.regrown_of (HPC.out _ (bw_trans (bw_trans hwk (bw_alloc _ _)) (below_regrown _ _ _)))) | (go_at_call 80; exact Calls.regrown_of (HBC.out _)))))
                      refine wpQuiet_nil ?_
                      intro wq hw'
                      have hbq := bw_of_ex hw'
                      clear hw'
                      have d0 := cell_bw hbq (b := wv.heap.size) (o := 0) (v := .int .i64 x) (by simp)
                      have d1 := cell_bw hbq (b := wv.heap.size) (o := 1) (v := .int .i64 y) (by simp)
                      have HB3 := Lib.hid (blk_bw (bw_trans (bw_alloc _ _) hbq) HB2.out)
                      have hfree := blk_free HB3.out x
                      have hold := blk_cell HB3.out x (hc2.out.2 x hx')
                      have hlw : w1.heap.size < wq.heap.size := blk_lt HB3.out
                      clear b0 b1 b2
                      have HBQ := Lib.hid hbq
                      clear hbq
                      go_wp2
                      go_roundw
                      case rel => exact ⟨k + 1 + 1, cu.setIfInBounds x (vi y), by omega, by go_num, by show _ = _; rw [HX2.out, HLB.out]; rfl, HIN2.out, (HRI2.out HLB.out), blk_set HB3.out x _, HCU2.out, bw_set (bw_trans (bw_trans hbw (bw_alloc _ _)) HBQ.out) (Nat.le_refl _) _ _⟩
                      case measure => simp [intOf]; omega
            · have HD : Hid (true = jobsOk l js) := by show _ = _; rw [hx.out, drop_end hlt]; rfl
              go_wp2
              go_ret
              exact ⟨ret_b HD.out, hwk⟩
    · have HD : Hid (false = jobsOk l js) := by show _ = _; rw [jobsOk, decide_eq_false h60, Bool.false_and, Bool.and_false]
      go_wp2
      go_ret
      exact ⟨ret_b HD.out, hb1⟩
end Go.Proofs.YtaadlgpglfpmpaaDoor

/-
  JobsValid of both, on the slices that the laws make.
-/


namespace Go.Proofs.YtaadlgpglfpmpaaDoor
open Go.RowKit

set_option maxHeartbeats 400000 in
theorem jobsvalid_impl {w : World} {v u : Value} {l : List Tk} {js : List Jb} (hl : ST w v l) (hj : SJ w u js) : Calls Tryd.prog 48 #[v, u] w fun e w' => e = .returned (.bool (jobsOk l js)) ∧ Bw w w' := by
  obtain ⟨⟨ao, c, rfl, hr, _⟩, hn⟩ := hl
  obtain ⟨⟨bo, d, rfl, hs, hd, _⟩, hm⟩ := hj
  first
    | exact JobsValid_impl ao bo c d w l js hn hm hd hr hs
    | exact JobsValid_impl ao bo c d w l js hn hm hr hs
set_option maxHeartbeats 400000 in
theorem jobsvalid_spec {w : World} {v u : Value} {l : List Tk} {js : List Jb} (hl : ST w v l) (hj : SJ w u js) : Calls Tryd.prog 52 #[v, u] w fun e w' => e = .returned (.bool (jobsOk l js)) ∧ Bw w w' := by
  obtain ⟨⟨ao, c, rfl, hr, _⟩, hn⟩ := hl
  obtain ⟨⟨bo, d, rfl, hs, hd, _⟩, hm⟩ := hj
  first
    | exact JobsValid_spec ao bo c d w l js hn hm hd hr hs
    | exact JobsValid_spec ao bo c d w l js hn hm hr hs
end Go.Proofs.YtaadlgpglfpmpaaDoor

/-
  The walks of HighJobs. Lengths at most 2^20.
-/

namespace Go.Proofs.YtaadlgpglfpmpaaDoor
open Go.RowKit

theorem row_bw {w w' : World} {base E size n : Nat} {v : Value} {xs : List Value} (h : w.ownsRow base E size v n xs) (hb : Bw w w') : w'.ownsRow base E size v n xs :=
  h.kept (row := none) ⟨hb.os, hb.tape, hb.output, hb.size, fun k hk _ => hb.block k hk⟩ (by cases v.ownBlock <;> simp)

theorem jv_in {l : List Tk} : ∀ (js done : List Jb), jvFrom l done js = true → ∀ j ∈ js, jobIn l j = true
  | [], _, _ => by simp
  | j :: js, done, h => by
    simp only [jvFrom, Bool.and_eq_true] at h
    intro x hx
    rcases List.mem_cons.1 hx with rfl | hx
    · exact h.1
    · exact jv_in js _ h.2.2.2 x hx
theorem jobs_in {l : List Tk} {js : List Jb} (h : jobsOk l js = true) {k : Nat} {j : Jb} (hk : js[k]? = some j) : jobIn l j = true := by
  simp only [jobsOk, Bool.and_eq_true] at h
  exact jv_in js [] h.2.2 j (List.mem_of_getElem? hk)
theorem jobs_len {l : List Tk} {js : List Jb} (h : jobsOk l js = true) : js.length ≤ 60 := by
  simp only [jobsOk, Bool.and_eq_true, decide_eq_true_eq] at h
  exact h.2.1

/-- The numbers from i on, m of them, of which p speaks. -/
def pickFrom (p : Nat → Bool) : Nat → Nat → List Int
  | 0, _ => []
  | m + 1, i => if p i then (i : Int) :: pickFrom p m (i + 1) else pickFrom p m (i + 1)
theorem pick_len (p : Nat → Bool) : ∀ m i, (pickFrom p m i).length ≤ m
  | 0, _ => by simp [pickFrom]
  | m + 1, i => by
    have := pick_len p m (i + 1)
    simp only [pickFrom]
    split <;> simp <;> omega
theorem pick_step (p : Nat → Bool) {n k : Nat} (h : k < n) : pickFrom p (n - k) k = if p k then (k : Int) :: pickFrom p (n - (k + 1)) (k + 1) else pickFrom p (n - (k + 1)) (k + 1) := by
  obtain ⟨m, hm⟩ : ∃ m, n - k = m + 1 := ⟨n - k - 1, by omega⟩
  rw [hm, show n - (k + 1) = m by omega]; rfl
theorem pick_end (p : Nat → Bool) {n k : Nat} (h : ¬ k < n) : pickFrom p (n - k) k = [] := by
  rw [show n - k = 0 by omega]; rfl

def highP (l : List Tk) (js : List Jb) (i : Nat) : Bool := match js[i]? with
  | some j => match l[j.task.toNat]? with
    | some t => decide (t.low < j.need)
    | none => false
  | none => false
def highs (l : List Tk) (js : List Jb) : List Int := if jobsOk l js then pickFrom (highP l js) js.length 0 else []
theorem highs_len (l : List Tk) (js : List Jb) : (highs l js).length ≤ js.length := by
  unfold highs
  split
  · exact pick_len _ _ _
  · simp

end Go.Proofs.YtaadlgpglfpmpaaDoor

/-
  The walks of DueAt (impl) and of MissesOf. Lengths at most 2^20.
-/

namespace Go.Proofs.YtaadlgpglfpmpaaDoor
open Go.RowKit

def dueV (l : List Tk) (j : Jb) : Int := if jobIn l j then match l[j.task.toNat]? with
  | some t => j.at_ + t.due
  | none => 0
  else 0

def missP (l : List Tk) (js : List Jb) (es : List Int) (n : Nat) (i : Nat) : Bool := match js[i]? with
  | some j => match es[i]? with
    | some e => decide (dueV l j < e ∨ (e = -1 ∧ dueV l j ≤ n))
    | none => false
  | none => false
def misses (l : List Tk) (js : List Jb) (es : List Int) (n : Nat) : List Int := if jobsOk l js = true ∧ es.length = js.length then pickFrom (missP l js es n) js.length 0 else []
theorem misses_len (l : List Tk) (js : List Jb) (es : List Int) (n : Nat) : (misses l js es n).length ≤ js.length := by
  unfold misses
  split
  · exact pick_len _ _ _
  · simp

theorem due_val {l : List Tk} {x y z : Int} {t : Tk} (h : jobIn l ⟨x, y, z⟩ = true) (ht : l[x.toNat]? = some t) : dueV l ⟨x, y, z⟩ = y + t.due := by rw [dueV, h]; dsimp only; rw [ht]; rfl

end Go.Proofs.YtaadlgpglfpmpaaDoor
