/-
  The walks of the functions that check tasks: each returns what its mirror says and writes nothing that was there.
-/
import Derived.Test.YtbgfclcnddgboaaNum
namespace Go.Proofs.Ytbgfclcnddgboaa
open Go.RowKit

def isOk (a b c d : Int) (e : Bool) : Bool := decide (1 ≤ a ∧ a ≤ b ∧ b ≤ c ∧ c ≤ d ∧ d ≤ 20 ∧ (e = true ∨ a = b))
abbrev Tk.ok (t : Tk) : Bool := isOk t.low t.high t.due t.every t.crit
theorem Tk.ok_iff (t : Tk) : t.ok = true ↔ 1 ≤ t.low ∧ t.low ≤ t.high ∧ t.high ≤ t.due ∧ t.due ≤ t.every ∧ t.every ≤ 20 ∧ (t.crit = true ∨ t.low = t.high) := by simp [isOk]
def setOk (l : List Tk) : Bool := decide (l.length ≤ 5) && l.all Tk.ok
theorem setOk_len {l : List Tk} (h : setOk l = true) : l.length ≤ 5 := by simp [setOk] at h; exact h.1
theorem setOk_all {l : List Tk} (h : setOk l = true) : ∀ t ∈ l, t.ok = true := by simp [setOk] at h; simpa using h.2
theorem setOk_at {l : List Tk} (h : setOk l = true) {k : Nat} {t : Tk} (ht : l[k]? = some t) : t.ok = true := setOk_all h t (List.mem_of_getElem? ht)

theorem ok_y {a b c d : Int} {e : Bool} (h1 : 1 ≤ a) (h2 : a ≤ b) (h3 : b ≤ c) (h4 : c ≤ d) (h5 : d ≤ 20) (h6 : e = true ∨ a = b) : Ending.returned (.bool true) = .returned (.bool (isOk a b c d e)) := by
  rw [isOk, decide_eq_true ⟨h1, h2, h3, h4, h5, h6⟩]
theorem ok_n {a b c d : Int} {e : Bool} (h : ¬ (1 ≤ a ∧ a ≤ b ∧ b ≤ c ∧ c ≤ d ∧ d ≤ 20 ∧ (e = true ∨ a = b))) : Ending.returned (.bool false) = .returned (.bool (isOk a b c d e)) := by
  rw [isOk, decide_eq_false h]

set_option maxHeartbeats 800000 in
theorem impl.TaskValid_walk (a b c d : Int) (e : Bool) (w : World) :
    Calls Try.prog 60 #[.agg #[.int .i64 a, .int .i64 b, .int .i64 c, .int .i64 d, .bool e]] w fun r w' => r = .returned (.bool (isOk a b c d e)) ∧ Bw w w' := by
  cases e with
  | true =>
    go_enter Try.func60, Try.ntmps60
    go_wp2
    · go_ret
      exact ⟨ok_y (by assumption) (by assumption) (by assumption) (by assumption) (by assumption) (.inl rfl), bw_alloc _ _⟩
    all_goals
      go_ret
      exact ⟨ok_n (by omega), bw_alloc _ _⟩
  | false =>
    by_cases hab : a = b
    · subst hab
      go_enter Try.func60, Try.ntmps60
      go_wp2
      · go_ret
        exact ⟨ok_y (by assumption) (Int.le_refl _) (by assumption) (by assumption) (by assumption) (.inr rfl), bw_alloc _ _⟩
      all_goals
        go_ret
        exact ⟨ok_n (by omega), bw_alloc _ _⟩
    · have hne : (a == b) = false := by simp [hab]
      have HF : Hid (¬ (1 ≤ a ∧ a ≤ b ∧ b ≤ c ∧ c ≤ d ∧ d ≤ 20 ∧ (false = true ∨ a = b))) := fun h => by rcases h.2.2.2.2.2 with h | h <;> simp_all
      clear hab
      go_enter Try.func60, Try.ntmps60
      go_wp2
      all_goals
        go_ret
        exact ⟨ok_n HF.out, bw_alloc _ _⟩

set_option maxHeartbeats 800000 in
theorem spec.TaskValid_walk (a b c d : Int) (e : Bool) (w : World) :
    Calls Try.prog 83 #[.agg #[.int .i64 a, .int .i64 b, .int .i64 c, .int .i64 d, .bool e]] w fun r w' => r = .returned (.bool (isOk a b c d e)) ∧ Bw w w' := by
  cases e with
  | true =>
    go_enter Try.func83, Try.ntmps83
    go_wp2
    · go_ret
      exact ⟨ok_y (by assumption) (by assumption) (by assumption) (by assumption) (by assumption) (.inl rfl), bw_alloc _ _⟩
    all_goals
      go_ret
      exact ⟨ok_n (by omega), bw_alloc _ _⟩
  | false =>
    by_cases hab : a = b
    · subst hab
      go_enter Try.func83, Try.ntmps83
      go_wp2
      · go_ret
        exact ⟨ok_y (by assumption) (Int.le_refl _) (by assumption) (by assumption) (by assumption) (.inr rfl), bw_alloc _ _⟩
      all_goals
        go_ret
        exact ⟨ok_n (by omega), bw_alloc _ _⟩
    · have hne : (a == b) = false := by simp [hab]
      have HF : Hid (¬ (1 ≤ a ∧ a ≤ b ∧ b ≤ c ∧ c ≤ d ∧ d ≤ 20 ∧ (false = true ∨ a = b))) := fun h => by rcases h.2.2.2.2.2 with h | h <;> simp_all
      clear hab
      go_enter Try.func83, Try.ntmps83
      go_wp2
      all_goals
        go_ret
        exact ⟨ok_n HF.out, bw_alloc _ _⟩

set_option maxHeartbeats 800000 in
theorem impl.SetValid_walk (ao : Option Addr) (c : Nat) (w : World) (l : List Tk) (hl : l.length ≤ 1048576) (hr : RT w ao l) :
    Calls Try.prog 28 #[.slice ao l.length c] w fun r w' => r = .returned (.bool (setOk l)) ∧ Bw w w' := by
  have HR := Lib.hid hr
  clear hr
  by_cases h5 : l.length ≤ 5
  · have HS : Hid (setOk l = l.all Tk.ok) := by show _ = _; simp [setOk, h5]
    go_enter Try.func28, Try.ntmps28
    go_wp2
    go_loopw [10] (fun i wr => ∃ k : Nat, k ≤ l.length ∧ i = .int .i64 k ∧ Hid (l.all Tk.ok = (l.drop k).all Tk.ok) ∧ Bw w wr) (fun i _ => l.length - (intOf i).toNat)
    case atStart => exact ⟨0, Nat.zero_le _, rfl, rfl, Bw.refl _⟩
    case round =>
      obtain ⟨k, hk, rfl, hx, hbw⟩ := hrel
      by_cases hlt : k < l.length
      · obtain ⟨t, b, off, htk, hao, hbs, c0, c1, c2, c3, c4⟩ := HR.out.get hbw hlt
        have HT := Lib.hid htk
        clear htk
        subst hao
        have hst : (l.drop k).all Tk.ok = (isOk t.low t.high t.due t.every t.crit && (l.drop (k + 1)).all Tk.ok) := by rw [drop_cons HT.out]; rfl
        have HST := Lib.hid hst
        clear hst
        go_wp2_with fail
        refine (impl.TaskValid_walk _ _ _ _ _ _).mono ?_
        obtain ⟨q, HQ⟩ : ∃ q, Hid (isOk t.low t.high t.due t.every t.crit = q) := ⟨_, rfl⟩
        rw [HQ.out]
        rintro e w1 ⟨rfl, hb1⟩
        have hw1 := bw_trans hbw (bw_trans (bw_alloc _ _) hb1)
        cases q with
        | true =>
          go_wp2
          go_roundw
          case rel => exact ⟨k + 1, by omega, by go_num, by show _ = _; rw [hx.out, HST.out, HQ.out, Bool.true_and], hw1⟩
          case measure => simp [intOf]; omega
        | false =>
          go_wp2
          go_ret
          exact ⟨ret_b (by rw [HS.out, hx.out, HST.out, HQ.out, Bool.false_and]), hw1⟩
      · have HD : Hid (true = setOk l) := by show _ = _; rw [HS.out, hx.out, drop_end hlt]; rfl
        go_wp2
        go_ret
        exact ⟨ret_b HD.out, hbw⟩
  · have HS : Hid (false = setOk l) := by show _ = _; simp [setOk, h5]
    go_enter Try.func28, Try.ntmps28
    go_wp2
    go_ret
    exact ⟨ret_b HS.out, Bw.refl _⟩

set_option maxHeartbeats 800000 in
theorem spec.SetValid_walk (ao : Option Addr) (c : Nat) (w : World) (l : List Tk) (hl : l.length ≤ 1048576) (hr : RT w ao l) :
    Calls Try.prog 56 #[.slice ao l.length c] w fun r w' => r = .returned (.bool (setOk l)) ∧ Bw w w' := by
  have HR := Lib.hid hr
  clear hr
  go_enter Try.func56, Try.ntmps56
  go_wp2
  go_loopw [3] (fun i wr => ∃ k : Nat, k ≤ l.length ∧ k ≤ 6 ∧ i = .int .i64 k ∧ Hid (l.all Tk.ok = (l.drop k).all Tk.ok) ∧ Bw w wr) (fun i _ => l.length - (intOf i).toNat)
  case atStart => exact ⟨0, Nat.zero_le _, by omega, rfl, rfl, Bw.refl _⟩
  case round =>
    obtain ⟨k, hk, hk6, rfl, hx, hbw⟩ := hrel
    by_cases hlt : k < l.length
    · by_cases h6 : k ≤ 5
      · obtain ⟨t, b, off, htk, hao, hbs, c0, c1, c2, c3, c4⟩ := HR.out.get hbw hlt
        have HT := Lib.hid htk
        clear htk
        subst hao
        have hst : (l.drop k).all Tk.ok = (isOk t.low t.high t.due t.every t.crit && (l.drop (k + 1)).all Tk.ok) := by rw [drop_cons HT.out]; rfl
        have HST := Lib.hid hst
        clear hst
        go_wp2_with fail
        refine (spec.TaskValid_walk _ _ _ _ _ _).mono ?_
        obtain ⟨q, HQ⟩ : ∃ q, Hid (isOk t.low t.high t.due t.every t.crit = q) := ⟨_, rfl⟩
        rw [HQ.out]
        rintro e w1 ⟨rfl, hb1⟩
        have hw1 := bw_trans hbw hb1
        cases q with
        | true =>
          go_wp2
          go_roundw
          case rel => exact ⟨k + 1, by omega, by omega, by go_num, by show _ = _; rw [hx.out, HST.out, HQ.out, Bool.true_and], hw1⟩
          case measure => simp [intOf]; omega
        | false =>
          go_wp2
          go_ret
          exact ⟨ret_b (by rw [setOk, hx.out, HST.out, HQ.out, Bool.false_and, Bool.and_false]), hw1⟩
      · have HD : Hid (decide ((l.length : Int) ≤ 5) = setOk l) := by
          show _ = _
          rw [decide_eq_false (by omega)]; simp [setOk]; omega
        go_wp2
        go_ret
        exact ⟨ret_b HD.out, hbw⟩
    · have HD : Hid (decide ((l.length : Int) ≤ 5) = setOk l) := by
        show _ = _; rw [setOk, hx.out, drop_end hlt]; simp; omega
      clear hk6
      go_wp2
      all_goals
        go_ret
        exact ⟨ret_b HD.out, hbw⟩

end Go.Proofs.Ytbgfclcnddgboaa
