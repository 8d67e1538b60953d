/-
  The walks of the functions on slices of numbers and on runs: what each returns and that it writes nothing that was there (the marks apart). Lengths at most 2^20.
-/
import Derived.Test.YtchpfpekkgbehaaRows
import Derived.Test.YtchpfpekkgbehaaBase
import Derived.Test.YtchpfpekkgbehaaOpen
import Derived.BigQuiet
import Derived.BigGuardPart
import Derived.Deep.QuietTactic





namespace Go.Proofs.Ytchpfpekkgbehaa
open Go.RowKit

theorem infoInt : (Try.prog.info? 3).map (fun i => (i.zero, i.size, i.bytes)) = some (some (.int .i64 0), 1, 8) := by kernel_rfl

/-! ### Mirrors -/

/-- How often t stands in a list. -/
def cntFrom : List Int → Int → Nat → Nat
  | [], _, m => m
  | x :: l, t, m => if x = t then cntFrom l t (m + 1) else cntFrom l t m
abbrev cnt (l : List Int) (t : Int) : Nat := cntFrom l t 0
theorem cntFrom_le (l : List Int) (t : Int) : ∀ m, m ≤ cntFrom l t m ∧ cntFrom l t m ≤ m + l.length := by
  induction l with
  | nil => intro m; simp [cntFrom]
  | cons x l ih =>
    intro m; simp only [cntFrom, List.length_cons]; split
    · have := ih (m + 1); omega
    · have := ih m; omega

/-- Equality of two lists, number by number. -/
def eqI : List Int → List Int → Bool
  | [], [] => true
  | a :: l, b :: m => if a = b then eqI l m else false
  | _, _ => false
theorem eqI_iff (l m : List Int) : eqI l m = decide (l = m) := by
  induction l generalizing m with
  | nil => cases m <;> simp [eqI]
  | cons a l ih =>
    cases m with
    | nil => simp [eqI]
    | cons b m =>
      simp only [eqI, ih]
      by_cases h : a = b <;> simp [h]

/-! ### Sizes -/

/-! ### Counting -/

set_option maxHeartbeats 400000 in
theorem RanOf_impl (v0 v2 : Value) (ao : Option Addr) (c : Nat) (hi : Bool) (t : Int) (w : World) (l : List Int) (hl : l.length ≤ 1048576) (hr : RI w ao l) :
    Calls Try.prog 24 #[.agg #[v0, .slice ao l.length c, v2, .bool hi], .int .i64 t] w fun e w' => e = .returned (.int .i64 (cnt l t)) ∧ Bw w w' := by
  have HR := Lib.hid hr
  clear hr
  go_enter Try.func24, Try.ntmps24
  go_wp2
  go_loop [5, 11] (fun m i => ∃ k q : Nat, k ≤ l.length ∧ q ≤ k ∧ i = .int .i64 k ∧ m = .int .i64 q ∧ Hid (cntFrom (l.drop k) t q = cnt l t)) (fun _ i => l.length - (intOf i).toNat)
  case atStart => exact ⟨0, 0, Nat.zero_le _, Nat.le_refl _, rfl, rfl, rfl⟩
  case round =>
    obtain ⟨k, q, hk, hq, rfl, rfl, hx⟩ := hrel
    by_cases hlt : k < l.length
    · obtain ⟨x, b, off, hxk, hao, hbs, hcell⟩ := HR.out.get (bw_alloc w (.cells #[v0, .slice ao l.length c, v2, .bool hi] 29)) hlt
      have HX := Lib.hid hxk
      clear hxk
      subst hao
      have hstep : cntFrom (l.drop k) t q = if x = t then cntFrom (l.drop (k + 1)) t (q + 1) else cntFrom (l.drop (k + 1)) t q := by rw [drop_cons HX.out]; rfl
      have HS := Lib.hid hstep
      clear hstep
      by_cases he : x = t
      · have he' : (x == t) = true := by simp [he]
        have HE := Lib.hid he
        clear he
        go_wp2
        go_round
        case rel => exact ⟨k + 1, q + 1, by omega, by omega, by go_num, by go_num, by rw [← hx.out, HS.out, if_pos HE.out]; rfl⟩
        case measure => simp [intOf]; omega
      · have he' : (x == t) = false := by simp [he]
        have HE := Lib.hid he
        clear he
        go_wp2
        go_round
        case rel => exact ⟨k + 1, q, by omega, by omega, by go_num, by go_num, by rw [← hx.out, HS.out, if_neg HE.out]; rfl⟩
        case measure => simp [intOf]; omega
    · have HD : Hid (q = cnt l t) := by have := hx.out; rwa [drop_end hlt] at this
      go_wp2
      go_ret
      exact ⟨ret_n HD.out, bw_alloc _ _⟩

theorem IdleOf_impl (v0 v2 : Value) (ao : Option Addr) (c : Nat) (hi : Bool) (w : World) (l : List Int) (hl : l.length ≤ 1048576) (hr : RI w ao l) :
    Calls Try.prog 19 #[.agg #[v0, .slice ao l.length c, v2, .bool hi]] w fun e w' => e = .returned (.int .i64 (cnt l (-1))) ∧ Bw w w' := by
  have HR := Lib.hid hr
  clear hr
  go_enter Try.func19, Try.ntmps19
  go_wp2_with (go_at_call 24; refine (RanOf_impl _ _ _ _ _ _ _ l hl (HR.out.bw (bw_alloc _ _))).mono ?_; rintro e w' ⟨rfl, hb⟩)
  go_ret
  exact ⟨rfl, bw_trans (bw_alloc _ _) hb⟩

/-! ### Equality of two slices of numbers -/

set_option maxHeartbeats 400000 in
theorem slicesEqual_any (ao bo : Option Addr) (la lb : List Int) (ca cb : Nat) (w : World) (ha : RI w ao la) (hb : RI w bo lb) (na : la.length ≤ 1048576) (_nb : lb.length ≤ 1048576) :
    Calls Try.prog 51 #[.slice ao la.length ca, .slice bo lb.length cb] w fun e w' => e = .returned (.bool (eqI la lb)) ∧ Bw w w' := by
  have HA := Lib.hid ha
  have HB := Lib.hid hb
  clear ha hb
  by_cases hl : la.length = lb.length
  · have hL : ((la.length : Int) != (lb.length : Int)) = false := by simp [hl]
    have HLL := Lib.hid hl
    clear hl
    go_enter Try.func51, Try.ntmps51
    go_wp2
    go_loopw [13] (fun i wr => ∃ k : Nat, k ≤ la.length ∧ i = .int .i64 k ∧ Hid (eqI la lb = eqI (la.drop k) (lb.drop k)) ∧ Bw w wr) (fun i _ => la.length - (intOf i).toNat)
    case atStart => exact ⟨0, Nat.zero_le _, rfl, rfl, Bw.refl _⟩
    case round =>
      obtain ⟨k, hk, rfl, hx, hbw⟩ := hrel
      by_cases hlt : k < la.length
      · have hltb : k < lb.length := by rw [← HLL.out]; exact hlt
        obtain ⟨x, b, off, hxk, hao, hbs, hcell⟩ := HA.out.get hbw hlt
        obtain ⟨y, b2, off2, hyk, hbo, hbs2, hcell2⟩ := HB.out.get hbw hltb
        have HX := Lib.hid hxk
        have HY := Lib.hid hyk
        clear hxk hyk
        subst hao; subst hbo
        have hstep : eqI (la.drop k) (lb.drop k) = if x = y then eqI (la.drop (k + 1)) (lb.drop (k + 1)) else false := by rw [drop_cons HX.out, drop_cons HY.out]; rfl
        have HS := Lib.hid hstep
        clear hstep
        by_cases he : x = y
        · have he' : (x != y) = false := by simp [he]
          have HE := Lib.hid he
          clear he
          go_wp2
          go_quiet (fail)
          go_wp2
          go_roundw
          case rel => exact ⟨k + 1, by omega, by go_num, by rw [hx.out, HS.out, if_pos HE.out]; rfl, blw_drewN hbw _⟩
          case measure => simp [intOf]; omega
        · have he' : (x != y) = true := by simp [he]
          have HE := Lib.hid he
          clear he
          go_wp2
          go_quiet (fail)
          go_wp2
          go_ret
          exact ⟨ret_b (by rw [hx.out, HS.out, if_neg HE.out]), blw_drewN hbw _⟩
      · have HD : Hid (eqI la lb = true) := by
          have h2 : ¬ k < lb.length := by rw [← HLL.out]; exact hlt
          show eqI la lb = true
          rw [hx.out, drop_end hlt, drop_end h2]; rfl
        go_wp2
        go_ret
        exact ⟨ret_b HD.out.symm, hbw⟩
  · have hL : ((la.length : Int) != (lb.length : Int)) = true := by simp; omega
    have HF : Hid (false = eqI la lb) := by show false = eqI la lb; rw [eqI_iff, decide_eq_false (fun e => hl (by rw [e]))]
    clear hl
    go_enter Try.func51, Try.ntmps51
    go_wp2
    go_ret
    exact ⟨ret_b HF.out, Bw.refl _⟩


/-! ### Runs -/

/-- A run that reads as r. -/
structure RR (w : World) (v : Value) (r : Rn) : Prop where
  form : ∃ a1 c1 a2 c2 a3 c3, v = rnVal a1 r.ended.length c1 a2 r.trace.length c2 a3 r.switches.length c3 r.high ∧ RI w a1 r.ended ∧ RI w a2 r.trace ∧ RI w a3 r.switches
  n1 : r.ended.length ≤ 1048576
  n2 : r.trace.length ≤ 1048576
  n3 : r.switches.length ≤ 1048576
  rng : (∀ x ∈ r.ended, I64 x) ∧ (∀ x ∈ r.trace, I64 x) ∧ (∀ x ∈ r.switches, I64 x)

theorem RR.bw {w w' : World} {v : Value} {r : Rn} (h : RR w v r) (hb : Bw w w') : RR w' v r := by
  obtain ⟨⟨a1, c1, a2, c2, a3, c3, e, h1, h2, h3⟩, n1, n2, n3, ng⟩ := h
  exact ⟨⟨a1, c1, a2, c2, a3, c3, e, h1.bw hb, h2.bw hb, h3.bw hb⟩, n1, n2, n3, ng⟩

def eqR (a b : Rn) : Bool := eqI a.ended b.ended && eqI a.trace b.trace && eqI a.switches b.switches && (a.high == b.high)
theorem eqR_refl (a : Rn) : eqR a a = true := by simp [eqR, eqI_iff]

theorem ran_impl {w : World} {v : Value} {r : Rn} (h : RR w v r) (t : Int) : Calls Try.prog 24 #[v, .int .i64 t] w fun e w' => e = .returned (.int .i64 (cnt r.trace t)) ∧ Bw w w' := by
  obtain ⟨⟨a1, c1, a2, c2, a3, c3, rfl, h1, h2, h3⟩, n1, n2, n3, _⟩ := h
  exact RanOf_impl _ _ _ _ _ _ _ _ n2 h2
theorem idle_impl {w : World} {v : Value} {r : Rn} (h : RR w v r) : Calls Try.prog 19 #[v] w fun e w' => e = .returned (.int .i64 (cnt r.trace (-1))) ∧ Bw w w' := by
  obtain ⟨⟨a1, c1, a2, c2, a3, c3, rfl, h1, h2, h3⟩, n1, n2, n3, _⟩ := h
  exact IdleOf_impl _ _ _ _ _ _ _ n2 h2
end Go.Proofs.Ytchpfpekkgbehaa
