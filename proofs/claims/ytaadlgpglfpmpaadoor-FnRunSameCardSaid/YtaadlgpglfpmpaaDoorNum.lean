/-
  The walks of the functions on slices of numbers and on runs: what each returns and that it writes nothing that was there (the marks apart). Lengths at most 2^20.
-/
import Derived.Test.YtaadlgpglfpmpaaDoorRows
import Derived.Test.YtaadlgpglfpmpaaDoorBase
import Derived.Test.YtaadlgpglfpmpaaDoorOpen
import Derived.BigQuiet
import Derived.BigGuardPart
import Derived.Deep.QuietTactic





namespace Go.Proofs.YtaadlgpglfpmpaaDoor
open Go.RowKit

theorem infoInt : (Tryd.prog.info? 3).map (fun i => (i.zero, i.size, i.bytes)) = some (some (.int .i64 0), 1, 8) := by kernel_rfl

/-! ### Mirrors -/

/-- How often t stands in a list. -/
def cntFrom : List Int → Int → Nat → Nat
  | [], _, m => m
  | x :: l, t, m => if x = t then cntFrom l t (m + 1) else cntFrom l t m
abbrev cnt (l : List Int) (t : Int) : Nat := cntFrom l t 0
theorem cntFrom_le (l : List Int) (t : Int) : ∀ m, m ≤ cntFrom l t m ∧ cntFrom l t m ≤ m + l.length := by
  induction l with
  | nil => intro m; simp [cntFrom]
  | cons x l ih =>
    intro m; simp only [cntFrom, List.length_cons]; split
    · have := ih (m + 1); omega
    · have := ih m; omega

/-- Equality of two lists, number by number. -/
def eqI : List Int → List Int → Bool
  | [], [] => true
  | a :: l, b :: m => if a = b then eqI l m else false
  | _, _ => false
theorem eqI_iff (l m : List Int) : eqI l m = decide (l = m) := by
  induction l generalizing m with
  | nil => cases m <;> simp [eqI]
  | cons a l ih =>
    cases m with
    | nil => simp [eqI]
    | cons b m =>
      simp only [eqI, ih]
      by_cases h : a = b <;> simp [h]

/-! ### Sizes -/

set_option maxHeartbeats 400000 in
theorem szIntS_any (ao : Option Addr) (n c : Nat) (left : Int) (w : World) (hn : n ≤ maxLen) (h0 : 0 ≤ left) (h1 : left ≤ 1048576) :
    Calls Tryd.prog 54 #[.slice ao n c, .int .i64 left] w fun e w' => e = .returned (.int .i64 (if left - n < 0 then -1 else left - n)) ∧ w = w' := by
  unfold maxLen at hn
  by_cases h : left - n < 0
  · have E : (if left - (n : Int) < 0 then (-1 : Int) else left - n) = -1 := if_pos h
    rw [E]; clear E
    go_enter Tryd.func54, Tryd.ntmps54
    go_wp2
    go_ret
    exact ⟨rfl, rfl⟩
  · have E : (if left - (n : Int) < 0 then (-1 : Int) else left - n) = left - n := if_neg h
    rw [E]; clear E
    go_enter Tryd.func54, Tryd.ntmps54
    go_wp2
    go_ret
    exact ⟨rfl, rfl⟩

/-! ### Counting -/

set_option maxHeartbeats 400000 in
theorem RanOf_impl (v0 v2 : Value) (ao : Option Addr) (c : Nat) (hi : Bool) (t : Int) (w : World) (l : List Int) (hl : l.length ≤ 1048576) (hr : RI w ao l) :
    Calls Tryd.prog 13 #[.agg #[v0, .slice ao l.length c, v2, .bool hi], .int .i64 t] w fun e w' => e = .returned (.int .i64 (cnt l t)) ∧ Bw w w' := by
  have HR := Lib.hid hr
  clear hr
  go_enter Tryd.func13, Tryd.ntmps13
  go_wp2
  go_loop [5, 11] (fun m i => ∃ k q : Nat, k ≤ l.length ∧ q ≤ k ∧ i = .int .i64 k ∧ m = .int .i64 q ∧ Hid (cntFrom (l.drop k) t q = cnt l t)) (fun _ i => l.length - (intOf i).toNat)
  case atStart => exact ⟨0, 0, Nat.zero_le _, Nat.le_refl _, rfl, rfl, rfl⟩
  case round =>
    obtain ⟨k, q, hk, hq, rfl, rfl, hx⟩ := hrel
    by_cases hlt : k < l.length
    · obtain ⟨x, b, off, hxk, hao, hbs, hcell⟩ := HR.out.get (bw_alloc w (.cells #[v0, .slice ao l.length c, v2, .bool hi] 25)) hlt
      have HX := Lib.hid hxk
      clear hxk
      subst hao
      have hstep : cntFrom (l.drop k) t q = if x = t then cntFrom (l.drop (k + 1)) t (q + 1) else cntFrom (l.drop (k + 1)) t q := by rw [drop_cons HX.out]; rfl
      have HS := Lib.hid hstep
      clear hstep
      by_cases he : x = t
      · have he' : (x == t) = true := by simp [he]
        have HE := Lib.hid he
        clear he
        go_wp2
        go_round
        case rel => exact ⟨k + 1, q + 1, by omega, by omega, by go_num, by go_num, by rw [← hx.out, HS.out, if_pos HE.out]; rfl⟩
        case measure => simp [intOf]; omega
      · have he' : (x == t) = false := by simp [he]
        have HE := Lib.hid he
        clear he
        go_wp2
        go_round
        case rel => exact ⟨k + 1, q, by omega, by omega, by go_num, by go_num, by rw [← hx.out, HS.out, if_neg HE.out]; rfl⟩
        case measure => simp [intOf]; omega
    · have HD : Hid (q = cnt l t) := by have := hx.out; rwa [drop_end hlt] at this
      go_wp2
      go_ret
      exact ⟨ret_n HD.out, bw_alloc _ _⟩

set_option maxHeartbeats 400000 in
theorem RanOf_spec (v0 v2 : Value) (ao : Option Addr) (c : Nat) (hi : Bool) (t : Int) (w : World) (l : List Int) (hl : l.length ≤ 1048576) (hr : RI w ao l) :
    Calls Tryd.prog 14 #[.agg #[v0, .slice ao l.length c, v2, .bool hi], .int .i64 t] w fun e w' => e = .returned (.int .i64 (cnt l t)) ∧ Bw w w' := by
  have HR := Lib.hid hr
  clear hr
  go_enter Tryd.func14, Tryd.ntmps14
  go_wp2
  go_loop [5, 6] (fun m i => ∃ k q : Nat, k ≤ l.length ∧ q ≤ k ∧ i = .int .i64 k ∧ m = .int .i64 q ∧ Hid (cntFrom (l.drop k) t q = cnt l t)) (fun _ i => l.length - (intOf i).toNat)
  case atStart => exact ⟨0, 0, Nat.zero_le _, Nat.le_refl _, rfl, rfl, rfl⟩
  case round =>
    obtain ⟨k, q, hk, hq, rfl, rfl, hx⟩ := hrel
    by_cases hlt : k < l.length
    · obtain ⟨x, b, off, hxk, hao, hbs, hcell⟩ := HR.out.get (bw_alloc w (.cells #[v0, .slice ao l.length c, v2, .bool hi] 25)) hlt
      have HX := Lib.hid hxk
      clear hxk
      subst hao
      have hstep : cntFrom (l.drop k) t q = if x = t then cntFrom (l.drop (k + 1)) t (q + 1) else cntFrom (l.drop (k + 1)) t q := by rw [drop_cons HX.out]; rfl
      have HS := Lib.hid hstep
      clear hstep
      by_cases he : x = t
      · have he' : (x == t) = true := by simp [he]
        have HE := Lib.hid he
        clear he
        go_wp2
        go_round
        case rel => exact ⟨k + 1, q + 1, by omega, by omega, by go_num, by go_num, by rw [← hx.out, HS.out, if_pos HE.out]; rfl⟩
        case measure => simp [intOf]; omega
      · have he' : (x == t) = false := by simp [he]
        have HE := Lib.hid he
        clear he
        go_wp2
        go_round
        case rel => exact ⟨k + 1, q, by omega, by omega, by go_num, by go_num, by rw [← hx.out, HS.out, if_neg HE.out]; rfl⟩
        case measure => simp [intOf]; omega
    · have HD : Hid (q = cnt l t) := by have := hx.out; rwa [drop_end hlt] at this
      go_wp2
      go_ret
      exact ⟨ret_n HD.out, bw_alloc _ _⟩

theorem IdleOf_impl (v0 v2 : Value) (ao : Option Addr) (c : Nat) (hi : Bool) (w : World) (l : List Int) (hl : l.length ≤ 1048576) (hr : RI w ao l) :
    Calls Tryd.prog 15 #[.agg #[v0, .slice ao l.length c, v2, .bool hi]] w fun e w' => e = .returned (.int .i64 (cnt l (-1))) ∧ Bw w w' := by
  have HR := Lib.hid hr
  clear hr
  go_enter Tryd.func15, Tryd.ntmps15
  go_wp2_with (go_at_call 13; refine (RanOf_impl _ _ _ _ _ _ _ l hl (HR.out.bw (bw_alloc _ _))).mono ?_; rintro e w' ⟨rfl, hb⟩)
  go_ret
  exact ⟨rfl, bw_trans (bw_alloc _ _) hb⟩

theorem IdleOf_spec (v0 v2 : Value) (ao : Option Addr) (c : Nat) (hi : Bool) (w : World) (l : List Int) (hl : l.length ≤ 1048576) (hr : RI w ao l) :
    Calls Tryd.prog 16 #[.agg #[v0, .slice ao l.length c, v2, .bool hi]] w fun e w' => e = .returned (.int .i64 (cnt l (-1))) ∧ Bw w w' := by
  have HR := Lib.hid hr
  clear hr
  go_enter Tryd.func16, Tryd.ntmps16
  go_wp2_with (go_at_call 14; refine (RanOf_spec _ _ _ _ _ _ _ l hl (HR.out.bw (bw_alloc _ _))).mono ?_; rintro e w' ⟨rfl, hb⟩)
  go_ret
  exact ⟨rfl, bw_trans (bw_alloc _ _) hb⟩

/-! ### Equality of two slices of numbers -/

set_option maxHeartbeats 400000 in
theorem eqIntS_any (ao bo : Option Addr) (la lb : List Int) (ca cb : Nat) (w : World) (ha : RI w ao la) (hb : RI w bo lb) (na : la.length ≤ 1048576) (_nb : lb.length ≤ 1048576) :
    Calls Tryd.prog 56 #[.slice ao la.length ca, .slice bo lb.length cb] w fun e w' => e = .returned (.bool (eqI la lb)) ∧ Bw w w' := by
  have HA := Lib.hid ha
  have HB := Lib.hid hb
  clear ha hb
  by_cases hl : la.length = lb.length
  · have hL : ((la.length : Int) != (lb.length : Int)) = false := by simp [hl]
    have HLL := Lib.hid hl
    clear hl
    go_enter Tryd.func56, Tryd.ntmps56
    go_wp2
    go_loopw [5] (fun i wr => ∃ k : Nat, k ≤ la.length ∧ i = .int .i64 k ∧ Hid (eqI la lb = eqI (la.drop k) (lb.drop k)) ∧ Bw w wr) (fun i _ => la.length - (intOf i).toNat)
    case atStart => exact ⟨0, Nat.zero_le _, rfl, rfl, Bw.refl _⟩
    case round =>
      obtain ⟨k, hk, rfl, hx, hbw⟩ := hrel
      by_cases hlt : k < la.length
      · have hltb : k < lb.length := by rw [← HLL.out]; exact hlt
        obtain ⟨x, b, off, hxk, hao, hbs, hcell⟩ := HA.out.get hbw hlt
        obtain ⟨y, b2, off2, hyk, hbo, hbs2, hcell2⟩ := HB.out.get hbw hltb
        have HX := Lib.hid hxk
        have HY := Lib.hid hyk
        clear hxk hyk
        subst hao; subst hbo
        have hstep : eqI (la.drop k) (lb.drop k) = if x = y then eqI (la.drop (k + 1)) (lb.drop (k + 1)) else false := by rw [drop_cons HX.out, drop_cons HY.out]; rfl
        have HS := Lib.hid hstep
        clear hstep
        by_cases he : x = y
        · have he' : (x != y) = false := by simp [he]
          have HE := Lib.hid he
          clear he
          go_wp2
          go_quiet (fail)
          go_wp2
          go_roundw
          case rel => exact ⟨k + 1, by omega, by go_num, by rw [hx.out, HS.out, if_pos HE.out]; rfl, blw_drewN hbw _⟩
          case measure => simp [intOf]; omega
        · have he' : (x != y) = true := by simp [he]
          have HE := Lib.hid he
          clear he
          go_wp2
          go_quiet (fail)
          go_wp2
          go_ret
          exact ⟨ret_b (by rw [hx.out, HS.out, if_neg HE.out]), blw_drewN hbw _⟩
      · have HD : Hid (eqI la lb = true) := by
          have h2 : ¬ k < lb.length := by rw [← HLL.out]; exact hlt
          show eqI la lb = true
          rw [hx.out, drop_end hlt, drop_end h2]; rfl
        go_wp2
        go_ret
        exact ⟨ret_b HD.out.symm, hbw⟩
  · have hL : ((la.length : Int) != (lb.length : Int)) = true := by simp; omega
    have HF : Hid (false = eqI la lb) := by show false = eqI la lb; rw [eqI_iff, decide_eq_false (fun e => hl (by rw [e]))]
    clear hl
    go_enter Tryd.func56, Tryd.ntmps56
    go_wp2
    go_ret
    exact ⟨ret_b HF.out, Bw.refl _⟩

set_option maxHeartbeats 400000 in
theorem l7Ints_any (ao bo : Option Addr) (la lb : List Int) (ca cb : Nat) (w : World) (ha : RI w ao la) (hb : RI w bo lb) (na : la.length ≤ 1048576) (_nb : lb.length ≤ 1048576) :
    Calls Tryd.prog 44 #[.slice ao la.length ca, .slice bo lb.length cb] w fun e w' => e = .returned (.bool (eqI la lb)) ∧ Bw w w' := by
  have HA := Lib.hid ha
  have HB := Lib.hid hb
  clear ha hb
  by_cases hl : la.length = lb.length
  · have hL : ((la.length : Int) != (lb.length : Int)) = false := by simp [hl]
    have HLL := Lib.hid hl
    clear hl
    go_enter Tryd.func44, Tryd.ntmps44
    go_wp2
    go_loopw [5] (fun i wr => ∃ k : Nat, k ≤ la.length ∧ i = .int .i64 k ∧ Hid (eqI la lb = eqI (la.drop k) (lb.drop k)) ∧ Bw w wr) (fun i _ => la.length - (intOf i).toNat)
    case atStart => exact ⟨0, Nat.zero_le _, rfl, rfl, Bw.refl _⟩
    case round =>
      obtain ⟨k, hk, rfl, hx, hbw⟩ := hrel
      by_cases hlt : k < la.length
      · have hltb : k < lb.length := by rw [← HLL.out]; exact hlt
        obtain ⟨x, b, off, hxk, hao, hbs, hcell⟩ := HA.out.get hbw hlt
        obtain ⟨y, b2, off2, hyk, hbo, hbs2, hcell2⟩ := HB.out.get hbw hltb
        have HX := Lib.hid hxk
        have HY := Lib.hid hyk
        clear hxk hyk
        subst hao; subst hbo
        have hstep : eqI (la.drop k) (lb.drop k) = if x = y then eqI (la.drop (k + 1)) (lb.drop (k + 1)) else false := by rw [drop_cons HX.out, drop_cons HY.out]; rfl
        have HS := Lib.hid hstep
        clear hstep
        by_cases he : x = y
        · have he' : (x != y) = false := by simp [he]
          have HE := Lib.hid he
          clear he
          go_wp2
          go_quiet (fail)
          go_wp2
          go_roundw
          case rel => exact ⟨k + 1, by omega, by go_num, by rw [hx.out, HS.out, if_pos HE.out]; rfl, blw_drewN hbw _⟩
          case measure => simp [intOf]; omega
        · have he' : (x != y) = true := by simp [he]
          have HE := Lib.hid he
          clear he
          go_wp2
          go_quiet (fail)
          go_wp2
          go_ret
          exact ⟨ret_b (by rw [hx.out, HS.out, if_neg HE.out]), blw_drewN hbw _⟩
      · have HD : Hid (eqI la lb = true) := by
          have h2 : ¬ k < lb.length := by rw [← HLL.out]; exact hlt
          show eqI la lb = true
          rw [hx.out, drop_end hlt, drop_end h2]; rfl
        go_wp2
        go_ret
        exact ⟨ret_b HD.out.symm, hbw⟩
  · have hL : ((la.length : Int) != (lb.length : Int)) = true := by simp; omega
    have HF : Hid (false = eqI la lb) := by show false = eqI la lb; rw [eqI_iff, decide_eq_false (fun e => hl (by rw [e]))]
    clear hl
    go_enter Tryd.func44, Tryd.ntmps44
    go_wp2
    go_ret
    exact ⟨ret_b HF.out, Bw.refl _⟩

set_option maxHeartbeats 400000 in
theorem slicesEqual_any (ao bo : Option Addr) (la lb : List Int) (ca cb : Nat) (w : World) (ha : RI w ao la) (hb : RI w bo lb) (na : la.length ≤ 1048576) (_nb : lb.length ≤ 1048576) :
    Calls Tryd.prog 43 #[.slice ao la.length ca, .slice bo lb.length cb] w fun e w' => e = .returned (.bool (eqI la lb)) ∧ Bw w w' := by
  have HA := Lib.hid ha
  have HB := Lib.hid hb
  clear ha hb
  by_cases hl : la.length = lb.length
  · have hL : ((la.length : Int) != (lb.length : Int)) = false := by simp [hl]
    have HLL := Lib.hid hl
    clear hl
    go_enter Tryd.func43, Tryd.ntmps43
    go_wp2
    go_loopw [13] (fun i wr => ∃ k : Nat, k ≤ la.length ∧ i = .int .i64 k ∧ Hid (eqI la lb = eqI (la.drop k) (lb.drop k)) ∧ Bw w wr) (fun i _ => la.length - (intOf i).toNat)
    case atStart => exact ⟨0, Nat.zero_le _, rfl, rfl, Bw.refl _⟩
    case round =>
      obtain ⟨k, hk, rfl, hx, hbw⟩ := hrel
      by_cases hlt : k < la.length
      · have hltb : k < lb.length := by rw [← HLL.out]; exact hlt
        obtain ⟨x, b, off, hxk, hao, hbs, hcell⟩ := HA.out.get hbw hlt
        obtain ⟨y, b2, off2, hyk, hbo, hbs2, hcell2⟩ := HB.out.get hbw hltb
        have HX := Lib.hid hxk
        have HY := Lib.hid hyk
        clear hxk hyk
        subst hao; subst hbo
        have hstep : eqI (la.drop k) (lb.drop k) = if x = y then eqI (la.drop (k + 1)) (lb.drop (k + 1)) else false := by rw [drop_cons HX.out, drop_cons HY.out]; rfl
        have HS := Lib.hid hstep
        clear hstep
        by_cases he : x = y
        · have he' : (x != y) = false := by simp [he]
          have HE := Lib.hid he
          clear he
          go_wp2
          go_quiet (fail)
          go_wp2
          go_roundw
          case rel => exact ⟨k + 1, by omega, by go_num, by rw [hx.out, HS.out, if_pos HE.out]; rfl, blw_drewN hbw _⟩
          case measure => simp [intOf]; omega
        · have he' : (x != y) = true := by simp [he]
          have HE := Lib.hid he
          clear he
          go_wp2
          go_quiet (fail)
          go_wp2
          go_ret
          exact ⟨ret_b (by rw [hx.out, HS.out, if_neg HE.out]), blw_drewN hbw _⟩
      · have HD : Hid (eqI la lb = true) := by
          have h2 : ¬ k < lb.length := by rw [← HLL.out]; exact hlt
          show eqI la lb = true
          rw [hx.out, drop_end hlt, drop_end h2]; rfl
        go_wp2
        go_ret
        exact ⟨ret_b HD.out.symm, hbw⟩
  · have hL : ((la.length : Int) != (lb.length : Int)) = true := by simp; omega
    have HF : Hid (false = eqI la lb) := by show false = eqI la lb; rw [eqI_iff, decide_eq_false (fun e => hl (by rw [e]))]
    clear hl
    go_enter Tryd.func43, Tryd.ntmps43
    go_wp2
    go_ret
    exact ⟨ret_b HF.out, Bw.refl _⟩


/-! ### Runs -/

/-- A run that reads as r. -/
structure RR (w : World) (v : Value) (r : Rn) : Prop where
  form : ∃ a1 c1 a2 c2 a3 c3, v = rnVal a1 r.ended.length c1 a2 r.trace.length c2 a3 r.switches.length c3 r.high ∧ RI w a1 r.ended ∧ RI w a2 r.trace ∧ RI w a3 r.switches
  n1 : r.ended.length ≤ 1048576
  n2 : r.trace.length ≤ 1048576
  n3 : r.switches.length ≤ 1048576
  rng : (∀ x ∈ r.ended, I64 x) ∧ (∀ x ∈ r.trace, I64 x) ∧ (∀ x ∈ r.switches, I64 x)

theorem RR.bw {w w' : World} {v : Value} {r : Rn} (h : RR w v r) (hb : Bw w w') : RR w' v r := by
  obtain ⟨⟨a1, c1, a2, c2, a3, c3, e, h1, h2, h3⟩, n1, n2, n3, ng⟩ := h
  exact ⟨⟨a1, c1, a2, c2, a3, c3, e, h1.bw hb, h2.bw hb, h3.bw hb⟩, n1, n2, n3, ng⟩

def eqR (a b : Rn) : Bool := eqI a.ended b.ended && eqI a.trace b.trace && eqI a.switches b.switches && (a.high == b.high)
theorem eqR_refl (a : Rn) : eqR a a = true := by simp [eqR, eqI_iff]

theorem ran_impl {w : World} {v : Value} {r : Rn} (h : RR w v r) (t : Int) : Calls Tryd.prog 13 #[v, .int .i64 t] w fun e w' => e = .returned (.int .i64 (cnt r.trace t)) ∧ Bw w w' := by
  obtain ⟨⟨a1, c1, a2, c2, a3, c3, rfl, h1, h2, h3⟩, n1, n2, n3, _⟩ := h
  exact RanOf_impl _ _ _ _ _ _ _ _ n2 h2
theorem ran_spec {w : World} {v : Value} {r : Rn} (h : RR w v r) (t : Int) : Calls Tryd.prog 14 #[v, .int .i64 t] w fun e w' => e = .returned (.int .i64 (cnt r.trace t)) ∧ Bw w w' := by
  obtain ⟨⟨a1, c1, a2, c2, a3, c3, rfl, h1, h2, h3⟩, n1, n2, n3, _⟩ := h
  exact RanOf_spec _ _ _ _ _ _ _ _ n2 h2
theorem idle_impl {w : World} {v : Value} {r : Rn} (h : RR w v r) : Calls Tryd.prog 15 #[v] w fun e w' => e = .returned (.int .i64 (cnt r.trace (-1))) ∧ Bw w w' := by
  obtain ⟨⟨a1, c1, a2, c2, a3, c3, rfl, h1, h2, h3⟩, n1, n2, n3, _⟩ := h
  exact IdleOf_impl _ _ _ _ _ _ _ n2 h2
theorem idle_spec {w : World} {v : Value} {r : Rn} (h : RR w v r) : Calls Tryd.prog 16 #[v] w fun e w' => e = .returned (.int .i64 (cnt r.trace (-1))) ∧ Bw w w' := by
  obtain ⟨⟨a1, c1, a2, c2, a3, c3, rfl, h1, h2, h3⟩, n1, n2, n3, _⟩ := h
  exact IdleOf_spec _ _ _ _ _ _ _ n2 h2

set_option maxHeartbeats 800000 in
theorem eqRun_any {w : World} {v u : Value} {r s : Rn} (hv : RR w v r) (hu : RR w u s) : Calls Tryd.prog 28 #[v, u] w fun e w' => e = .returned (.bool (eqR r s)) ∧ Bw w w' := by
  obtain ⟨⟨a1, c1, a2, c2, a3, c3, rfl, h1, h2, h3⟩, n1, n2, n3, _⟩ := hv
  obtain ⟨⟨b1, d1, b2, d2, b3, d3, rfl, k1, k2, k3⟩, m1, m2, m3, _⟩ := hu
  have H1 := Lib.hid h1
  have H2 := Lib.hid h2
  have H3 := Lib.hid h3
  have K1 := Lib.hid k1
  have K2 := Lib.hid k2
  have K3 := Lib.hid k3
  clear h1 h2 h3 k1 k2 k3
  obtain ⟨e1, E1⟩ : ∃ b, Hid (eqI r.ended s.ended = b) := ⟨_, rfl⟩
  obtain ⟨e2, E2⟩ : ∃ b, Hid (eqI r.trace s.trace = b) := ⟨_, rfl⟩
  obtain ⟨e3, E3⟩ : ∃ b, Hid (eqI r.switches s.switches = b) := ⟨_, rfl⟩
  have E : Hid (eqR r s = (e1 && e2 && e3 && (r.high == s.high))) := by show eqR r s = _; rw [eqR, E1.out, E2.out, E3.out]
  go_enter Tryd.func28, Tryd.ntmps28
  go_wp2_with fail
  refine (eqIntS_any _ _ _ _ _ _ _ (H1.out.bw ?_) (K1.out.bw ?_) n1 m1).mono ?_
  · exact bw_trans (bw_alloc _ _) (bw_alloc _ _)
  · exact bw_trans (bw_alloc _ _) (bw_alloc _ _)
  rw [E1.out]
  rintro e w1 ⟨rfl, hb1⟩
  cases e1 with
  | false =>
    go_wp2
    go_ret
    exact ⟨ret_b (by rw [E.out]; rfl), bw_trans (bw_trans (bw_alloc _ _) (bw_alloc _ _)) hb1⟩
  | true =>
    have hw1 := bw_trans (bw_trans (bw_alloc _ _) (bw_alloc _ _)) hb1
    obtain ⟨B1, B2⟩ := box_two hb1
    have p1 := blk_cell B1 1 rfl
    have q1 := blk_cell B2 1 rfl
    go_wp2_with fail
    refine (eqIntS_any _ _ _ _ _ _ _ (H2.out.bw hw1) (K2.out.bw hw1) n2 m2).mono ?_
    rw [E2.out]
    rintro e w2 ⟨rfl, hb2⟩
    have hw2 := bw_trans hw1 hb2
    cases e2 with
    | false =>
      go_wp2
      go_ret
      exact ⟨ret_b (by rw [E.out]; rfl), hw2⟩
    | true =>
      clear p1 q1
      have p2 := blk_cell (blk_bw hb2 B1) 2 rfl
      have q2 := blk_cell (blk_bw hb2 B2) 2 rfl
      go_wp2_with fail
      refine (eqIntS_any _ _ _ _ _ _ _ (H3.out.bw hw2) (K3.out.bw hw2) n3 m3).mono ?_
      rw [E3.out]
      rintro e w3 ⟨rfl, hb3⟩
      have hw3 := bw_trans hw2 hb3
      cases e3 with
      | false =>
        go_wp2
        go_ret
        exact ⟨ret_b (by rw [E.out]; rfl), hw3⟩
      | true =>
        clear p2 q2
        have p3 := blk_cell (blk_bw hb3 (blk_bw hb2 B1)) 3 rfl
        have q3 := blk_cell (blk_bw hb3 (blk_bw hb2 B2)) 3 rfl
        obtain ⟨rh, RH⟩ : ∃ x, Hid (r.high = x) := ⟨_, rfl⟩
        obtain ⟨sh, SH⟩ : ∃ x, Hid (s.high = x) := ⟨_, rfl⟩
        rw [RH.out] at p3
        rw [SH.out] at q3
        cases rh <;> cases sh
        all_goals
          go_wp2
          go_ret
          exact ⟨ret_b (by rw [E.out, RH.out, SH.out]; rfl), hw3⟩

end Go.Proofs.YtaadlgpglfpmpaaDoor
