/-
  The walks of the laws' own comparisons: dmTasks, dmJobs, dmInts. Lengths at most 2^20.
-/
import Derived.Test.YtnmpilmjkgdpgaaDoorGB
namespace Go.Proofs.YtnmpilmjkgdpgaaDoor
open Go.RowKit

def fld (f : Field) : Nat × Nat × Bool := (f.type, f.offset, f.name == "_")
theorem fld_is {f : Field} {a b : Nat} (h : fld f = (a, b, false)) : f.type = a ∧ f.offset = b ∧ f.name ≠ "_" := by
  simp only [fld, Prod.mk.injEq] at h
  exact ⟨h.1, h.2.1, by simpa using h.2.2⟩
theorem fields3 {fs : List Field} {a b c : Nat × Nat × Bool} (h : fs.map fld = [a, b, c]) : ∃ f0 f1 f2, fs = [f0, f1, f2] ∧ fld f0 = a ∧ fld f1 = b ∧ fld f2 = c := by
  match fs, h with
  | [f0, f1, f2], h => simp at h; exact ⟨f0, f1, f2, rfl, h⟩
theorem fields5 {fs : List Field} {a b c d e : Nat × Nat × Bool} (h : fs.map fld = [a, b, c, d, e]) : ∃ f0 f1 f2 f3 f4, fs = [f0, f1, f2, f3, f4] ∧ fld f0 = a ∧ fld f1 = b ∧ fld f2 = c ∧ fld f3 = d ∧ fld f4 = e := by
  match fs, h with
  | [f0, f1, f2, f3, f4], h => simp at h; exact ⟨f0, f1, f2, f3, f4, rfl, h⟩
theorem neqJ (x y z x' y' z' : Int) (W : World) : (binOp .neq 41 (.agg #[.int .i64 x, .int .i64 y, .int .i64 z]) (.agg #[.int .i64 x', .int .i64 y', .int .i64 z'])).run Tryd.prog W = .ok (.bool (!decide ((⟨x, y, z⟩ : Jb) = ⟨x', y', z'⟩))) W := by
  have h1 : Tryd.prog.underlying 41 = some (.struct (Tryd.prog.fieldsOf 41)) := by kernel_rfl
  have h2 : Tryd.prog.stoodInHeld 41 = false := by kernel_rfl
  rw [run_neq_struct, run_equalIn_agg W _ _ _ _ h1 h2]
  obtain ⟨f0, f1, f2, hf, e0, e1, e2⟩ := fields3 (show (Tryd.prog.fieldsOf 41).toList.map fld = [(3, 0, false), (3, 1, false), (3, 2, false)] by kernel_rfl)
  obtain ⟨a0, b0, c0⟩ := fld_is e0
  obtain ⟨a1, b1, c1⟩ := fld_is e1
  obtain ⟨a2, b2, c2⟩ := fld_is e2
  rw [hf]
  by_cases h0 : x = x' <;> by_cases h1 : y = y' <;> by_cases h2 : z = z' <;> simp [Op.eqFields, part, a0, b0, c0, a1, b1, c1, a2, b2, c2, go_sem, h0, h1, h2]
theorem neqT (x y z u : Int) (q : Bool) (x' y' z' u' : Int) (q' : Bool) (W : World) : (binOp .neq 60 (.agg #[.int .i64 x, .int .i64 y, .int .i64 z, .int .i64 u, .bool q]) (.agg #[.int .i64 x', .int .i64 y', .int .i64 z', .int .i64 u', .bool q'])).run Tryd.prog W = .ok (.bool (!decide ((⟨x, y, z, u, q⟩ : Tk) = ⟨x', y', z', u', q'⟩))) W := by
  have h1 : Tryd.prog.underlying 60 = some (.struct (Tryd.prog.fieldsOf 60)) := by kernel_rfl
  have h2 : Tryd.prog.stoodInHeld 60 = false := by kernel_rfl
  rw [run_neq_struct, run_equalIn_agg W _ _ _ _ h1 h2]
  obtain ⟨f0, f1, f2, f3, f4, hf, e0, e1, e2, e3, e4⟩ := fields5 (show (Tryd.prog.fieldsOf 60).toList.map fld = [(3, 0, false), (3, 1, false), (3, 2, false), (3, 3, false), (4, 4, false)] by kernel_rfl)
  obtain ⟨a0, b0, c0⟩ := fld_is e0
  obtain ⟨a1, b1, c1⟩ := fld_is e1
  obtain ⟨a2, b2, c2⟩ := fld_is e2
  obtain ⟨a3, b3, c3⟩ := fld_is e3
  obtain ⟨a4, b4, c4⟩ := fld_is e4
  rw [hf]
  by_cases h0 : x = x' <;> by_cases h1 : y = y' <;> by_cases h2 : z = z' <;> by_cases h3 : u = u' <;> by_cases h4 : q = q' <;> simp [Op.eqFields, part, a0, b0, c0, a1, b1, c1, a2, b2, c2, a3, b3, c3, a4, b4, c4, go_sem, h0, h1, h2, h3, h4]
theorem eqlJ (x y z x' y' z' : Int) (W : World) : (binOp .eql 41 (.agg #[.int .i64 x, .int .i64 y, .int .i64 z]) (.agg #[.int .i64 x', .int .i64 y', .int .i64 z'])).run Tryd.prog W = .ok (.bool (decide ((⟨x, y, z⟩ : Jb) = ⟨x', y', z'⟩))) W := by
  have h1 : Tryd.prog.underlying 41 = some (.struct (Tryd.prog.fieldsOf 41)) := by kernel_rfl
  have h2 : Tryd.prog.stoodInHeld 41 = false := by kernel_rfl
  rw [run_eql_struct, run_equalIn_agg W _ _ _ _ h1 h2]
  obtain ⟨f0, f1, f2, hf, e0, e1, e2⟩ := fields3 (show (Tryd.prog.fieldsOf 41).toList.map fld = [(3, 0, false), (3, 1, false), (3, 2, false)] by kernel_rfl)
  obtain ⟨a0, b0, c0⟩ := fld_is e0
  obtain ⟨a1, b1, c1⟩ := fld_is e1
  obtain ⟨a2, b2, c2⟩ := fld_is e2
  rw [hf]
  by_cases h0 : x = x' <;> by_cases h1 : y = y' <;> by_cases h2 : z = z' <;> simp [Op.eqFields, part, a0, b0, c0, a1, b1, c1, a2, b2, c2, go_sem, h0, h1, h2]
theorem eqlT (x y z u : Int) (q : Bool) (x' y' z' u' : Int) (q' : Bool) (W : World) : (binOp .eql 60 (.agg #[.int .i64 x, .int .i64 y, .int .i64 z, .int .i64 u, .bool q]) (.agg #[.int .i64 x', .int .i64 y', .int .i64 z', .int .i64 u', .bool q'])).run Tryd.prog W = .ok (.bool (decide ((⟨x, y, z, u, q⟩ : Tk) = ⟨x', y', z', u', q'⟩))) W := by
  have h1 : Tryd.prog.underlying 60 = some (.struct (Tryd.prog.fieldsOf 60)) := by kernel_rfl
  have h2 : Tryd.prog.stoodInHeld 60 = false := by kernel_rfl
  rw [run_eql_struct, run_equalIn_agg W _ _ _ _ h1 h2]
  obtain ⟨f0, f1, f2, f3, f4, hf, e0, e1, e2, e3, e4⟩ := fields5 (show (Tryd.prog.fieldsOf 60).toList.map fld = [(3, 0, false), (3, 1, false), (3, 2, false), (3, 3, false), (4, 4, false)] by kernel_rfl)
  obtain ⟨a0, b0, c0⟩ := fld_is e0
  obtain ⟨a1, b1, c1⟩ := fld_is e1
  obtain ⟨a2, b2, c2⟩ := fld_is e2
  obtain ⟨a3, b3, c3⟩ := fld_is e3
  obtain ⟨a4, b4, c4⟩ := fld_is e4
  rw [hf]
  by_cases h0 : x = x' <;> by_cases h1 : y = y' <;> by_cases h2 : z = z' <;> by_cases h3 : u = u' <;> by_cases h4 : q = q' <;> simp [Op.eqFields, part, a0, b0, c0, a1, b1, c1, a2, b2, c2, a3, b3, c3, a4, b4, c4, go_sem, h0, h1, h2, h3, h4]

theorem dec_len {α : Type} [DecidableEq α] {a b : List α} (h : ¬ a.length = b.length) : false = decide (a = b) := (decide_eq_false (fun e => h (by rw [e]))).symm
theorem dec_step {α : Type} [DecidableEq α] {a b : List α} {k : Nat} {x y : α} (hx : a[k]? = some x) (hy : b[k]? = some y) : decide (a.drop k = b.drop k) = (decide (x = y) && decide (a.drop (k + 1) = b.drop (k + 1))) := by
  rw [drop_cons hx, drop_cons hy]; simp

set_option maxHeartbeats 1600000 in
theorem dmJobs_any (ao bo : Option Addr) (la lb : List Jb) (ca cb : Nat) (w : World) (ha : RJ w ao la) (hb : RJ w bo lb) (na : la.length ≤ 1048576) (_nb : lb.length ≤ 1048576) :
    Calls Tryd.prog 14 #[.slice ao la.length ca, .slice bo lb.length cb] w fun e w' => e = .returned (.bool (decide (la = lb))) ∧ Bw w w' := by
  have HA := Lib.hid ha
  have HB := Lib.hid hb
  clear ha hb
  by_cases hl : la.length = lb.length
  · have hL : ((la.length : Int) != (lb.length : Int)) = false := by simp [hl]
    have HL := Lib.hid hl
    clear hl
    go_enter Tryd.func14, Tryd.ntmps14
    go_wp2
    go_loopw [5] (fun i wr => ∃ k : Nat, k ≤ la.length ∧ i = .int .i64 k ∧ Hid (decide (la = lb) = decide (la.drop k = lb.drop k)) ∧ Bw w wr) (fun i _ => la.length - (intOf i).toNat)
    case atStart => exact ⟨0, Nat.zero_le _, rfl, rfl, Bw.refl _⟩
    case round =>
      obtain ⟨k, hk, rfl, hx, hbw⟩ := hrel
      by_cases hlt : k < la.length
      · have hltb : k < lb.length := by rw [← HL.out]; exact hlt
        obtain ⟨⟨x0, x1, x2⟩, b, off, hxk, hao, hbs, c0, c1, c2⟩ := HA.out.get hbw hlt
        obtain ⟨⟨y0, y1, y2⟩, b2, off2, hyk, hbo, hbs2, d0, d1, d2⟩ := HB.out.get hbw hltb
        dsimp only at *
        have hst := dec_step hxk hyk
        have HXK := Lib.hid hxk
        have HYK := Lib.hid hyk
        have HST := Lib.hid hst
        clear hxk hyk hst
        subst hao; subst hbo
        obtain ⟨g, HG⟩ : ∃ g, Hid (decide ((⟨x0, x1, x2⟩ : Jb) = ⟨y0, y1, y2⟩) = g) := ⟨_, rfl⟩
        have hne := fun W => neqJ x0 x1 x2 y0 y1 y2 W
        rw [HG.out] at hne
        cases g with
        | true =>
          go_wp2_with fail
          go_quiet (fail)
          go_wp2
          go_roundw
          case rel => exact ⟨k + 1, by omega, by go_num, by show _ = _; rw [hx.out, HST.out, HG.out, Bool.true_and], blw_drewN hbw _⟩
          case measure => simp [intOf]; omega
        | false =>
          go_wp2_with fail
          go_quiet (fail)
          go_wp2
          go_ret
          exact ⟨ret_b (by rw [hx.out, HST.out, HG.out, Bool.false_and]), blw_drewN hbw _⟩
      · have HD : Hid (true = decide (la = lb)) := by
          have h2 : ¬ k < lb.length := by rw [← HL.out]; exact hlt
          show _ = _
          rw [hx.out, drop_end hlt, drop_end h2]; rfl
        go_wp2
        go_ret
        exact ⟨ret_b HD.out, hbw⟩
  · have hL : ((la.length : Int) != (lb.length : Int)) = true := by simp; omega
    have HF := Lib.hid (dec_len hl)
    clear hl
    go_enter Tryd.func14, Tryd.ntmps14
    go_wp2
    go_ret
    exact ⟨ret_b HF.out, Bw.refl _⟩

end Go.Proofs.YtnmpilmjkgdpgaaDoor
