/-
  The walks of the laws' own comparisons: dmTasks, dmJobs, dmInts. Lengths at most 2^20.
-/
import Derived.Test.YtaadlgpglfpmpaaDoorGB
namespace Go.Proofs.YtaadlgpglfpmpaaDoor
open Go.RowKit

def fld (f : Field) : Nat × Nat × Bool := (f.type, f.offset, f.name == "_")
theorem fld_is {f : Field} {a b : Nat} (h : fld f = (a, b, false)) : f.type = a ∧ f.offset = b ∧ f.name ≠ "_" := by
  simp only [fld, Prod.mk.injEq] at h
  exact ⟨h.1, h.2.1, by simpa using h.2.2⟩
theorem fields3 {fs : List Field} {a b c : Nat × Nat × Bool} (h : fs.map fld = [a, b, c]) : ∃ f0 f1 f2, fs = [f0, f1, f2] ∧ fld f0 = a ∧ fld f1 = b ∧ fld f2 = c := by
  match fs, h with
  | [f0, f1, f2], h => simp at h; exact ⟨f0, f1, f2, rfl, h⟩
theorem fields5 {fs : List Field} {a b c d e : Nat × Nat × Bool} (h : fs.map fld = [a, b, c, d, e]) : ∃ f0 f1 f2 f3 f4, fs = [f0, f1, f2, f3, f4] ∧ fld f0 = a ∧ fld f1 = b ∧ fld f2 = c ∧ fld f3 = d ∧ fld f4 = e := by
  match fs, h with
  | [f0, f1, f2, f3, f4], h => simp at h; exact ⟨f0, f1, f2, f3, f4, rfl, h⟩
theorem neqJ (x y z x' y' z' : Int) (W : World) : (binOp .neq 57 (.agg #[.int .i64 x, .int .i64 y, .int .i64 z]) (.agg #[.int .i64 x', .int .i64 y', .int .i64 z'])).run Tryd.prog W = .ok (.bool (!decide ((⟨x, y, z⟩ : Jb) = ⟨x', y', z'⟩))) W := by
  have h1 : Tryd.prog.underlying 57 = some (.struct (Tryd.prog.fieldsOf 57)) := by kernel_rfl
  have h2 : Tryd.prog.stoodInHeld 57 = false := by kernel_rfl
  rw [run_neq_struct, run_equalIn_agg W _ _ _ _ h1 h2]
  obtain ⟨f0, f1, f2, hf, e0, e1, e2⟩ := fields3 (show (Tryd.prog.fieldsOf 57).toList.map fld = [(3, 0, false), (3, 1, false), (3, 2, false)] by kernel_rfl)
  obtain ⟨a0, b0, c0⟩ := fld_is e0
  obtain ⟨a1, b1, c1⟩ := fld_is e1
  obtain ⟨a2, b2, c2⟩ := fld_is e2
  rw [hf]
  by_cases h0 : x = x' <;> by_cases h1 : y = y' <;> by_cases h2 : z = z' <;> simp [Op.eqFields, part, a0, b0, c0, a1, b1, c1, a2, b2, c2, go_sem, h0, h1, h2]
theorem neqT (x y z u : Int) (q : Bool) (x' y' z' u' : Int) (q' : Bool) (W : World) : (binOp .neq 76 (.agg #[.int .i64 x, .int .i64 y, .int .i64 z, .int .i64 u, .bool q]) (.agg #[.int .i64 x', .int .i64 y', .int .i64 z', .int .i64 u', .bool q'])).run Tryd.prog W = .ok (.bool (!decide ((⟨x, y, z, u, q⟩ : Tk) = ⟨x', y', z', u', q'⟩))) W := by
  have h1 : Tryd.prog.underlying 76 = some (.struct (Tryd.prog.fieldsOf 76)) := by kernel_rfl
  have h2 : Tryd.prog.stoodInHeld 76 = false := by kernel_rfl
  rw [run_neq_struct, run_equalIn_agg W _ _ _ _ h1 h2]
  obtain ⟨f0, f1, f2, f3, f4, hf, e0, e1, e2, e3, e4⟩ := fields5 (show (Tryd.prog.fieldsOf 76).toList.map fld = [(3, 0, false), (3, 1, false), (3, 2, false), (3, 3, false), (4, 4, false)] by kernel_rfl)
  obtain ⟨a0, b0, c0⟩ := fld_is e0
  obtain ⟨a1, b1, c1⟩ := fld_is e1
  obtain ⟨a2, b2, c2⟩ := fld_is e2
  obtain ⟨a3, b3, c3⟩ := fld_is e3
  obtain ⟨a4, b4, c4⟩ := fld_is e4
  rw [hf]
  by_cases h0 : x = x' <;> by_cases h1 : y = y' <;> by_cases h2 : z = z' <;> by_cases h3 : u = u' <;> by_cases h4 : q = q' <;> simp [Op.eqFields, part, a0, b0, c0, a1, b1, c1, a2, b2, c2, a3, b3, c3, a4, b4, c4, go_sem, h0, h1, h2, h3, h4]
theorem eqlJ (x y z x' y' z' : Int) (W : World) : (binOp .eql 57 (.agg #[.int .i64 x, .int .i64 y, .int .i64 z]) (.agg #[.int .i64 x', .int .i64 y', .int .i64 z'])).run Tryd.prog W = .ok (.bool (decide ((⟨x, y, z⟩ : Jb) = ⟨x', y', z'⟩))) W := by
  have h1 : Tryd.prog.underlying 57 = some (.struct (Tryd.prog.fieldsOf 57)) := by kernel_rfl
  have h2 : Tryd.prog.stoodInHeld 57 = false := by kernel_rfl
  rw [run_eql_struct, run_equalIn_agg W _ _ _ _ h1 h2]
  obtain ⟨f0, f1, f2, hf, e0, e1, e2⟩ := fields3 (show (Tryd.prog.fieldsOf 57).toList.map fld = [(3, 0, false), (3, 1, false), (3, 2, false)] by kernel_rfl)
  obtain ⟨a0, b0, c0⟩ := fld_is e0
  obtain ⟨a1, b1, c1⟩ := fld_is e1
  obtain ⟨a2, b2, c2⟩ := fld_is e2
  rw [hf]
  by_cases h0 : x = x' <;> by_cases h1 : y = y' <;> by_cases h2 : z = z' <;> simp [Op.eqFields, part, a0, b0, c0, a1, b1, c1, a2, b2, c2, go_sem, h0, h1, h2]
theorem eqlT (x y z u : Int) (q : Bool) (x' y' z' u' : Int) (q' : Bool) (W : World) : (binOp .eql 76 (.agg #[.int .i64 x, .int .i64 y, .int .i64 z, .int .i64 u, .bool q]) (.agg #[.int .i64 x', .int .i64 y', .int .i64 z', .int .i64 u', .bool q'])).run Tryd.prog W = .ok (.bool (decide ((⟨x, y, z, u, q⟩ : Tk) = ⟨x', y', z', u', q'⟩))) W := by
  have h1 : Tryd.prog.underlying 76 = some (.struct (Tryd.prog.fieldsOf 76)) := by kernel_rfl
  have h2 : Tryd.prog.stoodInHeld 76 = false := by kernel_rfl
  rw [run_eql_struct, run_equalIn_agg W _ _ _ _ h1 h2]
  obtain ⟨f0, f1, f2, f3, f4, hf, e0, e1, e2, e3, e4⟩ := fields5 (show (Tryd.prog.fieldsOf 76).toList.map fld = [(3, 0, false), (3, 1, false), (3, 2, false), (3, 3, false), (4, 4, false)] by kernel_rfl)
  obtain ⟨a0, b0, c0⟩ := fld_is e0
  obtain ⟨a1, b1, c1⟩ := fld_is e1
  obtain ⟨a2, b2, c2⟩ := fld_is e2
  obtain ⟨a3, b3, c3⟩ := fld_is e3
  obtain ⟨a4, b4, c4⟩ := fld_is e4
  rw [hf]
  by_cases h0 : x = x' <;> by_cases h1 : y = y' <;> by_cases h2 : z = z' <;> by_cases h3 : u = u' <;> by_cases h4 : q = q' <;> simp [Op.eqFields, part, a0, b0, c0, a1, b1, c1, a2, b2, c2, a3, b3, c3, a4, b4, c4, go_sem, h0, h1, h2, h3, h4]

theorem dec_len {α : Type} [DecidableEq α] {a b : List α} (h : ¬ a.length = b.length) : false = decide (a = b) := (decide_eq_false (fun e => h (by rw [e]))).symm
theorem dec_step {α : Type} [DecidableEq α] {a b : List α} {k : Nat} {x y : α} (hx : a[k]? = some x) (hy : b[k]? = some y) : decide (a.drop k = b.drop k) = (decide (x = y) && decide (a.drop (k + 1) = b.drop (k + 1))) := by
  rw [drop_cons hx, drop_cons hy]; simp

end Go.Proofs.YtaadlgpglfpmpaaDoor
