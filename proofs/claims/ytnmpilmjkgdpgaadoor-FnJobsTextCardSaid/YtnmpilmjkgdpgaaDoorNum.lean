/-
  The walks of the functions on slices of numbers and on runs: what each returns and that it writes nothing that was there (the marks apart). Lengths at most 2^20.
-/
import Derived.Test.YtnmpilmjkgdpgaaDoorRows
import Derived.Test.YtnmpilmjkgdpgaaDoorBase
import Derived.Test.YtnmpilmjkgdpgaaDoorOpen
import Derived.BigQuiet
import Derived.BigGuardPart
import Derived.Deep.QuietTactic





namespace Go.Proofs.YtnmpilmjkgdpgaaDoor
open Go.RowKit

theorem infoInt : (Tryd.prog.info? 3).map (fun i => (i.zero, i.size, i.bytes)) = some (some (.int .i64 0), 1, 8) := by kernel_rfl

/-! ### Mirrors -/

/-- How often t stands in a list. -/
def cntFrom : List Int → Int → Nat → Nat
  | [], _, m => m
  | x :: l, t, m => if x = t then cntFrom l t (m + 1) else cntFrom l t m
abbrev cnt (l : List Int) (t : Int) : Nat := cntFrom l t 0
theorem cntFrom_le (l : List Int) (t : Int) : ∀ m, m ≤ cntFrom l t m ∧ cntFrom l t m ≤ m + l.length := by
  induction l with
  | nil => intro m; simp [cntFrom]
  | cons x l ih =>
    intro m; simp only [cntFrom, List.length_cons]; split
    · have := ih (m + 1); omega
    · have := ih m; omega

/-- Equality of two lists, number by number. -/
def eqI : List Int → List Int → Bool
  | [], [] => true
  | a :: l, b :: m => if a = b then eqI l m else false
  | _, _ => false
theorem eqI_iff (l m : List Int) : eqI l m = decide (l = m) := by
  induction l generalizing m with
  | nil => cases m <;> simp [eqI]
  | cons a l ih =>
    cases m with
    | nil => simp [eqI]
    | cons b m =>
      simp only [eqI, ih]
      by_cases h : a = b <;> simp [h]

/-! ### Sizes -/

/-! ### Counting -/

/-! ### Equality of two slices of numbers -/

/-! ### Runs -/

/-- A run that reads as r. -/
structure RR (w : World) (v : Value) (r : Rn) : Prop where
  form : ∃ a1 c1 a2 c2 a3 c3, v = rnVal a1 r.ended.length c1 a2 r.trace.length c2 a3 r.switches.length c3 r.high ∧ RI w a1 r.ended ∧ RI w a2 r.trace ∧ RI w a3 r.switches
  n1 : r.ended.length ≤ 1048576
  n2 : r.trace.length ≤ 1048576
  n3 : r.switches.length ≤ 1048576
  rng : (∀ x ∈ r.ended, I64 x) ∧ (∀ x ∈ r.trace, I64 x) ∧ (∀ x ∈ r.switches, I64 x)

theorem RR.bw {w w' : World} {v : Value} {r : Rn} (h : RR w v r) (hb : Bw w w') : RR w' v r := by
  obtain ⟨⟨a1, c1, a2, c2, a3, c3, e, h1, h2, h3⟩, n1, n2, n3, ng⟩ := h
  exact ⟨⟨a1, c1, a2, c2, a3, c3, e, h1.bw hb, h2.bw hb, h3.bw hb⟩, n1, n2, n3, ng⟩

def eqR (a b : Rn) : Bool := eqI a.ended b.ended && eqI a.trace b.trace && eqI a.switches b.switches && (a.high == b.high)
theorem eqR_refl (a : Rn) : eqR a a = true := by simp [eqR, eqI_iff]

end Go.Proofs.YtnmpilmjkgdpgaaDoor
