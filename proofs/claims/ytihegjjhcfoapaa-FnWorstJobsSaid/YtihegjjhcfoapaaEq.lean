/-
  The walks of the functions that compare slices of jobs and of tasks. Lengths at most 2^20.
-/
import Derived.Test.YtihegjjhcfoapaaToS
namespace Go.Proofs.Ytihegjjhcfoapaa
open Go.RowKit

def eqJ (a b : Jb) : Bool := decide (a = b)
def eqT (a b : Tk) : Bool := decide (a = b)
theorem eqJ_refl (a : Jb) : eqJ a a = true := by simp [eqJ]
theorem eqT_refl (a : Tk) : eqT a a = true := by simp [eqT]

end Go.Proofs.Ytihegjjhcfoapaa
