/-
  The walks of the functions that mark slices of jobs and of tasks and look whether the marks are held. Lengths at most 2^20.
-/
import Derived.Test.YtihegjjhcfoapaaEq
namespace Go.Proofs.Ytihegjjhcfoapaa
open Go.RowKit

end Go.Proofs.Ytihegjjhcfoapaa
