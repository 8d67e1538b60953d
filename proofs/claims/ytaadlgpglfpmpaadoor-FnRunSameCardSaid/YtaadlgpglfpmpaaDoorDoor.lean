/-
  The door's own world meets the condition on the listed variables.
-/
import Derived.Test.YtaadlgpglfpmpaaDoorOpen
import Derived.LaidMore
import Derived.LaidHandle
import Derived.Stop.Joined



namespace Go.Proofs.YtaadlgpglfpmpaaDoor
open Go.RowKit

abbrev doorFuel : Nat := 4000
theorem door_met (os : Os) (args : Array Value) : laidMetH Tryd.prog Rows.fnExactFormatTraceRow.laid ((World.doorLaid Tryd.prog doorFuel os).forCall (fun _ _ => 0) ⟨#[], args, []⟩).memory :=
  laidMetH_of_parts3 (fuel := 8) (laidMet_of_run' 8 (by kernel_rfl) (by kernel_rfl)) (by kernel_rfl) (by kernel_rfl)
theorem door_shaped (os : Os) (args : Array Value) : ((World.doorLaid Tryd.prog doorFuel os).forCall (fun _ _ => 0) ⟨#[], args, []⟩).Shaped Tryd.prog := World.shaped_of_RefB (by kernel_rfl) (by kernel_rfl)
end Go.Proofs.YtaadlgpglfpmpaaDoor
