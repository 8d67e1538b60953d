/-
  The walk of the law FnWorstHigh.
-/
import Derived.Test.YtnmpilmjkgdpgaaDoorGD
import Derived.Test.YtnmpilmjkgdpgaaDoorDm
import Derived.Test.YtnmpilmjkgdpgaaDoorPlW
import Derived.Test.YtnmpilmjkgdpgaaDoorWorstS



namespace Go.Proofs.YtnmpilmjkgdpgaaDoor
open Go.RowKit

set_option maxHeartbeats 400000 in
theorem worst_implR {w : World} {v : Value} {l : List Tk} (hl : ST w v l) (u : Int) (hi : Bool) : Calls Tryd.prog 12 #[v, .int .i64 u, .bool hi] w (RetP w 41 3 (jbs (worst l u hi).1) (worst l u hi).1.length (worst l u hi).2) := by
  obtain ⟨⟨ao, c, rfl, hr, _⟩, hn⟩ := hl
  cases hi
  · exact WorstJobs_impl_false ao c w l u hn hr
  · exact WorstJobs_impl_true ao c w l u hn hr
theorem worst_specR {w : World} {v : Value} {l : List Tk} (hl : ST w v l) (u : Int) (hi : Bool) : Calls Tryd.prog 13 #[v, .int .i64 u, .bool hi] w (RetP w 41 3 (jbs (worst l u hi).1) (worst l u hi).1.length (worst l u hi).2) := by
  obtain ⟨⟨ao, c, rfl, hr, _⟩, hn⟩ := hl
  cases hi
  · exact WorstJobs_spec_false ao c w l u hn hr
  · exact WorstJobs_spec_true ao c w l u hn hr

end Go.Proofs.YtnmpilmjkgdpgaaDoor
