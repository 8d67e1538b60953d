/-
  JobsValid of both, on the slices that the laws make.
-/
import Derived.Test.YtbgfclcnddgboaaCon
import Derived.Test.YtbgfclcnddgboaaJobsS
namespace Go.Proofs.Ytbgfclcnddgboaa
open Go.RowKit

set_option maxHeartbeats 400000 in
theorem jobsvalid_impl {w : World} {v u : Value} {l : List Tk} {js : List Jb} (hl : ST w v l) (hj : SJ w u js) : Calls Try.prog 19 #[v, u] w fun e w' => e = .returned (.bool (jobsOk l js)) ∧ Bw w w' := by
  obtain ⟨⟨ao, c, rfl, hr, _⟩, hn⟩ := hl
  obtain ⟨⟨bo, d, rfl, hs, hd, _⟩, hm⟩ := hj
  first
    | exact JobsValid_impl ao bo c d w l js hn hm hd hr hs
    | exact JobsValid_impl ao bo c d w l js hn hm hr hs
set_option maxHeartbeats 400000 in
theorem jobsvalid_spec {w : World} {v u : Value} {l : List Tk} {js : List Jb} (hl : ST w v l) (hj : SJ w u js) : Calls Try.prog 50 #[v, u] w fun e w' => e = .returned (.bool (jobsOk l js)) ∧ Bw w w' := by
  obtain ⟨⟨ao, c, rfl, hr, _⟩, hn⟩ := hl
  obtain ⟨⟨bo, d, rfl, hs, hd, _⟩, hm⟩ := hj
  first
    | exact JobsValid_spec ao bo c d w l js hn hm hd hr hs
    | exact JobsValid_spec ao bo c d w l js hn hm hr hs
end Go.Proofs.Ytbgfclcnddgboaa
