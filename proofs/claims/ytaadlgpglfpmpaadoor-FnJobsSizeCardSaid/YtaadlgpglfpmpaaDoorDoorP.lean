/-
  What the condition gives: the table of powers of ten.
-/
import Derived.Test.YtaadlgpglfpmpaaDoorFj
import Derived.Test.YtaadlgpglfpmpaaDoorDoor
import Derived.LaidMore


namespace Go.Proofs.YtaadlgpglfpmpaaDoor
open Go.RowKit

theorem door_pow {W : World} (h : laidMetH Tryd.prog Rows.fnNeedOfRow.laid W) : Pow10 W := by
  rw [MakeChecks.laidMetH_plain _ _ _ (by kernel_rfl)] at h
  obtain ⟨ps, ⟨g0, t0, cs0, f0, p0, q0, hg0, ht0, hv0, hd0, ⟨g1, t1, cs1, f1, p1, q1, hg1, ht1, hv1, hd1, ⟨g2, t2, cs2, f2, p2, q2, hg2, ht2, hv2, hd2, _, _⟩, _⟩, _⟩, _⟩ := h
  have key : ∀ (g t n : Nat), Tryd.prog.globalNamed "internal/strconv.uint64pow10" = some g → (Tryd.prog.globals[g]?).map (·.type) = some t → Tryd.prog.underlying t = some (.array n 135) → Tryd.prog.cellsOf t = n → Pow10 W := fun g t n a b c d => by
    obtain rfl := Option.some.inj (a.symm.trans hg2)
    obtain rfl := Option.some.inj (b.symm.trans ht2)
    show W.var? Tryd.prog _ = _
    rw [hv2, ← Lib.cells_of_tab c Tryd.underlying135 (by kernel_rfl) d hd2]
  first
    | exact key 0 144 20 (by kernel_rfl) (by kernel_rfl) Tryd.underlying144 (by kernel_rfl)
    | exact key 1 144 20 (by kernel_rfl) (by kernel_rfl) Tryd.underlying144 (by kernel_rfl)
    | exact key 2 144 20 (by kernel_rfl) (by kernel_rfl) Tryd.underlying144 (by kernel_rfl)
    | exact key 3 144 20 (by kernel_rfl) (by kernel_rfl) Tryd.underlying144 (by kernel_rfl)
end Go.Proofs.YtaadlgpglfpmpaaDoor
