/-
  What came in as bytes, opened. No condition.
-/
import Derived.Test.YtaadlgpglfpmpaaDoorRd
namespace Go.Proofs.YtaadlgpglfpmpaaDoor
open Go.RowKit
open Go.ChangeShapes Go.WideShapes Go.ChangeAt Go.RowKit Go.Deep Go.Joins

set_option maxRecDepth 100000 in
theorem open_code {H : Type} {enc : TypeId × Value → H} {w : World} {base : Nat} {spare : Nat → Bool} {held : Bool} {r : Reach} {b0 : Nat} {v : Value} {d : DataW H} {p : List MemPlace}
    (hv : Value.okWide Tryd.prog w r b0 22 v) (h : DataW.Trod enc Tryd.prog w base spare held 22 v d p) : RawB w v := by
  obtain ⟨a, n, c, rfl⟩ := okWide_slice Tryd.underlying22 hv
  obtain ⟨fuel, hf⟩ := h
  have hf' : DataW.trod enc Tryd.prog w base spare held fuel 22 [.slice a n c] = some (d, p) := by simpa [Value.cells] using hf
  rcases open_ints Tryd.underlying22 Tryd.underlying5 (by kernel_rfl) hf' with ⟨hcs, _⟩ | ⟨x, len, cap, zs, hcs, _, hl, hm, hz, _, hcell, hwz⟩
  · simp at hcs; obtain ⟨rfl, rfl, rfl⟩ := hcs
    exact ⟨none, 0, 0, rfl, Nat.le_refl _, Nat.zero_le _, fun i hi => by omega⟩
  · simp at hcs; obtain ⟨rfl, rfl, rfl⟩ := hcs
    have hzl : n ≤ zs.length := by rw [hz]; split <;> omega
    refine ⟨some x, n, c, rfl, hl, Nat.le_trans hl hm, fun i hi => ?_⟩
    have hc := hcell i (by omega)
    obtain ⟨b, off, s⟩ := x
    have := spot_none (hcell 0 (by omega))
    subst this
    rw [add_none] at hc
    have hwf := hwz (zs.getD i 0) (by rw [List.getD_eq_getElem?_getD, List.getElem?_eq_getElem (by omega)]; exact List.getElem_mem _)
    simp [Lit.wf, IntKind.min, IntKind.max, IntKind.signed, IntKind.bits] at hwf
    exact ⟨b, off, _, rfl, World.block_lt_of_cell? w _ hc, hc, by simpa using hwf.1, by have := hwf.2; simp at this ⊢; omega⟩
end Go.Proofs.YtaadlgpglfpmpaaDoor
