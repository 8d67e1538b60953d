/-
  A law for a region that draws its order: an invariant that each operation keeps.
-/
import Derived.Test.YtaadlgpglfpmpaaDoorLeave
import Derived.OrdersHeld

namespace Go.Proofs.YtaadlgpglfpmpaaDoor
open Go.RowKit

theorem count_set : ∀ (l : List Bool) (i : Nat), l[i]? = some false → (l.set i true).count false + 1 = l.count false
  | [], i, h => by simp at h
  | b :: l, 0, h => by simp at h; subst h; simp
  | b :: l, i + 1, h => by
    have := count_set l i (by simpa using h)
    simp only [List.set_cons_succ, List.count_cons]
    omega
theorem ready_false {md : Region.Mode} {ops : Array Oper} {listed : Array Bool} {i : Nat} (h : i ∈ Region.ready md ops listed) : listed.toList[i]? = some false := by
  unfold Region.ready at h
  simp only [List.mem_filter, Bool.and_eq_true, Bool.not_eq_true'] at h
  have h2 := h.2.1
  rw [Array.getElem?_toList]
  by_cases hi : i < listed.size
  · rw [Array.getElem?_eq_getElem hi]
    simp only [Array.getD, hi, dite_true] at h2
    exact congrArg some h2
  · simp only [Array.getD, hi, dite_false] at h2; cases h2
theorem wpAny_inv {P : Program} {md : Region.Mode} {ops : Array Oper} {Q : Exit → Act → World → Prop} (I : Array Bool → Act → World → Prop)
    (hstep : ∀ (listed : Array Bool) (a : Act) (w : World) (i : Nat), I listed a w → i ∈ Region.ready md ops listed → wpOp P ops Q i (I (listed.setIfInBounds i true)) a w)
    (hend : ∀ (listed : Array Bool) (a : Act) (w : World), I listed a w → Region.ready md ops listed = [] → Q .normal a w) :
    ∀ (fuel : Nat) (listed : Array Bool) (a : Act) (w : World), listed.toList.count false ≤ fuel → I listed a w → wpAny P md ops Q fuel listed a w
  | 0, listed, a, w, hc, hI => by
    have hr : Region.ready md ops listed = [] := by
      apply List.eq_nil_iff_forall_not_mem.2
      intro i hi
      have h1 := ready_false hi
      have := List.count_pos_iff.2 (List.mem_of_getElem? h1)
      omega
    exact ⟨hr, hend _ _ _ hI hr⟩
  | fuel + 1, listed, a, w, hc, hI => by
    refine ⟨hend _ _ _ hI, fun i hi => ?_⟩
    refine wpOp_mono (fun a' w' h => wpAny_inv I hstep hend fuel _ a' w' ?_ h) (hstep _ _ _ i hI hi)
    have := count_set _ _ (ready_false hi)
    rw [Array.toList_setIfInBounds]
    omega
end Go.Proofs.YtaadlgpglfpmpaaDoor
