/-
  The walks of told, l6Text and NeedOf; of the reference's DueAt; of DemandOf.
-/
import Derived.Test.YtaadlgpglfpmpaaGB


namespace Go.Proofs.Ytaadlgpglfpmpaa
open Go.RowKit

def tellB (j : Jb) : Bool := decide (0 ≤ j.task ∧ j.task ≤ 4 ∧ 0 ≤ j.at_ ∧ j.at_ ≤ 200 ∧ 1 ≤ j.need ∧ j.need ≤ 20)
def toldB (js : List Jb) : Bool := js.all tellB && decide (js.length ≤ 60)
def sumN (t : Int) : List Jb → Int
  | [] => 0
  | j :: l => (if j.task = t then j.need else 0) + sumN t l
def needOf (js : List Jb) (t : Int) : Int := if toldB js = true then sumN t js else 0
theorem sumN_append (t : Int) (a b : List Jb) : sumN t (a ++ b) = sumN t a + sumN t b := by
  induction a with
  | nil => simp [sumN]
  | cons x a ih => simp only [List.cons_append, sumN, ih]; omega
theorem sumN_bd (t : Int) (l : List Jb) (h : ∀ j ∈ l, tellB j = true) : 0 ≤ sumN t l ∧ sumN t l ≤ 20 * l.length := by
  induction l with
  | nil => simp [sumN]
  | cons x l ih =>
    have hx := h x (by simp)
    simp only [tellB, decide_eq_true_eq] at hx
    have := ih (fun j hj => h j (by simp [hj]))
    simp only [sumN, List.length_cons]
    split <;> omega
theorem told_all {js : List Jb} (h : toldB js = true) : ∀ j ∈ js, tellB j = true := by simp [toldB] at h; simpa using h.1
theorem told_len {js : List Jb} (h : toldB js = true) : js.length ≤ 60 := by simp [toldB] at h; exact h.2
theorem needOf_bd (js : List Jb) (t : Int) : 0 ≤ needOf js t ∧ needOf js t ≤ 1200 := by
  unfold needOf
  split
  · rename_i h
    have := sumN_bd t js (told_all h)
    have := told_len h
    omega
  · omega
theorem sumN_snoc {t : Int} {js : List Jb} {k : Nat} {x y z : Int} (h : js[k]? = some ⟨x, y, z⟩) : sumN t (js.take (k + 1)) = sumN t (js.take k) + if x = t then z else 0 := by
  rw [take_snoc h, sumN_append]; simp [sumN]
theorem told_no {js : List Jb} {k : Nat} {j : Jb} (h : js[k]? = some j) (hj : tellB j = false) : toldB js = false := by
  cases hq : toldB js with
  | false => rfl
  | true => rw [told_all hq j (List.mem_of_getElem? h)] at hj; cases hj

end Go.Proofs.Ytaadlgpglfpmpaa
