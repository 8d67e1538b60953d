/-
  The walks of HighJobs. Lengths at most 2^20.
-/
import Derived.Test.YtbgfclcnddgboaaJv
namespace Go.Proofs.Ytbgfclcnddgboaa
open Go.RowKit

theorem row_bw {w w' : World} {base E size n : Nat} {v : Value} {xs : List Value} (h : w.ownsRow base E size v n xs) (hb : Bw w w') : w'.ownsRow base E size v n xs :=
  h.kept (row := none) ⟨hb.os, hb.tape, hb.output, hb.size, fun k hk _ => hb.block k hk⟩ (by cases v.ownBlock <;> simp)

theorem jv_in {l : List Tk} : ∀ (js done : List Jb), jvFrom l done js = true → ∀ j ∈ js, jobIn l j = true
  | [], _, _ => by simp
  | j :: js, done, h => by
    simp only [jvFrom, Bool.and_eq_true] at h
    intro x hx
    rcases List.mem_cons.1 hx with rfl | hx
    · exact h.1
    · exact jv_in js _ h.2.2.2 x hx
theorem jobs_in {l : List Tk} {js : List Jb} (h : jobsOk l js = true) {k : Nat} {j : Jb} (hk : js[k]? = some j) : jobIn l j = true := by
  simp only [jobsOk, Bool.and_eq_true] at h
  exact jv_in js [] h.2.2 j (List.mem_of_getElem? hk)
theorem jobs_len {l : List Tk} {js : List Jb} (h : jobsOk l js = true) : js.length ≤ 60 := by
  simp only [jobsOk, Bool.and_eq_true, decide_eq_true_eq] at h
  exact h.2.1

/-- The numbers from i on, m of them, of which p speaks. -/
def pickFrom (p : Nat → Bool) : Nat → Nat → List Int
  | 0, _ => []
  | m + 1, i => if p i then (i : Int) :: pickFrom p m (i + 1) else pickFrom p m (i + 1)
theorem pick_len (p : Nat → Bool) : ∀ m i, (pickFrom p m i).length ≤ m
  | 0, _ => by simp [pickFrom]
  | m + 1, i => by
    have := pick_len p m (i + 1)
    simp only [pickFrom]
    split <;> simp <;> omega
theorem pick_step (p : Nat → Bool) {n k : Nat} (h : k < n) : pickFrom p (n - k) k = if p k then (k : Int) :: pickFrom p (n - (k + 1)) (k + 1) else pickFrom p (n - (k + 1)) (k + 1) := by
  obtain ⟨m, hm⟩ : ∃ m, n - k = m + 1 := ⟨n - k - 1, by omega⟩
  rw [hm, show n - (k + 1) = m by omega]; rfl
theorem pick_end (p : Nat → Bool) {n k : Nat} (h : ¬ k < n) : pickFrom p (n - k) k = [] := by
  rw [show n - k = 0 by omega]; rfl

def highP (l : List Tk) (js : List Jb) (i : Nat) : Bool := match js[i]? with
  | some j => match l[j.task.toNat]? with
    | some t => decide (t.low < j.need)
    | none => false
  | none => false
def highs (l : List Tk) (js : List Jb) : List Int := if jobsOk l js then pickFrom (highP l js) js.length 0 else []
theorem highs_len (l : List Tk) (js : List Jb) : (highs l js).length ≤ js.length := by
  unfold highs
  split
  · exact pick_len _ _ _
  · simp

end Go.Proofs.Ytbgfclcnddgboaa
