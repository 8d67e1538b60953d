/-
  The walks of DueAt (impl) and of MissesOf. Lengths at most 2^20.
-/
import Derived.Test.YtbgfclcnddgboaaHigh
namespace Go.Proofs.Ytbgfclcnddgboaa
open Go.RowKit

def dueV (l : List Tk) (j : Jb) : Int := if jobIn l j then match l[j.task.toNat]? with
  | some t => j.at_ + t.due
  | none => 0
  else 0

def missP (l : List Tk) (js : List Jb) (es : List Int) (n : Nat) (i : Nat) : Bool := match js[i]? with
  | some j => match es[i]? with
    | some e => decide (dueV l j < e ∨ (e = -1 ∧ dueV l j ≤ n))
    | none => false
  | none => false
def misses (l : List Tk) (js : List Jb) (es : List Int) (n : Nat) : List Int := if jobsOk l js = true ∧ es.length = js.length then pickFrom (missP l js es n) js.length 0 else []
theorem misses_len (l : List Tk) (js : List Jb) (es : List Int) (n : Nat) : (misses l js es n).length ≤ js.length := by
  unfold misses
  split
  · exact pick_len _ _ _
  · simp

theorem due_val {l : List Tk} {x y z : Int} {t : Tk} (h : jobIn l ⟨x, y, z⟩ = true) (ht : l[x.toNat]? = some t) : dueV l ⟨x, y, z⟩ = y + t.due := by rw [dueV, h]; dsimp only; rw [ht]; rfl

end Go.Proofs.Ytbgfclcnddgboaa
