/-
  The walks of DroppedOf, of the marks on a run and of RunSame. Lengths at most 2^20.
-/
import Derived.Test.YtihegjjhcfoapaaMark
namespace Go.Proofs.Ytihegjjhcfoapaa
open Go.RowKit

/-- The places from i on at which -2 stands. -/
def dropFrom : List Int → Nat → List Int
  | [], _ => []
  | x :: l, i => if x = -2 then (i : Int) :: dropFrom l (i + 1) else dropFrom l (i + 1)
abbrev dropped (l : List Int) : List Int := dropFrom l 0
theorem dropFrom_len (l : List Int) : ∀ i, (dropFrom l i).length ≤ l.length := by
  induction l with
  | nil => intro i; simp [dropFrom]
  | cons x l ih => intro i; simp only [dropFrom, List.length_cons]; split <;> (have := ih (i + 1); simp; omega)

/-- A slice of the call's own: what it owns, and that its capacity is known. -/
def Ret (w : World) (E size : Nat) (xs : List Value) (n : Nat) (e : Ending) (w' : World) : Prop := ∃ ao c, e = .returned (.slice ao n c) ∧ w'.ownsRow w.heap.size E size (.slice ao n c) n xs ∧ Bw w w'

theorem own_form {w : World} {base E size n : Nat} {v : Value} {xs : List Value} (h : w.ownsRow base E size v n xs) : ∃ ao c, v = .slice ao n c := by
  rcases h.2 with ⟨rfl, rfl⟩ | ⟨g, cap, cur, rfl, _⟩
  · exact ⟨none, 0, rfl⟩
  · exact ⟨_, _, rfl⟩

theorem own_cap0 {w : World} {base E size n : Nat} {v : Value} {xs : List Value} (h : w.ownsRow base E size v n xs) : ∀ k, v.ownBlock = some k → base ≤ k := fun k hk => (h.lt k hk).1

end Go.Proofs.Ytihegjjhcfoapaa
