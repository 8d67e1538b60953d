/-
  The walks of the functions that mark a result's cells and look whether the marks are held. Lengths at most 2^20.
-/
import Derived.Test.YtihegjjhcfoapaaTo
namespace Go.Proofs.Ytihegjjhcfoapaa
open Go.RowKit

/-- Only the block of this address may have turned. -/
abbrev Hit (w w' : World) (ao : Option Addr) : Prop := w.grownBy w' (ao.map (·.block))

theorem hit_refl (w : World) (ao : Option Addr) : Hit w w ao := ⟨rfl, rfl, rfl, Nat.le_refl _, fun _ _ _ => rfl⟩
theorem hit_drewN {w w' : World} {ao : Option Addr} (h : Hit w w' ao) (n : Nat) : Hit w (w'.drewN n) ao := ⟨h.os, h.tape, h.output, h.size, h.block⟩
theorem hit_set {w w' : World} {g : Nat} (h : Hit w w' (some ⟨g, 0, none⟩)) (j : Nat) (v : Value) : Hit w (w'.setCell ⟨g, j, none⟩ v) (some ⟨g, 0, none⟩) :=
  ⟨h.os, h.tape, h.output, by simpa using h.size, fun k hk hne => by rw [Below.heap_setCell _ _ _ _ (fun e => hne (by simp [e]))]; exact h.block k hk hne⟩

def marksI (k : Int) : Nat → List Int
  | 0 => []
  | n + 1 => marksI k n ++ [k + n]
def marksJ (k : Int) : Nat → List Jb
  | 0 => []
  | n + 1 => marksJ k n ++ [⟨k + 3 * n, k + 3 * n + 1, k + 3 * n + 1 + 1⟩]
def marksT (k : Int) : Nat → List Tk
  | 0 => []
  | n + 1 => marksT k n ++ [⟨k + 5 * n, k + 5 * n + 1, k + 5 * n + 1 + 1, k + 5 * n + 1 + 1 + 1, (k + 5 * n + 1 + 1 + 1 + 1) % 3 == 0⟩]
theorem marksI_len (k : Int) (n : Nat) : (marksI k n).length = n := by induction n <;> simp_all [marksI]
theorem marksJ_len (k : Int) (n : Nat) : (marksJ k n).length = n := by induction n <;> simp_all [marksJ]
theorem marksT_len (k : Int) (n : Nat) : (marksT k n).length = n := by induction n <;> simp_all [marksT]
theorem marksI_get (k : Int) (n i : Nat) (h : i < n) : (marksI k n)[i]? = some (k + i) := by
  induction n with
  | zero => omega
  | succ n ih =>
    rw [marksI]
    by_cases hi : i < n
    · rw [List.getElem?_append_left (by rw [marksI_len]; exact hi)]; exact ih hi
    · obtain rfl : i = n := by omega
      rw [List.getElem?_append_right (by rw [marksI_len]; exact Nat.le_refl _), marksI_len]; simp
theorem marksJ_get (k : Int) (n i : Nat) (h : i < n) : (marksJ k n)[i]? = some ⟨k + 3 * i, k + 3 * i + 1, k + 3 * i + 1 + 1⟩ := by
  induction n with
  | zero => omega
  | succ n ih =>
    rw [marksJ]
    by_cases hi : i < n
    · rw [List.getElem?_append_left (by rw [marksJ_len]; exact hi)]; exact ih hi
    · obtain rfl : i = n := by omega
      rw [List.getElem?_append_right (by rw [marksJ_len]; exact Nat.le_refl _), marksJ_len]; simp
theorem marksT_get (k : Int) (n i : Nat) (h : i < n) : (marksT k n)[i]? = some ⟨k + 5 * i, k + 5 * i + 1, k + 5 * i + 1 + 1, k + 5 * i + 1 + 1 + 1, (k + 5 * i + 1 + 1 + 1 + 1) % 3 == 0⟩ := by
  induction n with
  | zero => omega
  | succ n ih =>
    rw [marksT]
    by_cases hi : i < n
    · rw [List.getElem?_append_left (by rw [marksT_len]; exact hi)]; exact ih hi
    · obtain rfl : i = n := by omega
      rw [List.getElem?_append_right (by rw [marksT_len]; exact Nat.le_refl _), marksT_len]; simp

/-- The end of a mark: how far it has counted, what turned, what lies there now. -/
def MarkEnd (w : World) (ao : Option Addr) (E : Nat) (q : Int) (xs : List Value) (e : Ending) (w' : World) : Prop := e = .returned (.int .i64 q) ∧ Hit w w' ao ∧ Own w' 0 E ao xs ∧ (xs = [] → w' = w)

theorem own_len {w : World} {E : Nat} {ao : Option Addr} {xs : List Value} (h : Own w 0 E ao xs) (hne : xs ≠ []) : ∃ g cur, ao = some ⟨g, 0, none⟩ ∧ w.heap[g]? = some (.cells cur E (0, 0)) ∧ xs.length ≤ cur.size := by
  rcases h with h | ⟨g, cur, e, _, hh, ht⟩
  · exact absurd h hne
  · refine ⟨g, cur, e, hh, ?_⟩
    rw [← ht]; simp only [List.length_take, Array.length_toList]; omega

end Go.Proofs.Ytihegjjhcfoapaa
