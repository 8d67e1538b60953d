/-
  The walks of WorstJobs.
-/
import Derived.Test.YtaadlgpglfpmpaaDoorGB
import Derived.Test.YtaadlgpglfpmpaaDoorGA

namespace Go.Proofs.YtaadlgpglfpmpaaDoor
open Go.RowKit

def wjIn (hi : Bool) (t : Nat) : Nat → List Tk → List Jb → Option (List Jb)
  | _, [], acc => some acc
  | i, x :: l, acc => if (t : Int).tmod x.every ≠ 0 then wjIn hi t (i + 1) l acc else if acc.length = 60 then none else wjIn hi t (i + 1) l (acc ++ [⟨i, t, if hi then x.high else x.low⟩])
def wjOut (hi : Bool) (l : List Tk) : Nat → Nat → List Jb → Option (List Jb)
  | 0, _, acc => some acc
  | m + 1, t, acc => (wjIn hi t 0 l acc).bind (wjOut hi l m (t + 1))
def optJ : Option (List Jb) → List Jb × Bool
  | some a => (a, true)
  | none => ([], false)
def worst (l : List Tk) (u : Int) (hi : Bool) : List Jb × Bool := if setOk l = true ∧ 0 ≤ u ∧ u ≤ 200 then optJ (wjOut hi l u.toNat 0 []) else ([], false)
theorem wjOut_step (hi : Bool) (l : List Tk) {n k : Nat} (h : k < n) (acc : List Jb) : wjOut hi l (n - k) k acc = (wjIn hi k 0 l acc).bind (wjOut hi l (n - (k + 1)) (k + 1)) := by
  obtain ⟨m, hm⟩ : ∃ m, n - k = m + 1 := ⟨n - k - 1, by omega⟩
  rw [hm, show n - (k + 1) = m by omega]; rfl
theorem wjOut_end (hi : Bool) (l : List Tk) {n k : Nat} (h : ¬ k < n) (acc : List Jb) : wjOut hi l (n - k) k acc = some acc := by
  rw [show n - k = 0 by omega]; rfl
theorem wjIn_len (hi : Bool) (t : Nat) : ∀ (l : List Tk) (i : Nat) (acc r : List Jb), acc.length ≤ 60 → wjIn hi t i l acc = some r → r.length ≤ 60
  | [], i, acc, r, h, e => by simp [wjIn] at e; subst e; exact h
  | x :: l, i, acc, r, h, e => by
    simp only [wjIn] at e
    split at e
    · exact wjIn_len hi t l _ acc r h e
    · split at e
      · cases e
      · exact wjIn_len hi t l _ _ r (by simp; omega) e
theorem wjOut_len (hi : Bool) (l : List Tk) : ∀ (m t : Nat) (acc r : List Jb), acc.length ≤ 60 → wjOut hi l m t acc = some r → r.length ≤ 60
  | 0, t, acc, r, h, e => by simp [wjOut] at e; subst e; exact h
  | m + 1, t, acc, r, h, e => by
    simp only [wjOut] at e
    cases hi' : wjIn hi t 0 l acc with
    | none => rw [hi'] at e; cases e
    | some a => rw [hi'] at e; exact wjOut_len hi l m _ a r (wjIn_len hi t l 0 acc a h hi') e
theorem worst_len (l : List Tk) (u : Int) (hi : Bool) : (worst l u hi).1.length ≤ 60 := by
  unfold worst
  split
  · cases h : wjOut hi l u.toNat 0 [] with
    | none => simp [optJ]
    | some a => exact wjOut_len hi l _ _ _ _ (by simp) h
  · simp

/-- A slice of the call's own, and whether. -/
def RetP (w : World) (E size : Nat) (xs : List Value) (n : Nat) (ok : Bool) (e : Ending) (w' : World) : Prop := ∃ ao c, e = .returned (.tuple #[.slice ao n c, .bool ok]) ∧ w'.ownsRow w.heap.size E size (.slice ao n c) n xs ∧ Bw w w'

theorem cell_job_new (w : World) (j : Jb) (t : TypeId) : ∀ i u, (jbCells j)[i]? = some u → (w.alloc (.cells #[vi j.task, vi j.at_, vi j.need] t)).cell? ((⟨w.heap.size, 0, none⟩ : Addr).add i) = some u := by
  intro i u h
  match i, h with
  | 0, h => simp [jbCells] at h; subst h; simp [Addr.add]
  | 1, h => simp [jbCells] at h; subst h; simp [Addr.add]
  | 2, h => simp [jbCells] at h; subst h; simp [Addr.add]

end Go.Proofs.YtaadlgpglfpmpaaDoor
