/-
  Putting a job, said plainly: it comes once, the others keep their order, and its need is added.
-/
import Derived.Test.YtbgfclcnddgboaaPutS
import Derived.Test.YtbgfclcnddgboaaNeed
import Derived.Test.YtbgfclcnddgboaaPlD
namespace Go.Proofs.Ytbgfclcnddgboaa
open Go.RowKit

theorem insJ_put {l : List Tk} {js : List Jb} {j : Jb} (h : (putJ l js j).2 = true) : putJ l js j = (insJ j js, true) ∧ jobsOk l js = true ∧ jobsOk l (insJ j js) = true := by
  unfold putJ at h ⊢
  split at h
  · rename_i k; exact ⟨by rw [if_pos k], k⟩
  · cases h
theorem put_off {l : List Tk} {js : List Jb} {j : Jb} (h : (putJ l js j).2 = false) : putJ l js j = ([], false) := by
  unfold putJ at h ⊢
  split at h
  · cases h
  · rename_i k; rw [if_neg k]
theorem insJ_split (j : Jb) : ∀ js : List Jb, ∃ a b, js = a ++ b ∧ insJ j js = a ++ j :: b
  | [] => ⟨[], [], rfl, rfl⟩
  | u :: t => by
    by_cases hu : ordBad u j = true
    · exact ⟨[], u :: t, rfl, by simp [insJ, hu]⟩
    · obtain ⟨a, b, e, e'⟩ := insJ_split j t
      exact ⟨u :: a, b, by simp [e], by simp [insJ, hu, e']⟩
theorem put_again {l : List Tk} {js : List Jb} {j : Jb} (hm : j ∈ js) : (putJ l js j).2 = false := by
  cases h : (putJ l js j).2 with
  | false => rfl
  | true =>
    exfalso
    obtain ⟨_, _, h3⟩ := insJ_put h
    have hp := ((jobsOk_iff l _).1 h3).2.2.2.imp (fun h => h.1)
    obtain ⟨a, b, e, e'⟩ := insJ_split j js
    rw [e'] at hp
    rw [List.pairwise_append] at hp
    have hnn : ∀ x : Jb, ¬ Lt x x := fun x => by unfold Lt; omega
    rw [e] at hm
    rcases List.mem_append.1 hm with h1 | h1
    · exact hnn j (hp.2.2 j h1 j (by simp))
    · exact hnn j ((List.pairwise_cons.1 hp.2.1).1 j h1)

def cntJ (j : Jb) : List Jb → Nat
  | [] => 0
  | x :: l => (if x = j then 1 else 0) + cntJ j l
def restJ (j : Jb) : List Jb → List Jb
  | [] => []
  | x :: l => if x = j then restJ j l else x :: restJ j l
theorem cntJ_append (j : Jb) : ∀ a b : List Jb, cntJ j (a ++ b) = cntJ j a + cntJ j b
  | [], b => by simp [cntJ]
  | x :: a, b => by simp only [List.cons_append, cntJ, cntJ_append j a b]; omega
theorem restJ_append (j : Jb) : ∀ a b : List Jb, restJ j (a ++ b) = restJ j a ++ restJ j b
  | [], b => rfl
  | x :: a, b => by
    simp only [List.cons_append, restJ, restJ_append j a b]
    split <;> rfl
theorem restJ_len (j : Jb) : ∀ a : List Jb, (restJ j a).length ≤ a.length
  | [] => Nat.le_refl _
  | x :: a => by
    have := restJ_len j a
    simp only [restJ]
    split <;> simp <;> omega
theorem cntJ_no {j : Jb} : ∀ {l : List Jb}, j ∉ l → cntJ j l = 0 ∧ restJ j l = l
  | [], _ => ⟨rfl, rfl⟩
  | x :: l, h => by
    have hx : ¬ x = j := fun e => h (by simp [e])
    obtain ⟨h1, h2⟩ := cntJ_no (j := j) (l := l) (fun e => h (by simp [e]))
    simp [cntJ, restJ, hx, h1, h2]
theorem cntJ_snoc {j x : Jb} {l : List Jb} {k : Nat} (h : l[k]? = some x) : cntJ j (l.take (k + 1)) = cntJ j (l.take k) + (if x = j then 1 else 0) ∧ restJ j (l.take (k + 1)) = restJ j (l.take k) ++ (if x = j then [] else [x]) := by
  rw [take_snoc h, cntJ_append, restJ_append]
  by_cases hx : x = j <;> simp [cntJ, restJ, hx]
theorem put_all {l : List Tk} {js : List Jb} {j : Jb} (h : (putJ l js j).2 = true) : cntJ j (insJ j js) = 1 ∧ restJ j (insJ j js) = js ∧ needOf (insJ j js) j.task = needOf js j.task + j.need := by
  obtain ⟨_, h2, h3⟩ := insJ_put h
  have hno : j ∉ js := fun hm => by rw [put_again hm] at h; cases h
  obtain ⟨a, b, e, e'⟩ := insJ_split j js
  have ha : j ∉ a := fun hm => hno (by rw [e]; simp [hm])
  have hb : j ∉ b := fun hm => hno (by rw [e]; simp [hm])
  obtain ⟨c1, r1⟩ := cntJ_no ha
  obtain ⟨c2, r2⟩ := cntJ_no hb
  refine ⟨?_, ?_, ?_⟩
  · rw [e', cntJ_append]; simp [cntJ, c1, c2]
  · rw [e', restJ_append]; simp [restJ, r1, r2, e]
  · rw [needOf, needOf, if_pos (ok_told h3), if_pos (ok_told h2), e', e, sumN_append, sumN_append]
    simp only [sumN, if_true]
    omega
end Go.Proofs.Ytbgfclcnddgboaa
