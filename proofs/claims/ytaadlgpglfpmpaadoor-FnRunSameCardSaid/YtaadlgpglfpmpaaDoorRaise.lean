/-
  The walks of RaiseAll.
-/
import Derived.Test.YtaadlgpglfpmpaaDoorGB
import Derived.Test.YtaadlgpglfpmpaaDoorWorst


namespace Go.Proofs.YtaadlgpglfpmpaaDoor
open Go.RowKit

def upT (d : Int) (t : Tk) : Tk := ⟨t.low + d, t.high + d, t.due, t.every, t.crit⟩
def raiseT (l : List Tk) (d : Int) : List Tk × Bool := if -20 ≤ d ∧ d ≤ 20 ∧ setOk l = true ∧ setOk (l.map (upT d)) = true then (l.map (upT d), true) else ([], false)
theorem raiseT_len (l : List Tk) (d : Int) : (raiseT l d).1.length ≤ 5 := by
  unfold raiseT
  split
  · rename_i h; exact setOk_len h.2.2.2
  · simp
theorem raiseT_no {l : List Tk} {d : Int} (h : ¬ (-20 ≤ d ∧ d ≤ 20 ∧ setOk l = true ∧ setOk (l.map (upT d)) = true)) : raiseT l d = ([], false) := if_neg h
theorem raiseT_yes {l : List Tk} {d : Int} (h : -20 ≤ d ∧ d ≤ 20 ∧ setOk l = true ∧ setOk (l.map (upT d)) = true) : raiseT l d = (l.map (upT d), true) := if_pos h

theorem oneTs (l : List Tk) : ∀ u ∈ tks l, u.oneCell' = true := by
  intro u hu
  obtain ⟨j, _, h⟩ := List.mem_flatMap.1 hu
  exact oneT j u h
theorem rt_none {w : World} {l : List Tk} (h : RT w none l) : l = [] := by
  cases l with
  | nil => rfl
  | cons j l => obtain ⟨_, _, e, _⟩ := h 0 j rfl; cases e
theorem rt_cells {w w' : World} {b off : Nat} {l : List Tk} (h : RT w (some ⟨b, off, none⟩) l) (hb : Bw w w') : ∀ j u, (tks l)[j]? = some u → w'.cell? ((⟨b, off, none⟩ : Addr).add j) = some u := by
  intro j u hu
  have hj : j < (tks l).length := (List.getElem?_eq_some_iff.1 hu).1
  rw [tks_length] at hj
  obtain ⟨q, r, hr, rfl⟩ : ∃ q r, r < 5 ∧ j = q * 5 + r := ⟨j / 5, j % 5, by omega, by omega⟩
  obtain ⟨t, ht⟩ := getSome (l := l) (k := q) (by omega)
  rw [tks_get l q t ht r hr] at hu
  obtain ⟨b', off', e, _, h0, h1, h2, h3, h4⟩ := h.bw hb q t ht
  simp at e; obtain ⟨rfl, rfl⟩ := e
  rw [add_none, ← Nat.add_assoc]
  match r, hr, hu with
  | 0, _, hu => simp [tkCells] at hu; subst hu; exact h0
  | 1, _, hu => simp [tkCells] at hu; subst hu; exact h1
  | 2, _, hu => simp [tkCells] at hu; subst hu; exact h2
  | 3, _, hu => simp [tkCells] at hu; subst hu; exact h3
  | 4, _, hu => simp [tkCells] at hu; subst hu; exact h4
theorem cell_task_new (w : World) (j : Tk) (t : TypeId) : ∀ i u, (tkCells j)[i]? = some u → (w.alloc (.cells #[vi j.low, vi j.high, vi j.due, vi j.every, .bool j.crit] t)).cell? ((⟨w.heap.size, 0, none⟩ : Addr).add i) = some u := by
  intro i u h
  match i, h with
  | 0, h => simp [tkCells] at h; subst h; simp [Addr.add]
  | 1, h => simp [tkCells] at h; subst h; simp [Addr.add]
  | 2, h => simp [tkCells] at h; subst h; simp [Addr.add]
  | 3, h => simp [tkCells] at h; subst h; simp [Addr.add]
  | 4, h => simp [tkCells] at h; subst h; simp [Addr.add]

theorem set_up {cur : Array Value} {A B : List Tk} {t : Tk} {n : Nat} (h : cur.toList.take n = tks (A ++ t :: B)) (d : Int) :
    ((cur.setIfInBounds (A.length * 5) (vi (t.low + d))).setIfInBounds (A.length * 5 + 1) (vi (t.high + d))).toList.take n = tks (A ++ [upT d t] ++ B) := by
  rw [Array.toList_setIfInBounds, Array.toList_setIfInBounds, List.take_set, List.take_set, h]
  have e : tks (A ++ t :: B) = tks A ++ ([vi t.low, vi t.high, vi t.due, vi t.every, .bool t.crit] ++ tks B) := by simp [tks, tkCells]
  have e2 : tks (A ++ [upT d t] ++ B) = tks A ++ ([vi (t.low + d), vi (t.high + d), vi t.due, vi t.every, .bool t.crit] ++ tks B) := by simp [tks, tkCells, upT]
  rw [e, e2, List.set_append_right _ _ (by rw [tks_length]; omega), List.set_append_right _ _ (by rw [tks_length]; omega), tks_length]
  rw [Nat.sub_self, show A.length * 5 + 1 - A.length * 5 = 1 by omega]
  rfl
theorem cur_at {cur : Array Value} {L : List Value} {n j : Nat} {v : Value} (h : cur.toList.take n = L) (hj : L[j]? = some v) : cur[j]? = some v := by
  rw [← h, List.getElem?_take] at hj
  split at hj
  · simpa using hj
  · cases hj
theorem up_next {l : List Tk} {k : Nat} {t : Tk} (d : Int) (h : l[k]? = some t) : (l.take (k + 1)).map (upT d) ++ l.drop (k + 1) = (l.take k).map (upT d) ++ [upT d t] ++ l.drop (k + 1) := by
  rw [take_snoc h]; simp
theorem up_here {l : List Tk} {k : Nat} {t : Tk} (d : Int) (h : l[k]? = some t) : (l.take k).map (upT d) ++ l.drop k = (l.take k).map (upT d) ++ t :: l.drop (k + 1) := by
  rw [drop_cons h]

theorem RetP.rp2 {w : World} {E size : Nat} {xs : List Value} {n : Nat} {ok : Bool} {e : Ending} {w' : World} (h : RetP w E size xs n ok e w') : RP w E xs n ok e w' := by
  obtain ⟨ao, c, e1, h1, h2⟩ := h
  exact ⟨ao, c, e1, Own.ofRow h1, h2⟩
end Go.Proofs.YtaadlgpglfpmpaaDoor
