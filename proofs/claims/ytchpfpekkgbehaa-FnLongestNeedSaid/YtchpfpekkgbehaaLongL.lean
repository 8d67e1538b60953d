/-
  Plain laws on the longest response of a run.
-/
import Derived.Test.YtchpfpekkgbehaaGH
import Derived.Test.YtchpfpekkgbehaaDr9
import Derived.Test.YtchpfpekkgbehaaLongest
import Derived.Test.YtchpfpekkgbehaaGI



namespace Go.Proofs.Ytchpfpekkgbehaa
open Go.RowKit

theorem long_ge (t : Int) : ∀ (js : List Jb) (es : List Int) (m : Int), m ≤ longFrom t js es m
  | [], _, m => by simp [longFrom]
  | _ :: _, [], m => by simp [longFrom]
  | j :: js, e :: es, m => by
    simp only [longFrom]
    refine Int.le_trans ?_ (long_ge t js es _)
    split <;> omega
theorem long_all (t : Int) : ∀ (js : List Jb) (es : List Int) (m : Int) (k : Nat) (j : Jb) (e : Int), js[k]? = some j → es[k]? = some e → j.task = t → 0 ≤ j.at_ → 0 ≤ e → e - j.at_ ≤ longFrom t js es m
  | [], _, _, _, _, _, h, _, _, _, _ => by simp at h
  | _ :: _, [], _, _, _, _, _, h, _, _, _ => by simp at h
  | j0 :: js, e0 :: es, m, 0, j, e, h1, h2, h3, h4, h5 => by
    simp at h1 h2
    subst h1 h2
    simp only [longFrom]
    refine Int.le_trans ?_ (long_ge t js es _)
    split
    · exact Int.le_refl _
    · rename_i hn
      have : ¬ m < e0 - j0.at_ := fun h => hn ⟨h3, h4, h5, h⟩
      omega
  | j0 :: js, e0 :: es, m, k + 1, j, e, h1, h2, h3, h4, h5 => by
    simp only [longFrom]
    exact long_all t js es _ k j e (by simpa using h1) (by simpa using h2) h3 h4 h5
theorem long_is (t : Int) : ∀ (js : List Jb) (es : List Int) (m : Int), longFrom t js es m = m ∨ ∃ (k : Nat) (j : Jb) (e : Int), js[k]? = some j ∧ es[k]? = some e ∧ j.task = t ∧ 0 ≤ j.at_ ∧ 0 ≤ e ∧ e - j.at_ = longFrom t js es m
  | [], _, m => by simp [longFrom]
  | _ :: _, [], m => by simp [longFrom]
  | j :: js, e :: es, m => by
    simp only [longFrom]
    rcases long_is t js es (if j.task = t ∧ 0 ≤ j.at_ ∧ 0 ≤ e ∧ m < e - j.at_ then e - j.at_ else m) with h | ⟨k, j', e', h1, h2, h3⟩
    · rw [h]
      split
      · rename_i hc
        exact .inr ⟨0, j, e, rfl, rfl, hc.1, hc.2.1, hc.2.2.1, rfl⟩
      · exact .inl rfl
    · exact .inr ⟨k + 1, j', e', by simpa using h1, by simpa using h2, h3⟩
/-- The run is one of a good set, where it has an end for each job and more than that, or it has a single job, or it has no tick. -/
theorem like_cases {l : List Tk} {js : List Jb} {R : Rn} (h : Like l js R) (hlen : R.ended.length = js.length) : (∃ (P N : Int) (x : Rn), runJ l js P N = (x, true) ∧ R.ended = x.ended) ∨ js = [] ∨ (js.length = 1 ∧ R.trace = []) := by
  obtain ⟨P, N, x, o, hr, hR⟩ := h
  cases o with
  | true =>
    have hel := run_elen hr
    rcases hR with rfl | ⟨y, rfl⟩ | ⟨y, rfl⟩
    · exact .inl ⟨P, N, _, hr, rfl⟩
    · simp at hlen; omega
    · exact .inl ⟨P, N, x, hr, rfl⟩
  | false =>
    have hx : x = none0 := by
      unfold runJ at hr
      split at hr
      · simp at hr
      · simp at hr; exact hr.symm
    subst hx
    rcases hR with rfl | ⟨y, rfl⟩ | ⟨y, rfl⟩
    · exact .inr (.inl (List.length_eq_zero_iff.1 (by rw [← hlen]; rfl)))
    · exact .inr (.inr ⟨by rw [← hlen]; rfl, rfl⟩)
    · exact .inr (.inl (List.length_eq_zero_iff.1 (by rw [← hlen]; rfl)))
end Go.Proofs.Ytchpfpekkgbehaa
