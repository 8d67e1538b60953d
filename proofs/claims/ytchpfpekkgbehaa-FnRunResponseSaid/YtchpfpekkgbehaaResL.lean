/-
  Facts that the laws of responses share: a longest response is no longer than a bound; jobs of valid lists are small.
-/
import Derived.Test.YtchpfpekkgbehaaWnL
import Derived.Test.YtchpfpekkgbehaaLongest

namespace Go.Proofs.Ytchpfpekkgbehaa
open Go.RowKit

theorem longFrom_le {t n : Int} : ∀ (js : List Jb) (es : List Int) (m : Int), m ≤ n → (∀ (k : Nat) (j : Jb) (e : Int), js[k]? = some j → es[k]? = some e → j.task = t → 0 ≤ e → e - j.at_ ≤ n) → longFrom t js es m ≤ n
  | [], _, m, h, _ => by simpa [longFrom] using h
  | j :: js, [], m, h, _ => by simpa [longFrom] using h
  | j :: js, e :: es, m, h, hh => by
    rw [longFrom]
    refine longFrom_le js es _ ?_ (fun k j' e' a b => hh (k + 1) j' e' (by simpa using a) (by simpa using b))
    have := hh 0 j e rfl rfl
    split
    · rename_i hc; exact this hc.1 hc.2.2.1
    · exact h
theorem longest_le {js : List Jb} {es : List Int} {t n : Int} (h0 : 0 ≤ n) (h : ∀ (k : Nat) (j : Jb) (e : Int), js[k]? = some j → es[k]? = some e → j.task = t → 0 ≤ e → e - j.at_ ≤ n) : longest js es t ≤ n := by
  unfold longest
  split
  · exact longFrom_le js es 0 h0 h
  · exact h0
theorem jr_ok {l : List Tk} {js : List Jb} (h : jobsOk l js = true) : JR js := ⟨fun j hj => by
  have hl5 := setOk_len (jobs_set h)
  obtain ⟨i, hi⟩ := List.mem_iff_getElem?.1 hj
  obtain ⟨j', T, hj', hT, hTo, a0, a1, n1, nh, t0, t1, _⟩ := job_of h (List.getElem?_eq_some_iff.1 hi).1
  rw [hi] at hj'; simp at hj'; subst hj'
  have hk := (Tk.ok_iff _).1 hTo
  exact ⟨⟨by omega, by omega⟩, ⟨by omega, by omega⟩, ⟨by omega, by omega⟩⟩⟩
end Go.Proofs.Ytchpfpekkgbehaa
