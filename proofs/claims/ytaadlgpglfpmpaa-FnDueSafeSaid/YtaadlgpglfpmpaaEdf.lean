/-
  Runs by deadlines: tasks that hold with virtual deadlines are late with no job. First: counts of jobs that are apart, and who runs. No program in sight.
-/
import Derived.Test.YtaadlgpglfpmpaaWnL
import Derived.Test.YtaadlgpglfpmpaaEdfU

namespace Go.Proofs.Ytaadlgpglfpmpaa
open Go.RowKit

/-- The jobs of a task of which P is said. -/
def cntP2 (q : Int) (P : Jb → Bool) : List Jb → Int
  | [] => 0
  | j :: js => (if j.task = q ∧ P j = true then 1 else 0) + cntP2 q P js
theorem cntP2_nn (q : Int) (P : Jb → Bool) : ∀ js, 0 ≤ cntP2 q P js
  | [] => Int.le_refl _
  | j :: js => by have := cntP2_nn q P js; simp only [cntP2]; split <;> omega
theorem cntP2_zero {q : Int} {P : Jb → Bool} : ∀ {js : List Jb}, cntP2 q P js = 0 → ∀ j ∈ js, j.task = q → P j = false
  | [], _, j, hj, _ => by simp at hj
  | a :: js, h, j, hj, hq => by
    have h1 := cntP2_nn q P js
    simp only [cntP2] at h
    rcases List.mem_cons.1 hj with rfl | hj
    · cases hp : P j with
      | false => rfl
      | true => rw [if_pos ⟨hq, hp⟩] at h; omega
    · exact cntP2_zero (js := js) (by split at h <;> omega) j hj hq
/-- Jobs of task q are apart by E. -/
def ApartQ (q E : Int) (js : List Jb) : Prop := js.Pairwise fun a b => a.task = q → b.task = q → E ≤ b.at_ - a.at_
/-- Of n jobs that come from s on the last comes (n - 1) periods later, or still later. -/
theorem cnt_last {q E : Int} (hE : 0 ≤ E) {P : Jb → Bool} : ∀ (js : List Jb) (s : Int), ApartQ q E js → (∀ j ∈ js, j.task = q → P j = true → s ≤ j.at_) → 1 ≤ cntP2 q P js → ∃ j ∈ js, j.task = q ∧ P j = true ∧ s + (cntP2 q P js - 1) * E ≤ j.at_
  | [], _, _, _, h => by simp [cntP2] at h
  | a :: js, s, hp, hs, h => by
    obtain ⟨h1, h2⟩ := List.pairwise_cons.1 hp
    have hnn := cntP2_nn q P js
    simp only [cntP2] at h ⊢
    by_cases c : a.task = q ∧ P a = true
    · rw [if_pos c] at h ⊢
      have hsa := hs a (by simp) c.1 c.2
      by_cases h0 : 1 ≤ cntP2 q P js
      · obtain ⟨j, hj, hq, hP, hle⟩ := cnt_last hE js (s + E) h2 (fun j hj hq hP => by have := h1 j hj c.1 hq; omega) h0
        refine ⟨j, by simp [hj], hq, hP, ?_⟩
        rw [Int.sub_mul] at hle
        rw [show 1 + cntP2 q P js - 1 = cntP2 q P js by omega]
        omega
      · refine ⟨a, by simp, c.1, c.2, ?_⟩
        rw [show 1 + cntP2 q P js - 1 = 0 by omega]; omega
    · rw [if_neg c] at h ⊢
      rw [Int.zero_add] at h ⊢
      obtain ⟨j, hj, r⟩ := cnt_last hE js s h2 (fun j hj => hs j (by simp [hj])) h
      exact ⟨j, by simp [hj], r⟩
/-- The first of them. -/
theorem cnt_first {q E : Int} (hE : 0 ≤ E) {P : Jb → Bool} : ∀ (js : List Jb), ApartQ q E js → 1 ≤ cntP2 q P js → ∃ j ∈ js, j.task = q ∧ P j = true ∧ ∀ k ∈ js, k.task = q → P k = true → j.at_ ≤ k.at_
  | [], _, h => by simp [cntP2] at h
  | a :: js, hp, h => by
    obtain ⟨h1, h2⟩ := List.pairwise_cons.1 hp
    by_cases c : a.task = q ∧ P a = true
    · refine ⟨a, by simp, c.1, c.2, fun k hk hq _ => ?_⟩
      rcases List.mem_cons.1 hk with rfl | hk
      · exact Int.le_refl _
      · have := h1 k hk c.1 hq; omega
    · simp only [cntP2] at h
      rw [if_neg c, Int.zero_add] at h
      obtain ⟨j, hj, hq, hP, hle⟩ := cnt_first hE js h2 h
      refine ⟨j, by simp [hj], hq, hP, fun k hk hq' hP' => ?_⟩
      rcases List.mem_cons.1 hk with rfl | hk
      · exact absurd ⟨hq', hP'⟩ c
      · exact hle k hk hq' hP'
theorem apart_two {q E : Int} (hE : 1 ≤ E) {js : List Jb} (h : ApartQ q E js) {a b : Jb} (ha : a ∈ js) (hb : b ∈ js) (hqa : a.task = q) (hqb : b.task = q) (hlt : a.at_ < b.at_) : a.at_ + E ≤ b.at_ := by
  obtain ⟨i, hi⟩ := List.mem_iff_getElem?.1 ha
  obtain ⟨k, hk⟩ := List.mem_iff_getElem?.1 hb
  rcases Nat.lt_trichotomy i k with h1 | h1 | h1
  · have := pair_at h h1 hi hk hqa hqb; omega
  · subst h1; rw [hi] at hk; simp at hk; subst hk; omega
  · have := pair_at h h1 hk hi hqb hqa; omega
/-- What is done between, of a task: no more than cap for each job of which P is said. -/
theorem sumD_two {q cap cap2 : Int} {P R : Jb → Bool} : ∀ (js : List Jb) (d1 d2 : List Int), d1.length = js.length → d2.length = js.length → (∀ (k : Nat) (j : Jb) (a b : Int), js[k]? = some j → j.task = q → d1[k]? = some a → d2[k]? = some b → b - a ≤ (if P j = true then cap else 0) + (if R j = true then cap2 else 0)) → sumD q js d2 - sumD q js d1 ≤ cap * cntP2 q P js + cap2 * cntP2 q R js
  | [], _, _, _, _, _ => by simp [sumD, cntP2]
  | j :: js, [], _, h, _, _ => by simp at h
  | j :: js, _ :: _, [], _, h, _ => by simp at h
  | j :: js, a :: d1, b :: d2, h1, h2, h => by
    have ih := sumD_two (q := q) (cap := cap) (cap2 := cap2) (P := P) (R := R) js d1 d2 (by simpa using h1) (by simpa using h2) (fun k j' a' b' x y z v => h (k + 1) j' a' b' (by simpa using x) y (by simpa using z) (by simpa using v))
    have h0 := h 0 j a b rfl
    simp only [sumD, cntP2]
    by_cases c : j.task = q
    · have h3 := h0 c rfl rfl
      rw [if_pos c, if_pos c, Int.mul_add, Int.mul_add]
      have e1 : (cap * if j.task = q ∧ P j = true then 1 else 0) = if P j = true then cap else 0 := by
        by_cases c2 : P j = true
        · rw [if_pos ⟨c, c2⟩, if_pos c2, Int.mul_one]
        · rw [if_neg (fun x => c2 x.2), if_neg c2, Int.mul_zero]
      have e2 : (cap2 * if j.task = q ∧ R j = true then 1 else 0) = if R j = true then cap2 else 0 := by
        by_cases c2 : R j = true
        · rw [if_pos ⟨c, c2⟩, if_pos c2, Int.mul_one]
        · rw [if_neg (fun x => c2 x.2), if_neg c2, Int.mul_zero]
      rw [e1, e2]; omega
    · rw [if_neg c, if_neg c, if_neg (fun x => c x.1), if_neg (fun x => c x.1), Int.mul_add, Int.mul_add, Int.mul_zero, Int.mul_zero]; omega

/-! ### Work over the shares -/

/-- What every task does, task by task, over the shares: p S q N is no more than what the shares allow. -/
def sumPQ (g : Tk → Int) (crit : Bool) : List Tk → Int
  | [] => 0
  | t :: l => (if t.crit = crit then g t else 0) + sumPQ g crit l
theorem sumG_parts (g : Tk → Int) : ∀ l : List Tk, sumG g l = sumPQ g false l + sumPQ g true l
  | [] => rfl
  | t :: l => by
    have := sumG_parts g l
    simp only [sumG, sumPQ]
    cases t.crit <;> simp <;> omega
theorem needF_some {crit high : Bool} {t : Tk} (h : t.crit = crit) : needF crit high t = some (if high then t.high.toNat else t.low.toNat) := by simp [needF, h]
theorem needF_none {crit high : Bool} {t : Tk} (h : t.crit ≠ crit) : needF crit high t = none := by simp [needF, h]
/-- If a task's work g over its period is no more than its low need times A and its high need times B, all of them is no more than the shares times A and B. -/
theorem sumPQ_le {g : Tk → Int} {crit : Bool} {c A B : Int} {N : Nat} : ∀ (l : List Tk), (∀ t ∈ l, t.ok = true ∧ t.every.toNat ∣ N) → (∀ t ∈ l, t.crit = crit → c * g t * t.every ≤ t.low * A + t.high * B) → c * sumPQ g crit l * N ≤ utilF (needF crit false) N l * A + utilF (needF crit true) N l * B
  | [], _, _ => by simp [sumPQ, utilF]
  | t :: l, hl, h => by
    have ih := sumPQ_le (g := g) (crit := crit) (c := c) (A := A) (B := B) (N := N) l (fun u hu => hl u (by simp [hu])) (fun u hu => h u (by simp [hu]))
    obtain ⟨hok, k, hk⟩ := hl t (by simp)
    have hkt := (Tk.ok_iff t).1 hok
    have he : 0 < t.every.toNat := by omega
    have hdiv : N / t.every.toNat = k := by rw [hk]; exact Nat.mul_div_cancel_left k he
    simp only [sumPQ, utilF]
    by_cases hc : t.crit = crit
    · rw [if_pos hc, needF_some hc, needF_some hc]
      have h1 := h t (by simp) hc
      dsimp only
      rw [hdiv]
      have h2 := Int.mul_le_mul_of_nonneg_right h1 (show (0 : Int) ≤ (k : Int) by omega)
      have e1 : c * g t * t.every * (k : Int) = c * g t * (N : Int) := by
        rw [hk, Int.natCast_mul, Int.toNat_of_nonneg (by omega), Int.mul_assoc, Int.mul_assoc]
      rw [e1, Int.add_mul] at h2
      have e2 : (((if false = true then t.high.toNat else t.low.toNat) * k : Nat) : Int) * A = t.low * A * k := by
        rw [if_neg (by simp), Int.natCast_mul, Int.toNat_of_nonneg (by omega), Int.mul_assoc, Int.mul_assoc, Int.mul_comm (k : Int) A]
      have e3 : (((if true = true then t.high.toNat else t.low.toNat) * k : Nat) : Int) * B = t.high * B * k := by
        rw [if_pos rfl, Int.natCast_mul, Int.toNat_of_nonneg (by omega), Int.mul_assoc, Int.mul_assoc, Int.mul_comm (k : Int) B]
      rw [Int.natCast_add, Int.natCast_add, Int.add_mul, Int.add_mul, e2, e3, Int.mul_add, Int.add_mul]
      omega
    · rw [if_neg hc, needF_none hc, needF_none hc]
      dsimp only
      rw [Nat.zero_add, Nat.zero_add, Int.zero_add]
      exact ih
end Go.Proofs.Ytaadlgpglfpmpaa
