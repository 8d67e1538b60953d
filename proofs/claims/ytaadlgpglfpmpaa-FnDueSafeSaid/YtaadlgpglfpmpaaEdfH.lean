/-
  Runs by deadlines: at its deadline no job is left while needs are high. No program in sight.
-/
import Derived.Test.YtaadlgpglfpmpaaEdfK
namespace Go.Proofs.Ytaadlgpglfpmpaa
open Go.RowKit

theorem cntP2_none {q : Int} {P : Jb → Bool} : ∀ {js : List Jb}, (∀ j ∈ js, j.task = q → P j = false) → cntP2 q P js = 0
  | [], _ => rfl
  | a :: js, h => by
    have := cntP2_none (js := js) (fun j hj => h j (by simp [hj]))
    simp only [cntP2]
    rw [this, if_neg]
    · rfl
    · rintro ⟨h1, h2⟩
      rw [h a (by simp) h1] at h2; simp at h2
theorem min_mem (f : Nat → Int) (P : Nat → Prop) : ∀ L : List Nat, (∃ k ∈ L, P k) → ∃ k ∈ L, P k ∧ ∀ k' ∈ L, P k' → f k ≤ f k'
  | [], ⟨k, hk, _⟩ => by simp at hk
  | a :: L, h => by
    by_cases hL : ∃ k ∈ L, P k
    · obtain ⟨k, hk, hP, hm⟩ := min_mem f P L hL
      by_cases c : P a ∧ f a < f k
      · refine ⟨a, by simp, c.1, fun k' hk' hP' => ?_⟩
        rcases List.mem_cons.1 hk' with rfl | hk'
        · exact Int.le_refl _
        · have := hm k' hk' hP'; omega
      · refine ⟨k, by simp [hk], hP, fun k' hk' hP' => ?_⟩
        rcases List.mem_cons.1 hk' with rfl | hk'
        · exact Int.le_of_not_gt fun h => c ⟨hP', h⟩
        · exact hm k' hk' hP'
    · obtain ⟨k, hk, hP⟩ := h
      rcases List.mem_cons.1 hk with rfl | hk
      · refine ⟨k, by simp, hP, fun k' hk' hP' => ?_⟩
        rcases List.mem_cons.1 hk' with rfl | hk'
        · exact Int.le_refl _
        · exact absurd ⟨k', hk', hP'⟩ hL
      · exact absurd ⟨k, hk, hP⟩ hL
/-- Jobs that come from u on and are due by d. -/
theorem cnt_due {q E u d : Int} (hE : 1 ≤ E) {P : Jb → Bool} {js : List Jb} (ha : ApartQ q E js) (hud : u ≤ d) (hP : ∀ j ∈ js, j.task = q → P j = true → u ≤ j.at_ ∧ j.at_ + E ≤ d) : cntP2 q P js * E ≤ d - u := by
  by_cases h0 : 1 ≤ cntP2 q P js
  · obtain ⟨j, hj, hq, hp, hle⟩ := cnt_last (by omega) js u ha (fun j hj hq hp => (hP j hj hq hp).1) h0
    have := (hP j hj hq hp).2
    rw [Int.sub_mul] at hle
    omega
  · have := cntP2_nn q P js
    rw [show cntP2 q P js = 0 by omega, Int.zero_mul]; omega
/-- Of a critical task: jobs ahead of u with low needs, and jobs from u on with high needs. -/
theorem cnt_mix {x : Fr} {T : Tk} {q s u d : Int} (hc : T.crit = true) (hE1 : 1 ≤ T.every) (hl0 : 0 ≤ T.low) (hlh : T.low ≤ T.high) (hpq : x.p ≤ x.q) {P R : Jb → Bool} {js : List Jb} (ha : ApartQ q T.every js) (hsu : s ≤ u) (hud : u ≤ d)
    (hP : ∀ j ∈ js, j.task = q → P j = true → s ≤ j.at_ ∧ j.at_ < u ∧ lkJ x T j ≤ u * x.q + (d - u) * x.p) (hR : ∀ j ∈ js, j.task = q → R j = true → u ≤ j.at_ ∧ j.at_ + T.every ≤ d) :
    (T.low * cntP2 q P js + T.high * cntP2 q R js) * (T.every * x.p) ≤ T.low * ((u - s) * x.q) + T.high * ((d - u) * x.p) := by
  have n1 := cntP2_nn q P js
  have n2 := cntP2_nn q R js
  have hp0 : (0 : Int) ≤ x.p := by omega
  have hB : 0 ≤ (d - u) * (x.p : Int) := Int.mul_nonneg (by omega) hp0
  by_cases h2 : 1 ≤ cntP2 q R js
  · obtain ⟨g, hg, hgq, hgR, hgm⟩ := cnt_first (by omega) js ha h2
    have hgu := hR g hg hgq hgR
    have e2 := cnt_due (u := g.at_) (d := d) hE1 ha (by omega) (fun j hj hq hr => ⟨hgm j hj hq hr, (hR j hj hq hr).2⟩)
    have e1 : cntP2 q P js * T.every ≤ g.at_ - s := by
      refine cnt_due (u := s) (d := g.at_) hE1 ha (by omega) (fun j hj hq hr => ?_)
      have := hP j hj hq hr
      exact ⟨this.1, apart_two hE1 ha hj hg hq hgq (by omega)⟩
    generalize cntP2 q P js = a at *
    generalize cntP2 q R js = b at *
    have f1 := Int.mul_le_mul_of_nonneg_left e1 hl0
    have f2 := Int.mul_le_mul_of_nonneg_left e2 (show 0 ≤ T.high by omega)
    have f3 : T.low * (g.at_ - u) ≤ T.high * (g.at_ - u) := Int.mul_le_mul_of_nonneg_right hlh (by omega)
    have f4 : T.low * (a * T.every) + T.high * (b * T.every) ≤ T.low * (u - s) + T.high * (d - u) := by
      have k1 : T.low * (g.at_ - s) = T.low * (u - s) + T.low * (g.at_ - u) := by rw [← Int.mul_add]; congr 1; omega
      have k2 : T.high * (d - u) = T.high * (d - g.at_) + T.high * (g.at_ - u) := by rw [← Int.mul_add]; congr 1; omega
      omega
    have f5 := Int.mul_le_mul_of_nonneg_right f4 hp0
    have k3 : (T.low * a + T.high * b) * (T.every * (x.p : Int)) = (T.low * (a * T.every) + T.high * (b * T.every)) * x.p := by
      rw [Int.add_mul, Int.add_mul]; congr 1 <;> ac_rfl
    rw [k3]
    refine Int.le_trans f5 ?_
    rw [Int.add_mul, Int.mul_assoc, Int.mul_assoc]
    have f6 : (u - s) * (x.p : Int) ≤ (u - s) * x.q := Int.mul_le_mul_of_nonneg_left (by omega) (by omega)
    have f7 := Int.mul_le_mul_of_nonneg_left f6 hl0
    omega
  · have hb : cntP2 q R js = 0 := by omega
    have e1 := cnt_bound (x := x) (T := T) (q := q) (E := T.every) (K := u * x.q + (d - u) * x.p) (s := s) (P := P) rfl hE1 hpq ha (fun j hj hq hr => ⟨(hP j hj hq hr).1, (hP j hj hq hr).2.2⟩) (by
      have := Int.mul_nonneg (show 0 ≤ u - s by omega) (show (0 : Int) ≤ x.q by omega)
      rw [Int.sub_mul] at this; omega)
    rw [hb, Int.mul_zero, Int.add_zero]
    have hcw : cwT x T = x.p := by simp [cwT, hc]
    rw [hcw] at e1
    have f1 := Int.mul_le_mul_of_nonneg_left e1 hl0
    have f2 : T.low * ((d - u) * (x.p : Int)) ≤ T.high * ((d - u) * x.p) := Int.mul_le_mul_of_nonneg_right hlh hB
    have k1 : T.low * (u * x.q + (d - u) * x.p - s * x.q) = T.low * ((u - s) * x.q) + T.low * ((d - u) * x.p) := by
      rw [← Int.mul_add]; congr 1; rw [Int.sub_mul u s]; omega
    rw [Int.mul_assoc]
    omega
theorem dem_high {l : List Tk} {N H : Nat} {M : Int} (hl : ∀ t ∈ l, t.ok = true ∧ t.every.toNat ∣ N) (hH : H = utilF (needF true true) N l) (hN : 0 < N) (hHN : H ≤ N) (hM : 0 ≤ M) : sumG (fun T => if T.crit = true then T.high * M / T.every else 0) l ≤ M := by
  rw [sumG_parts, sumPQ_zero (crit := false) (fun t _ hc => by simp [hc]), Int.zero_add]
  have := sumPQ_le (g := fun T => if T.crit = true then T.high * M / T.every else 0) (crit := true) (c := 1) (A := 0) (B := M) (N := N) l hl (fun t ht hc => by
    have hk := (Tk.ok_iff t).1 (hl t ht).1
    (try dsimp only)
    rw [if_pos hc, Int.mul_zero, Int.zero_add, Int.one_mul]
    exact Int.ediv_mul_le _ (by omega))
  rw [Int.mul_zero, Int.zero_add, Int.one_mul, ← hH] at this
  refine Int.le_of_mul_le_mul_right (Int.le_trans this ?_) (show (0 : Int) < N by omega)
  rw [Int.mul_comm M]
  exact Int.mul_le_mul_of_nonneg_right (by omega) hM
/-- What is done with low needs over A, and with high needs over B. -/
theorem dem_both {l : List Tk} {x : Fr} {N A B H : Nat} {m n : Int} (hl : ∀ t ∈ l, t.ok = true ∧ t.every.toNat ∣ N) (hA : A = utilF (needF false false) N l) (hB : B = utilF (needF true false) N l) (hH : H = utilF (needF true true) N l) (hV : Virt l x N A B H) (hp : 0 < x.p) (hm : 0 ≤ m) (hn : 0 ≤ n) :
    sumG (fun T => if T.crit = true then (T.low * (m * x.q) + T.high * (n * x.p)) / (T.every * x.p) else T.low * (m * x.q + n * x.p) / (T.every * x.q)) l ≤ m + n := by
  have hq := hV.q
  have hN := hV.n
  rw [sumG_parts]
  have h0 := sumPQ_le (g := fun T => if T.crit = true then (T.low * (m * x.q) + T.high * (n * x.p)) / (T.every * x.p) else T.low * (m * x.q + n * x.p) / (T.every * x.q)) (crit := false) (c := x.q) (A := m * x.q + n * x.p) (B := 0) (N := N) l hl (fun t ht hc => by
    have hk := (Tk.ok_iff t).1 (hl t ht).1
    (try dsimp only)
    rw [if_neg (by simp [hc]), Int.mul_zero, Int.add_zero, Int.mul_assoc, Int.mul_comm, Int.mul_assoc]
    exact Int.ediv_mul_le _ (by have := Int.mul_pos (show 0 < t.every by omega) (show (0 : Int) < x.q by omega); omega))
  have h1 := sumPQ_le (g := fun T => if T.crit = true then (T.low * (m * x.q) + T.high * (n * x.p)) / (T.every * x.p) else T.low * (m * x.q + n * x.p) / (T.every * x.q)) (crit := true) (c := x.p) (A := m * x.q) (B := n * x.p) (N := N) l hl (fun t ht hc => by
    have hk := (Tk.ok_iff t).1 (hl t ht).1
    (try dsimp only)
    rw [if_pos hc, Int.mul_assoc, Int.mul_comm, Int.mul_assoc]
    exact Int.ediv_mul_le _ (by have := Int.mul_pos (show 0 < t.every by omega) (show (0 : Int) < x.p by omega); omega))
  rw [Int.mul_zero, Int.add_zero, ← hA] at h0
  rw [← hB, ← hH] at h1
  generalize sumPQ (fun T => if T.crit = true then (T.low * (m * x.q) + T.high * (n * x.p)) / (T.every * x.p) else T.low * (m * x.q + n * x.p) / (T.every * x.q)) false l = S0 at *
  generalize sumPQ (fun T => if T.crit = true then (T.low * (m * x.q) + T.high * (n * x.p)) / (T.every * x.p) else T.low * (m * x.q + n * x.p) / (T.every * x.q)) true l = S1 at *
  have hpqn : (0 : Int) < x.p * x.q * N := Int.mul_pos (Int.mul_pos (by omega) (by omega)) (by omega)
  refine Int.le_of_mul_le_mul_left ?_ hpqn
  have k0 := Int.mul_le_mul_of_nonneg_left h0 (show (0 : Int) ≤ x.p by omega)
  have k1 := Int.mul_le_mul_of_nonneg_left h1 (show (0 : Int) ≤ x.q by omega)
  have c1 : ((x.p * A + x.q * B : Nat) : Int) * (m * x.q) ≤ ((x.p * N : Nat) : Int) * (m * x.q) := Int.mul_le_mul_of_nonneg_right (by exact_mod_cast hV.low) (Int.mul_nonneg hm (by omega))
  have c2 : ((x.p * A + x.q * H : Nat) : Int) * (n * x.p) ≤ ((x.q * N : Nat) : Int) * (n * x.p) := Int.mul_le_mul_of_nonneg_right (by exact_mod_cast hV.high) (Int.mul_nonneg hn (by omega))
  have e0 : (x.p : Int) * x.q * N * (S0 + S1) = x.p * (x.q * S0 * N) + x.q * (x.p * S1 * N) := by
    rw [Int.mul_add]; congr 1 <;> ac_rfl
  have e1 : ((x.p * A + x.q * B : Nat) : Int) * (m * x.q) = x.p * (A * (m * x.q)) + x.q * (B * (m * x.q)) := by
    rw [Int.natCast_add, Int.natCast_mul, Int.natCast_mul, Int.add_mul, Int.mul_assoc (x.p : Int), Int.mul_assoc (x.q : Int)]
  have e2 : ((x.p * A + x.q * H : Nat) : Int) * (n * x.p) = x.p * (A * (n * x.p)) + x.q * (H * (n * x.p)) := by
    rw [Int.natCast_add, Int.natCast_mul, Int.natCast_mul, Int.add_mul, Int.mul_assoc (x.p : Int), Int.mul_assoc (x.q : Int)]
  have e3 : ((x.p * N : Nat) : Int) * (m * x.q) + ((x.q * N : Nat) : Int) * (n * x.p) = x.p * x.q * N * (m + n) := by
    rw [Int.natCast_mul, Int.natCast_mul, Int.mul_add]; congr 1 <;> ac_rfl
  have e4 : (x.p : Int) * (A * (m * x.q + n * x.p)) = x.p * (A * (m * x.q)) + x.p * (A * (n * x.p)) := by rw [Int.mul_add, Int.mul_add]
  have e5 : (x.q : Int) * (B * (m * x.q) + H * (n * x.p)) = x.q * (B * (m * x.q)) + x.q * (H * (n * x.p)) := Int.mul_add _ _ _
  rw [e0, ← e3]
  rw [e1] at c1; rw [e2] at c2
  rw [e4] at k0; rw [e5] at k1
  omega
end Go.Proofs.Ytaadlgpglfpmpaa
