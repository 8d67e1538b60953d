/-
  Runs by deadlines: no job is left at its deadline. No program in sight.
-/
import Derived.Test.YtaadlgpglfpmpaaEdf
namespace Go.Proofs.Ytaadlgpglfpmpaa
open Go.RowKit

theorem last_time {P : Nat → Prop} (h0 : P 0) : ∀ a : Nat, ∃ s, s ≤ a ∧ P s ∧ ∀ τ, s < τ → τ ≤ a → ¬ P τ
  | 0 => ⟨0, Nat.le_refl _, h0, fun τ h1 h2 => by omega⟩
  | a + 1 => by
    by_cases h : P (a + 1)
    · exact ⟨a + 1, Nat.le_refl _, h, fun τ h1 h2 => by omega⟩
    · obtain ⟨s, h1, h2, h3⟩ := last_time h0 a
      refine ⟨s, by omega, h2, fun τ h4 h5 => ?_⟩
      by_cases e : τ = a + 1
      · subst e; exact h
      · exact h3 τ h4 (by omega)
/-- The deadline of a job of this task while needs are low, times the divisor. -/
def lkJ (x : Fr) (T : Tk) (j : Jb) : Int := if T.crit = true then j.at_ * x.q + T.every * x.p else (j.at_ + T.every) * x.q
def cwT (x : Fr) (T : Tk) : Int := if T.crit = true then x.p else x.q
theorem cnt_bound {x : Fr} {T : Tk} {q E K s : Int} {P : Jb → Bool} {js : List Jb} (hE : E = T.every) (hE1 : 1 ≤ E) (hpq : x.p ≤ x.q) (ha : ApartQ q E js) (hP : ∀ j ∈ js, j.task = q → P j = true → s ≤ j.at_ ∧ lkJ x T j ≤ K) (hM : 0 ≤ K - s * x.q) : cntP2 q P js * (E * cwT x T) ≤ K - s * x.q := by
  have hnn := cntP2_nn q P js
  by_cases h0 : 1 ≤ cntP2 q P js
  · obtain ⟨j, hj, hq, hp, hle⟩ := cnt_last (by omega) js s ha (fun j hj hq hp => (hP j hj hq hp).1) h0
    have hk := (hP j hj hq hp).2
    generalize cntP2 q P js = n at *
    have h1 := Int.mul_le_mul_of_nonneg_right hle (show (0 : Int) ≤ x.q by omega)
    unfold lkJ at hk
    unfold cwT
    by_cases hc : T.crit = true
    · rw [if_pos hc] at hk ⊢
      rw [← hE] at hk
      have h2 : (n - 1) * E * x.p ≤ (n - 1) * E * x.q := Int.mul_le_mul_of_nonneg_left (by omega) (Int.mul_nonneg (by omega) (by omega))
      have e1 : n * (E * (x.p : Int)) = (n - 1) * E * x.p + E * x.p := by
        rw [← Int.mul_assoc, ← Int.add_mul, Int.sub_mul, Int.one_mul, Int.sub_add_cancel]
      have e2 : (s + (n - 1) * E) * (x.q : Int) = s * x.q + (n - 1) * E * x.q := Int.add_mul _ _ _
      omega
    · rw [if_neg hc] at hk ⊢
      rw [← hE, Int.add_mul] at hk
      have e1 : n * (E * (x.q : Int)) = (n - 1) * E * x.q + E * x.q := by
        rw [← Int.mul_assoc, ← Int.add_mul, Int.sub_mul, Int.one_mul, Int.sub_add_cancel]
      have e2 : (s + (n - 1) * E) * (x.q : Int) = s * x.q + (n - 1) * E * x.q := Int.add_mul _ _ _
      omega
  · rw [show cntP2 q P js = 0 by omega, Int.zero_mul]; exact hM
theorem sumPQ_zero {g : Tk → Int} {crit : Bool} : ∀ {l : List Tk}, (∀ t ∈ l, t.crit = crit → g t = 0) → sumPQ g crit l = 0
  | [], _ => rfl
  | t :: l, h => by
    have := sumPQ_zero (l := l) (fun u hu => h u (by simp [hu]))
    simp only [sumPQ]
    by_cases hc : t.crit = crit
    · rw [if_pos hc, h t (by simp) hc]; omega
    · rw [if_neg hc]; omega
theorem util_pos {N : Nat} : ∀ {l : List Tk}, (∀ t ∈ l, t.ok = true ∧ t.every.toNat ∣ N) → 0 < N → ∀ t ∈ l, t.crit = true → 0 < utilF (needF true false) N l
  | u :: l, hl, hN, t, ht, hc => by
    simp only [utilF]
    rcases List.mem_cons.1 ht with rfl | ht
    · obtain ⟨hok, hdv⟩ := hl t (by simp)
      have hk := (Tk.ok_iff t).1 hok
      rw [needF_some hc]
      dsimp only
      have h1 : 0 < N / t.every.toNat := Nat.div_pos (Nat.le_of_dvd hN hdv) (by omega)
      have h2 : 0 < (if false = true then t.high.toNat else t.low.toNat) := by simp; omega
      exact Nat.lt_of_lt_of_le (Nat.mul_pos h2 h1) (Nat.le_add_right _ _)
    · have := util_pos (l := l) (fun v hv => hl v (by simp [hv])) hN t ht hc
      omega

section
variable {l : List Tk} {js : List Jb} {x : Fr}
theorem key_lo {k : Nat} {j : Jb} {T : Tk} (hd : T.due = T.every) (hj : js[k]? = some j) (hT : l[j.task.toNat]? = some T) : keyOf l js x false k = lkJ x T j := by
  have htk : tkOf l js k = some T := by simp [tkOf, hj, hT]
  rw [keyOf, hj, htk]
  dsimp only
  unfold lkJ
  rw [hd]
  by_cases hc : T.crit = true
  · rw [if_pos ⟨hc, rfl⟩, if_pos hc]
  · rw [if_neg (fun h => hc h.1), if_neg hc]
theorem key_hi {k : Nat} {j : Jb} {T : Tk} (hd : T.due = T.every) (hj : js[k]? = some j) (hT : l[j.task.toNat]? = some T) : keyOf l js x true k = (j.at_ + T.every) * x.q := by
  have htk : tkOf l js k = some T := by simp [tkOf, hj, hT]
  rw [keyOf, hj, htk]
  dsimp only
  rw [if_neg (by simp), hd]
/-- What is done of a job that is not the first to go. -/
theorem done_key (hok : jobsOk l js = true) {K : Int} {k a : Nat} : ∀ b, a ≤ b → (∀ τ, a ≤ τ → τ < b → ∃ k' ∈ (mid l js true x τ).left, keyOf l js x (mid l js true x τ).high k' ≤ K) → (∀ τ, a ≤ τ → τ < b → k ∈ (mid l js true x τ).left → K < keyOf l js x (mid l js true x τ).high k) → (sg l js true x b).done[k]? = (sg l js true x a).done[k]?
  | 0, h, _, _ => by rw [show a = 0 by omega]
  | b + 1, h, h1, h2 => by
    by_cases e : a = b + 1
    · rw [e]
    · have ih := done_key hok b (by omega) (fun τ x y => h1 τ x (by omega)) (fun τ x y => h2 τ x (by omega))
      rw [← ih]
      have hm := mid_done (l := l) (js := js) (due := true) (x := x) b
      rcases sg_tick (due := true) (x := x) hok b with ⟨_, h4, _⟩ | ⟨r, j, T, d, hr, hj, hT, h0, hd, hd0, hdn, hlo, hd', _, _, _, _, hkey, _⟩
      · rw [h4, hm]
      · rw [hd', hm, set_oth]
        intro e2
        subst e2
        obtain ⟨k', hk', hK⟩ := h1 b (by omega) (by omega)
        have := hkey rfl k' hk'
        have := h2 b (by omega) (by omega) hr
        omega
/-- While somebody runs the work done grows by one in each tick. -/
theorem busy_work (hok : jobsOk l js = true) {s : Nat} : ∀ n, (∀ τ, s ≤ τ → τ < s + n → (mid l js true x τ).left ≠ []) → sumX l.length js (sg l js true x (s + n)).done = sumX l.length js (sg l js true x s).done + (n : Int)
  | 0, _ => by simp
  | n + 1, h => by
    have ih := busy_work hok n (fun τ a b => h τ a (by omega))
    have hm := mid_done (l := l) (js := js) (due := true) (x := x) (s + n)
    rcases sg_tick (due := true) (x := x) hok (s + n) with ⟨h4, _⟩ | ⟨r, j, T, d, hr, hj, hT, h0, hd, hd0, hdn, hlo, hd', _⟩
    · exact absurd h4 (h (s + n) (by omega) (by omega))
    · have htl := (List.getElem?_eq_some_iff.1 hT).1
      rw [show s + (n + 1) = s + n + 1 by omega, hd', hm, sumX_set hj (by rw [← hm]; exact hd) h0, ih, if_pos (by omega)]
      omega
theorem edf_apart (hok : jobsOk l js = true) {q : Nat} {T : Tk} (hT : l[q]? = some T) : ApartQ (q : Int) T.every js :=
  ((jobsOk_iff l js).1 hok).2.2.2.imp fun {a b} h ha hb => by
    have := h.2 (by omega)
    have he : evAt l b = T.every := by simp only [evAt]; rw [show b.task.toNat = q by omega, hT]
    omega
/-- The mode, over a time in which somebody is always left. -/
theorem mode_up (hok : jobsOk l js = true) {s t : Nat} (hb : ∀ τ, s < τ → τ ≤ t → (sg l js true x τ).left ≠ []) {v : Nat} (hv : s ≤ v) (h : (mid l js true x v).high = true) : ∀ u, v ≤ u → u ≤ t → (mid l js true x u).high = true
  | 0, h1, _ => by rw [show 0 = v by omega]; exact h
  | u + 1, h1, h2 => by
    by_cases e : v = u + 1
    · rw [← e]; exact h
    · have ih := mode_up hok hb hv h u (by omega) (by omega)
      rw [mid_high_in (hb (u + 1) (by omega) h2)]
      exact sg_high hok ih
theorem mode_low (hok : jobsOk l js = true) {s t : Nat} (hb : ∀ τ, s < τ → τ ≤ t → (sg l js true x τ).left ≠ []) (h : s < t → (mid l js true x (t - 1)).high = false) : ∀ τ, s ≤ τ → τ < t → (mid l js true x τ).high = false := fun τ h1 h2 => by
  cases hm : (mid l js true x τ).high with
  | false => rfl
  | true =>
    have := mode_up hok hb h1 hm (t - 1) (by omega) (by omega)
    rw [h (by omega)] at this; simp at this
/-- Left in a tick, and come before: left ahead of it. -/
theorem mid_old (hok : jobsOk l js = true) {τ k s : Nat} (hk : k ∈ (mid l js true x τ).left) (hs : s ≤ τ) (ha : atOf js k < s) : k ∈ (sg l js true x s).left := by
  rcases mid_new hk with h | ⟨h, _⟩
  · exact back_sg hok h hs ha
  · omega
/-- One more of a job's work: the list with job k one further. -/
theorem sumX_one (hok : jobsOk l js = true) {t k : Nat} (hk : k ∈ (sg l js true x t).left) : ∃ d, (sg l js true x t).done[k]? = some d ∧ sumX l.length js ((sg l js true x t).done.set k (d + 1)) = sumX l.length js (sg l js true x t).done + 1 := by
  obtain ⟨j, T, d, hj, hT, _, h0, hlt, _, _, _, hd, _⟩ := in_left hok (sg_inv (due := true) (x := x) hok t) hk
  refine ⟨d, hd, ?_⟩
  rw [sumX_set hj hd h0, if_pos hlt]; omega

/-- The demand is no more than the shares allow, with low needs. -/
theorem dem_low {N : Nat} {A B H : Nat} {M : Int} (hl : ∀ t ∈ l, t.ok = true ∧ t.every.toNat ∣ N) (hA : A = utilF (needF false false) N l) (hB : B = utilF (needF true false) N l) (hV : Virt l x N A B H) (hM : 0 ≤ M) : x.q * sumG (fun T => T.low * M / (T.every * cwT x T)) l ≤ M := by
  have hq := hV.q
  have hN := hV.n
  have h0 : x.q * sumPQ (fun T => T.low * M / (T.every * cwT x T)) false l * N ≤ A * M := by
    have := sumPQ_le (g := fun T => T.low * M / (T.every * cwT x T)) (crit := false) (c := x.q) (A := M) (B := 0) (N := N) l hl (fun t ht hc => by
      have hk := (Tk.ok_iff t).1 (hl t ht).1
      (try dsimp only)
      have h1 : cwT x t = x.q := by simp [cwT, hc]
      rw [h1, Int.mul_zero, Int.add_zero, Int.mul_assoc, Int.mul_comm, Int.mul_assoc]
      exact Int.ediv_mul_le _ (by have := Int.mul_pos (show 0 < t.every by omega) (show (0 : Int) < x.q by omega); omega))
    rw [Int.mul_zero, Int.add_zero, ← hA] at this
    exact this
  rw [sumG_parts]
  generalize hS0 : sumPQ (fun T => T.low * M / (T.every * cwT x T)) false l = S0 at *
  by_cases hp : x.p = 0
  · have h1 : sumPQ (fun T => T.low * M / (T.every * cwT x T)) true l = 0 := sumPQ_zero fun t _ hc => by
      have : cwT x t = 0 := by simp [cwT, hc, hp]
      simp [this]
    rw [h1, Int.add_zero]
    refine Int.le_of_mul_le_mul_right ?_ (show (0 : Int) < N by omega)
    refine Int.le_trans h0 ?_
    rw [Int.mul_comm M]
    exact Int.mul_le_mul_of_nonneg_right (by have := hV.a; omega) hM
  · have h1 : x.p * sumPQ (fun T => T.low * M / (T.every * cwT x T)) true l * N ≤ B * M := by
      have := sumPQ_le (g := fun T => T.low * M / (T.every * cwT x T)) (crit := true) (c := x.p) (A := M) (B := 0) (N := N) l hl (fun t ht hc => by
        have hk := (Tk.ok_iff t).1 (hl t ht).1
        (try dsimp only)
        have h1 : cwT x t = x.p := by simp [cwT, hc]
        rw [h1, Int.mul_zero, Int.add_zero, Int.mul_assoc, Int.mul_comm, Int.mul_assoc]
        exact Int.ediv_mul_le _ (by have := Int.mul_pos (show 0 < t.every by omega) (show (0 : Int) < x.p by omega); omega))
      rw [Int.mul_zero, Int.add_zero, ← hB] at this
      exact this
    generalize sumPQ (fun T => T.low * M / (T.every * cwT x T)) true l = S1 at *
    have hpn : (0 : Int) < x.p * N := Int.mul_pos (by omega) (by omega)
    refine Int.le_of_mul_le_mul_left ?_ hpn
    have h2 := Int.mul_le_mul_of_nonneg_left h0 (show (0 : Int) ≤ x.p by omega)
    have h3 := Int.mul_le_mul_of_nonneg_left h1 (show (0 : Int) ≤ x.q by omega)
    have h4 : ((x.p * A + x.q * B : Nat) : Int) * M ≤ ((x.p * N : Nat) : Int) * M := Int.mul_le_mul_of_nonneg_right (by exact_mod_cast hV.low) hM
    have e1 : (x.p : Int) * N * (x.q * (S0 + S1)) = x.p * (x.q * S0 * N) + x.q * (x.p * S1 * N) := by
      rw [Int.mul_add, Int.mul_add]
      congr 1 <;> ac_rfl
    have e2 : ((x.p * A + x.q * B : Nat) : Int) * M = x.p * (A * M) + x.q * (B * M) := by
      rw [Int.natCast_add, Int.natCast_mul, Int.natCast_mul, Int.add_mul, Int.mul_assoc, Int.mul_assoc]
    have e3 : ((x.p * N : Nat) : Int) * M = x.p * N * M := by rw [Int.natCast_mul]
    rw [e1]; rw [e2, e3] at h4
    omega
/-- While needs are low a job is left only ahead of its deadline. -/
theorem edf_low (hok : jobsOk l js = true) (hd : ∀ t ∈ l, t.due = t.every) {H : Nat} (hV : Virt l x (prodE l) (util l false false) (util l true false) H) {t k : Nat} (hk : k ∈ (sg l js true x t).left) (hh : (sg l js true x t).high = false) : (t : Int) * x.q < keyOf l js x false k := by
  refine Int.lt_of_not_ge fun hle => ?_
  have hs := jobs_set hok
  obtain ⟨j, T, d, hj, hT, hTo, h0, hlt, _, hnh, hA, hdk, _, hd0, hdn, hdl⟩ := in_left hok (sg_inv (due := true) (x := x) hok t) hk
  have hkT := (Tk.ok_iff _).1 hTo
  have hat := at_eq hj
  unfold Here at hA
  rw [hat] at hA
  have hKJ := key_lo (x := x) (hd T (List.mem_of_getElem? hT)) hj hT
  obtain ⟨_, _, hj2, _, _, ha0, _⟩ := job_of hok (List.getElem?_eq_some_iff.1 hj).1
  rw [hj] at hj2; simp at hj2; subst hj2
  obtain ⟨a, ha⟩ : ∃ a : Nat, j.at_ = a := ⟨j.at_.toNat, by omega⟩
  obtain ⟨K, hK⟩ : ∃ K, keyOf l js x false k = K := ⟨_, rfl⟩
  rw [hK] at hle hKJ
  obtain ⟨s, hs1, hs2, hs3⟩ := last_time (P := fun τ => ∀ k' ∈ (sg l js true x τ).left, K < keyOf l js x false k') (fun k' hk' => by simp [sg, ticks, st0] at hk') a
  have hbusy : ∀ τ, s < τ → τ ≤ t → (sg l js true x τ).left ≠ [] := fun τ h1 h2 e => by
    by_cases h3 : τ ≤ a
    · exact hs3 τ h1 h3 (fun k' hk' => by rw [e] at hk'; simp at hk')
    · have := back_sg hok hk h2 (by omega)
      rw [e] at this; simp at this
  have hlow : ∀ τ, s ≤ τ → τ < t → (mid l js true x τ).high = false := mode_low hok hbusy (fun h => by
    cases hm : (mid l js true x (t - 1)).high with
    | false => rfl
    | true =>
      have := sg_high hok hm
      rw [show t - 1 + 1 = t by omega, hh] at this; simp at this)
  have hwho : ∀ τ, s ≤ τ → τ < t → ∃ k' ∈ (mid l js true x τ).left, keyOf l js x (mid l js true x τ).high k' ≤ K := fun τ h1 h2 => by
    rw [hlow τ h1 h2]
    by_cases h3 : τ < a
    · have := hs3 (τ + 1) (by omega) (by omega)
      simp only [Classical.not_forall] at this
      obtain ⟨k', h4, h5⟩ := this
      exact ⟨k', sg_sub hok h4, by omega⟩
    · exact ⟨k, back_mid hok t hk τ h2 (by omega), by omega⟩
  have hwork := busy_work (l := l) (js := js) (x := x) hok (s := s) (t - s) (fun τ h1 h2 e => by
    obtain ⟨k', hk', _⟩ := hwho τ h1 (by omega)
    rw [e] at hk'; simp at hk')
  rw [show s + (t - s) = t by omega] at hwork
  obtain ⟨d', hd', hone⟩ := sumX_one hok hk
  rw [hdk] at hd'; simp at hd'; subst hd'
  have hsa : (s : Int) * x.q ≤ K := by
    rw [hKJ]
    have h1 : (s : Int) * x.q ≤ j.at_ * x.q := Int.mul_le_mul_of_nonneg_right (by omega) (by omega)
    unfold lkJ
    split
    · have := Int.mul_nonneg (show 0 ≤ T.every by omega) (show (0 : Int) ≤ x.p by omega); omega
    · rw [Int.add_mul]
      have := Int.mul_nonneg (show 0 ≤ T.every by omega) (show (0 : Int) ≤ x.q by omega); omega
  have hup := hV.pos
  have hl2 : ∀ t ∈ l, t.ok = true ∧ t.every.toNat ∣ prodE l := fun t ht => ⟨setOk_all hs t ht, prodE_dvd ht⟩
  have hsum := sumX_le (l := l) (js := js) (d1 := (sg l js true x s).done) (d2 := (sg l js true x t).done.set k (d + 1)) (g := fun T => T.low * (K - s * x.q) / (T.every * cwT x T)) l.length (Nat.le_refl _) (fun q Q hq hQ => by
    have hkQ := (Tk.ok_iff _).1 (setOk_at hs hQ)
    have hcw : 0 < cwT x Q := by
      unfold cwT
      split
      · rename_i hc
        have := hup (util_pos hl2 hV.n Q (List.mem_of_getElem? hQ) hc); omega
      · have := hV.q; omega
    have h1 := sumD_two (q := (q : Int)) (cap := Q.low) (cap2 := 0) (P := fun j' => decide ((s : Int) ≤ j'.at_ ∧ lkJ x Q j' ≤ K)) (R := fun _ => false) js (sg l js true x s).done ((sg l js true x t).done.set k (d + 1)) (sg_inv hok s).dlen (by rw [List.length_set]; exact (sg_inv hok t).dlen) (fun k' j' a' b' hj' hq' ha' hb' => by
      have hT' : l[j'.task.toNat]? = some Q := by rw [show j'.task.toNat = q by omega]; exact hQ
      have hkl := key_lo (x := x) (hd Q (List.mem_of_getElem? hQ)) hj' hT'
      simp only [Bool.false_eq_true, if_false, Int.add_zero]
      by_cases hP : (s : Int) ≤ j'.at_ ∧ lkJ x Q j' ≤ K
      · rw [if_pos (by simpa using hP)]
        rw [done_new hok hj' hP.1] at ha'; simp at ha'; subst ha'
        by_cases hkk : k = k'
        · subst hkk
          rw [hj] at hj'; simp at hj'; subst hj'
          rw [hT] at hT'; simp at hT'; subst hT'
          rw [set_at (List.getElem?_eq_some_iff.1 hdk).1] at hb'
          simp at hb'
          have : d < T.low := by
            cases hc : T.crit with
            | true => exact hdl hc hh
            | false => rcases hkT.2.2.2.2.2 with h | h
                       · rw [hc] at h; simp at h
                       · omega
          omega
        · rw [set_oth hkk] at hb'
          have := low_cap hok hj' hT' hP.1 t (by omega) hlow b' hb'
          omega
      · rw [if_neg (by simpa using hP)]
        have hkk : k ≠ k' := fun e => by
          subst e
          rw [hj] at hj'; simp at hj'; subst hj'
          rw [hT] at hT'; simp at hT'; subst hT'
          exact hP ⟨by omega, by omega⟩
        rw [set_oth hkk, done_key hok (K := K) t (by omega : s ≤ t) hwho (fun τ h1 h2 h3 => by
          rw [hlow τ h1 h2]
          by_cases c : (s : Int) ≤ j'.at_
          · rw [hkl]
            exact Int.lt_of_not_ge fun h => hP ⟨c, h⟩
          · exact hs2 k' (mid_old hok h3 h1 (by rw [at_eq hj']; omega))), ha'] at hb'
        simp at hb'; omega)
    rw [Int.zero_mul, Int.add_zero] at h1
    refine Int.le_trans h1 (Int.le_ediv_of_mul_le (Int.mul_pos (by omega) hcw) ?_)
    rw [Int.mul_assoc]
    exact Int.mul_le_mul_of_nonneg_left (cnt_bound rfl (by omega) hV.le (edf_apart hok hQ) (fun j' hj' hq' hP => by simpa using hP) (by omega)) (by omega))
  have hdem := dem_low (M := K - s * x.q) hl2 rfl rfl hV (by omega)
  rw [List.take_of_length_le (Nat.le_refl _)] at hsum
  generalize sumG (fun T => T.low * (K - s * x.q) / (T.every * cwT x T)) l = S at *
  have h1 : ((t : Int) - s + 1) ≤ S := by omega
  have h2 := Int.mul_le_mul_of_nonneg_left h1 (show (0 : Int) ≤ x.q by omega)
  have h3 : (x.q : Int) * (t - s + 1) = t * x.q - s * x.q + x.q := by
    rw [Int.mul_add, Int.mul_sub, Int.mul_one, Int.mul_comm (x.q : Int) t, Int.mul_comm (x.q : Int) s]
  have := hV.q
  omega
end
end Go.Proofs.Ytaadlgpglfpmpaa
