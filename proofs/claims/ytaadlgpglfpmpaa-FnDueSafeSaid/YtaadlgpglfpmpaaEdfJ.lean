/-
  Runs by deadlines: at its deadline no job is left. No program in sight.
-/
import Derived.Test.YtaadlgpglfpmpaaEdfH
namespace Go.Proofs.Ytaadlgpglfpmpaa
open Go.RowKit

section
variable {l : List Tk} {js : List Jb} {x : Fr}
theorem need_cap (hok : jobsOk l js = true) {t k : Nat} {j : Jb} {T : Tk} {d : Int} (hj : js[k]? = some j) (hT : l[j.task.toNat]? = some T) (hd : (sg l js true x t).done[k]? = some d) : d ≤ T.high := by
  obtain ⟨j2, T2, hj2, hT2, _, _, _, _, hnh, _⟩ := job_of hok (List.getElem?_eq_some_iff.1 hj).1
  rw [hj] at hj2; simp at hj2; subst hj2
  rw [hT] at hT2; simp at hT2; subst hT2
  obtain ⟨e, he⟩ := getSome (l := (sg l js true x t).ended) (k := k) (by rw [(sg_inv hok t).elen]; exact (List.getElem?_eq_some_iff.1 hj).1)
  have := inv_done hok (sg_inv (due := true) (x := x) hok t) k j e d hj he hd
  omega
set_option maxHeartbeats 1600000 in
theorem edf_high (hok : jobsOk l js = true) (hd : ∀ t ∈ l, t.due = t.every) (hV : Virt l x (prodE l) (util l false false) (util l true false) (util l true true)) {d k : Nat} (hk : k ∈ (sg l js true x d).left) (hh : (sg l js true x d).high = true) : (d : Int) * x.q < keyOf l js x true k := by
  refine Int.lt_of_not_ge fun hle => ?_
  have hs := jobs_set hok
  have hxq := hV.q
  have hl2 : ∀ t ∈ l, t.ok = true ∧ t.every.toNat ∣ prodE l := fun t ht => ⟨setOk_all hs t ht, prodE_dvd ht⟩
  obtain ⟨j, T, D, hj, hT, hTo, h0, hlt, hcr, hnh, hA, hdk, _, hd0, hdn, hdl⟩ := in_left hok (sg_inv (due := true) (x := x) hok d) hk
  have hkT := (Tk.ok_iff _).1 hTo
  have hat := at_eq hj
  unfold Here at hA
  rw [hat] at hA
  have hcT : T.crit = true := by
    cases hc : T.crit with
    | true => rfl
    | false => have := nc_all hok d k hk (by rw [hcr, hc]); rw [hh] at this; simp at this
  have hdue : ∀ {k' : Nat} {j' : Jb} {Q : Tk}, js[k']? = some j' → l[j'.task.toNat]? = some Q → (keyOf l js x true k' ≤ (d : Int) * x.q ↔ j'.at_ + Q.every ≤ d) := fun {k' j' Q} hj' hQ => by
    rw [key_hi (x := x) (hd Q (List.mem_of_getElem? hQ)) hj' hQ]
    constructor
    · intro h; exact Int.le_of_mul_le_mul_right h (by omega)
    · intro h; exact Int.mul_le_mul_of_nonneg_right h (by omega)
  have hjd := (hdue hj hT).1 hle
  obtain ⟨_, _, hj2, _, _, ha0, _⟩ := job_of hok (List.getElem?_eq_some_iff.1 hj).1
  rw [hj] at hj2; simp at hj2; subst hj2
  obtain ⟨a, ha⟩ : ∃ a : Nat, j.at_ = a := ⟨j.at_.toNat, by omega⟩
  obtain ⟨d', hd', hone⟩ := sumX_one hok hk
  rw [hdk] at hd'; simp at hd'; subst hd'
  obtain ⟨s1, hs1, hs2, hs3⟩ := last_time (P := fun τ => ∀ k' ∈ (sg l js true x τ).left, (d : Int) * x.q < keyOf l js x true k') (fun k' hk' => by simp [sg, ticks, st0] at hk') a
  have hbusy : ∀ τ, s1 < τ → τ ≤ d → (sg l js true x τ).left ≠ [] := fun τ h1 h2 e => by
    by_cases h3 : τ ≤ a
    · exact hs3 τ h1 h3 (fun k' hk' => by rw [e] at hk'; simp at hk')
    · have := back_sg hok hk h2 (by omega)
      rw [e] at this; simp at this
  -- while needs are high
  have hwhoH : ∀ τ, s1 ≤ τ → τ < d → (mid l js true x τ).high = true → ∃ k' ∈ (mid l js true x τ).left, keyOf l js x (mid l js true x τ).high k' ≤ (d : Int) * x.q := fun τ h1 h2 h3 => by
    rw [h3]
    by_cases h4 : τ < a
    · have := hs3 (τ + 1) (by omega) (by omega)
      simp only [Classical.not_forall] at this
      obtain ⟨k', h5, h6⟩ := this
      exact ⟨k', sg_sub hok h5, by omega⟩
    · exact ⟨k, back_mid hok d hk τ h2 (by omega), by omega⟩
  -- the switch
  obtain ⟨v, hv1, hv2, hv3, hv4⟩ : ∃ v, s1 ≤ v ∧ v ≤ d ∧ (∀ τ, s1 ≤ τ → τ < v → (mid l js true x τ).high = false) ∧ ∀ τ, v ≤ τ → τ < d → (mid l js true x τ).high = true := by
    have hx : ∀ n, s1 + n ≤ d → ∃ v, s1 ≤ v ∧ v ≤ s1 + n ∧ (∀ τ, s1 ≤ τ → τ < v → (mid l js true x τ).high = false) ∧ ∀ τ, v ≤ τ → τ < s1 + n → (mid l js true x τ).high = true := by
      intro n
      induction n with
      | zero => intro _; exact ⟨s1, Nat.le_refl _, Nat.le_refl _, fun τ h1 h2 => by omega, fun τ h1 h2 => by omega⟩
      | succ n ih =>
        intro hn
        obtain ⟨v, h1, h2, h3, h4⟩ := ih (by omega)
        by_cases c : v < s1 + n
        · exact ⟨v, h1, by omega, h3, fun τ h5 h6 => mode_up hok hbusy h1 (h4 v (Nat.le_refl _) c) τ h5 (by omega)⟩
        · obtain rfl : v = s1 + n := by omega
          cases hm : (mid l js true x (s1 + n)).high with
          | true => exact ⟨s1 + n, h1, by omega, h3, fun τ h5 h6 => by rw [show τ = s1 + n by omega]; exact hm⟩
          | false => exact ⟨s1 + n + 1, by omega, by omega, fun τ h5 h6 => by
              by_cases e : τ = s1 + n
              · rw [e]; exact hm
              · exact h3 τ h5 (by omega), fun τ h5 h6 => by omega⟩
    obtain ⟨v, h1, h2, h3, h4⟩ := hx (d - s1) (by omega)
    exact ⟨v, h1, by omega, h3, fun τ h5 h6 => h4 τ h5 (by omega)⟩
  by_cases hvs : v = s1
  · -- needs are high all the time
    subst hvs
    have hwork := busy_work (l := l) (js := js) (x := x) hok (s := v) (d - v) (fun τ h1 h2 e => by
      obtain ⟨k', hk', _⟩ := hwhoH τ h1 (by omega) (hv4 τ h1 (by omega))
      rw [e] at hk'; simp at hk')
    rw [show v + (d - v) = d by omega] at hwork
    have hsum := sumX_le (l := l) (js := js) (d1 := (sg l js true x v).done) (d2 := (sg l js true x d).done.set k (D + 1)) (g := fun T => if T.crit = true then T.high * ((d : Int) - v) / T.every else 0) l.length (Nat.le_refl _) (fun q Q hq hQ => by
      have hkQ := (Tk.ok_iff _).1 (setOk_at hs hQ)
      have h1 := sumD_two (q := (q : Int)) (cap := Q.high) (cap2 := 0) (P := fun j' => Q.crit && decide ((v : Int) ≤ j'.at_ ∧ j'.at_ + Q.every ≤ d)) (R := fun _ => false) js (sg l js true x v).done ((sg l js true x d).done.set k (D + 1)) (sg_inv hok v).dlen (by rw [List.length_set]; exact (sg_inv hok d).dlen) (fun k' j' a' b' hj' hq' ha' hb' => by
        have hT' : l[j'.task.toNat]? = some Q := by rw [show j'.task.toNat = q by omega]; exact hQ
        have hcr' : critOf l js k' = Q.crit := by rw [critOf, tkOf, hj']; dsimp only; rw [hT']
        simp only [Bool.false_eq_true, if_false, Int.add_zero]
        by_cases hP : Q.crit = true ∧ (v : Int) ≤ j'.at_ ∧ j'.at_ + Q.every ≤ d
        · rw [if_pos (by simpa using hP)]
          rw [done_new hok hj' hP.2.1] at ha'; simp at ha'; subst ha'
          by_cases hkk : k = k'
          · subst hkk
            rw [hj] at hj'; simp at hj'; subst hj'
            rw [hT] at hT'; simp at hT'; subst hT'
            rw [set_at (List.getElem?_eq_some_iff.1 hdk).1] at hb'
            simp at hb'
            omega
          · rw [set_oth hkk] at hb'
            have := need_cap hok hj' hT' hb'
            omega
        · rw [if_neg (by simpa using hP)]
          have hkk : k ≠ k' := fun e => by
            subst e
            rw [hj] at hj'; simp at hj'; subst hj'
            rw [hT] at hT'; simp at hT'; subst hT'
            exact hP ⟨hcT, by omega, hjd⟩
          rw [set_oth hkk, done_key hok (K := (d : Int) * x.q) d (by omega : v ≤ d) (fun τ h1 h2 => hwhoH τ h1 h2 (hv4 τ h1 h2)) (fun τ h1 h2 h3 => by
            rw [hv4 τ h1 h2]
            cases hc : Q.crit with
            | false => have := nc_mid hok h3 (by rw [hcr', hc]); rw [hv4 τ h1 h2] at this; simp at this
            | true =>
              by_cases c : (v : Int) ≤ j'.at_
              · exact Int.lt_of_not_ge fun h => hP ⟨hc, c, (hdue hj' hT').1 h⟩
              · exact hs2 k' (mid_old hok h3 h1 (by rw [at_eq hj']; omega))), ha'] at hb'
          simp at hb'; omega)
      rw [Int.zero_mul, Int.add_zero] at h1
      refine Int.le_trans h1 ?_
      (try dsimp only)
      cases hc : Q.crit with
      | true =>
        rw [if_pos rfl]
        refine Int.le_ediv_of_mul_le (by omega) ?_
        rw [Int.mul_assoc]
        exact Int.mul_le_mul_of_nonneg_left (cnt_due (by omega) (edf_apart hok hQ) (by omega) (fun j' hj' hq' hP => by simpa using hP)) (by omega)
      | false =>
        rw [if_neg (by simp), cntP2_none (fun j' _ _ => by simp), Int.mul_zero]
        exact Int.le_refl _)
    have hdem := dem_high (M := (d : Int) - v) hl2 rfl hV.n hV.h (by omega)
    rw [List.take_of_length_le (Nat.le_refl _)] at hsum
    omega
  · have hvs2 : s1 < v := by omega
    have hvh : (sg l js true x v).high = true := by
      by_cases e : v = d
      · rw [e]; exact hh
      · rw [← mid_high_in (hbusy v hvs2 hv2)]; exact hv4 v (Nat.le_refl _) (by omega)
    -- who is left at the switch
    obtain ⟨k1, hk1, hK1, hmin⟩ := min_mem (fun k' => atOf js k') (fun k' => keyOf l js x true k' ≤ (d : Int) * x.q) (sg l js true x v).left (by
      by_cases h3 : v ≤ a
      · have := hs3 v hvs2 h3
        simp only [Classical.not_forall] at this
        obtain ⟨k', h4, h5⟩ := this
        exact ⟨k', h4, by omega⟩
      · exact ⟨k, back_sg hok hk hv2 (by omega), hle⟩)
    obtain ⟨j1, T1, D1, hj1, hT1, hT1o, _, _, hcr1, _, hA1, _⟩ := in_left hok (sg_inv (due := true) (x := x) hok v) hk1
    have hkT1 := (Tk.ok_iff _).1 hT1o
    have hat1 := at_eq hj1
    unfold Here at hA1
    rw [hat1] at hA1
    have hcT1 : T1.crit = true := by
      cases hc : T1.crit with
      | true => rfl
      | false => have := nc_all hok v k1 hk1 (by rw [hcr1, hc]); rw [hvh] at this; simp at this
    have hp : 0 < x.p := hV.pos (util_pos hl2 hV.n T1 (List.mem_of_getElem? hT1) hcT1)
    have hj1d := (hdue hj1 hT1).1 hK1
    obtain ⟨_, _, hj3, _, _, ha10, _⟩ := job_of hok (List.getElem?_eq_some_iff.1 hj1).1
    rw [hj1] at hj3; simp at hj3; subst hj3
    obtain ⟨u, hu⟩ : ∃ u : Nat, j1.at_ = u := ⟨j1.at_.toNat, by omega⟩
    obtain ⟨K, hK⟩ : ∃ K, (u : Int) * x.q + ((d : Int) - u) * x.p = K := ⟨_, rfl⟩
    have hlk1 : keyOf l js x false k1 ≤ K := by
      rw [key_lo (x := x) (hd T1 (List.mem_of_getElem? hT1)) hj1 hT1, ← hK]
      unfold lkJ
      rw [if_pos hcT1, hu]
      have := Int.mul_le_mul_of_nonneg_right (show T1.every ≤ (d : Int) - u by omega) (show (0 : Int) ≤ x.p by omega)
      omega
    obtain ⟨s, hsu, hn2, hn3⟩ := last_time (P := fun τ => ∀ k' ∈ (sg l js true x τ).left, K < keyOf l js x false k') (fun k' hk' => by simp [sg, ticks, st0] at hk') u
    have hb2 : ∀ τ, s < τ → τ ≤ v → (sg l js true x τ).left ≠ [] := fun τ h1 h2 e => by
      by_cases h3 : τ ≤ u
      · exact hn3 τ h1 h3 (fun k' hk' => by rw [e] at hk'; simp at hk')
      · have := back_sg hok hk1 h2 (by omega)
        rw [e] at this; simp at this
    have hlow : ∀ τ, s ≤ τ → τ < v → (mid l js true x τ).high = false := mode_low hok hb2 (fun _ => hv3 (v - 1) (by omega) (by omega))
    have hwhoL : ∀ τ, s ≤ τ → τ < v → ∃ k' ∈ (mid l js true x τ).left, keyOf l js x (mid l js true x τ).high k' ≤ K := fun τ h1 h2 => by
      rw [hlow τ h1 h2]
      by_cases h3 : τ < u
      · have := hn3 (τ + 1) (by omega) (by omega)
        simp only [Classical.not_forall] at this
        obtain ⟨k', h4, h5⟩ := this
        exact ⟨k', sg_sub hok h4, by omega⟩
      · exact ⟨k1, back_mid hok v hk1 τ h2 (by omega), hlk1⟩
    have hwhoH2 : ∀ τ, v ≤ τ → τ < d → ∃ k' ∈ (mid l js true x τ).left, keyOf l js x (mid l js true x τ).high k' ≤ (d : Int) * x.q := fun τ h1 h2 => hwhoH τ (by omega) h2 (hv4 τ h1 h2)
    have hwork := busy_work (l := l) (js := js) (x := x) hok (s := s) (d - s) (fun τ h1 h2 e => by
      by_cases h3 : τ < v
      · obtain ⟨k', hk', _⟩ := hwhoL τ h1 h3
        rw [e] at hk'; simp at hk'
      · obtain ⟨k', hk', _⟩ := hwhoH2 τ (by omega) (by omega)
        rw [e] at hk'; simp at hk')
    rw [show s + (d - s) = d by omega] at hwork
    have hju : (u : Int) ≤ j.at_ := by
      by_cases c : j.at_ < (v : Int)
      · have := hmin k (back_sg hok hk hv2 (by omega)) hle
        rw [hat1, hat] at this; omega
      · omega
    have hsum := sumX_le (l := l) (js := js) (d1 := (sg l js true x s).done) (d2 := (sg l js true x d).done.set k (D + 1)) (g := fun T => if T.crit = true then (T.low * (((u : Int) - s) * x.q) + T.high * (((d : Int) - u) * x.p)) / (T.every * x.p) else T.low * (((u : Int) - s) * x.q + ((d : Int) - u) * x.p) / (T.every * x.q)) l.length (Nat.le_refl _) (fun q Q hq hQ => by
      have hkQ := (Tk.ok_iff _).1 (setOk_at hs hQ)
      (try dsimp only)
      cases hc : Q.crit with
      | false =>
        rw [if_neg (by simp)]
        have h1 := sumD_two (q := (q : Int)) (cap := Q.low) (cap2 := 0) (P := fun j' => decide ((s : Int) ≤ j'.at_ ∧ lkJ x Q j' ≤ K)) (R := fun _ => false) js (sg l js true x s).done ((sg l js true x d).done.set k (D + 1)) (sg_inv hok s).dlen (by rw [List.length_set]; exact (sg_inv hok d).dlen) (fun k' j' a' b' hj' hq' ha' hb' => by
          have hT' : l[j'.task.toNat]? = some Q := by rw [show j'.task.toNat = q by omega]; exact hQ
          have hcr' : critOf l js k' = Q.crit := by rw [critOf, tkOf, hj']; dsimp only; rw [hT']
          have hkl := key_lo (x := x) (hd Q (List.mem_of_getElem? hQ)) hj' hT'
          simp only [Bool.false_eq_true, if_false, Int.add_zero]
          have hkk : k ≠ k' := fun e => by
            subst e
            rw [hj] at hj'; simp at hj'; subst hj'
            rw [hT] at hT'; simp at hT'; subst hT'
            rw [hcT] at hc; simp at hc
          rw [set_oth hkk, done_keep hok (a := v) d hv2 (fun τ h1 h2 h3 => by
            have := nc_mid hok h3 (by rw [hcr', hc]); rw [hv4 τ h1 h2] at this; simp at this)] at hb'
          by_cases hP : (s : Int) ≤ j'.at_ ∧ lkJ x Q j' ≤ K
          · rw [if_pos (by simpa using hP)]
            rw [done_new hok hj' hP.1] at ha'; simp at ha'; subst ha'
            have := low_cap hok hj' hT' hP.1 v (by omega) hlow b' hb'
            omega
          · rw [if_neg (by simpa using hP)]
            rw [done_key hok (K := K) v (by omega : s ≤ v) hwhoL (fun τ h1 h2 h3 => by
              rw [hlow τ h1 h2]
              by_cases c : (s : Int) ≤ j'.at_
              · rw [hkl]
                exact Int.lt_of_not_ge fun h => hP ⟨c, h⟩
              · exact hn2 k' (mid_old hok h3 h1 (by rw [at_eq hj']; omega))), ha'] at hb'
            simp at hb'; omega)
        rw [Int.zero_mul, Int.add_zero] at h1
        refine Int.le_trans h1 (Int.le_ediv_of_mul_le (Int.mul_pos (by omega) (by omega)) ?_)
        rw [Int.mul_assoc]
        have hcw : cwT x Q = x.q := by simp [cwT, hc]
        have h2 := cnt_bound (x := x) (T := Q) (q := (q : Int)) (E := Q.every) (K := K) (s := (s : Int)) (P := fun j' => decide ((s : Int) ≤ j'.at_ ∧ lkJ x Q j' ≤ K)) rfl (by omega) hV.le (edf_apart hok hQ) (fun j' hj' hq' hP => by simpa using hP) (by
          rw [← hK]
          have e1 := Int.mul_nonneg (show (0 : Int) ≤ u - s by omega) (show (0 : Int) ≤ x.q by omega)
          have e2 := Int.mul_nonneg (show (0 : Int) ≤ (d : Int) - u by omega) (show (0 : Int) ≤ x.p by omega)
          have e9 : ((u : Int) - s) * (x.q : Int) = u * x.q - s * x.q := Int.sub_mul _ _ _
          rw [e9] at e1; omega)
        rw [hcw] at h2
        refine Int.mul_le_mul_of_nonneg_left (Int.le_trans h2 ?_) (by omega)
        have e9 : ((u : Int) - s) * (x.q : Int) = u * x.q - s * x.q := Int.sub_mul _ _ _
        rw [e9, ← hK]; omega
      | true =>
        rw [if_pos rfl]
        have h1 := sumD_two (q := (q : Int)) (cap := Q.low) (cap2 := Q.high) (P := fun j' => decide ((s : Int) ≤ j'.at_ ∧ j'.at_ < u ∧ lkJ x Q j' ≤ K)) (R := fun j' => decide ((u : Int) ≤ j'.at_ ∧ j'.at_ + Q.every ≤ d)) js (sg l js true x s).done ((sg l js true x d).done.set k (D + 1)) (sg_inv hok s).dlen (by rw [List.length_set]; exact (sg_inv hok d).dlen) (fun k' j' a' b' hj' hq' ha' hb' => by
          have hT' : l[j'.task.toNat]? = some Q := by rw [show j'.task.toNat = q by omega]; exact hQ
          have hkl := key_lo (x := x) (hd Q (List.mem_of_getElem? hQ)) hj' hT'
          by_cases hR : (u : Int) ≤ j'.at_ ∧ j'.at_ + Q.every ≤ d
          · have hP : ¬ ((s : Int) ≤ j'.at_ ∧ j'.at_ < u ∧ lkJ x Q j' ≤ K) := fun h => by omega
            rw [if_neg (by simpa using hP), if_pos (by simpa using hR)]
            rw [done_new hok hj' (by omega)] at ha'; simp at ha'; subst ha'
            by_cases hkk : k = k'
            · subst hkk
              rw [hj] at hj'; simp at hj'; subst hj'
              rw [hT] at hT'; simp at hT'; subst hT'
              rw [set_at (List.getElem?_eq_some_iff.1 hdk).1] at hb'
              simp at hb'
              omega
            · rw [set_oth hkk] at hb'
              have := need_cap hok hj' hT' hb'
              omega
          · have hkk : k ≠ k' := fun e => by
              subst e
              rw [hj] at hj'; simp at hj'; subst hj'
              rw [hT] at hT'; simp at hT'; subst hT'
              exact hR ⟨hju, hjd⟩
            rw [set_oth hkk, done_key hok (K := (d : Int) * x.q) (a := v) d hv2 hwhoH2 (fun τ h1 h2 h3 => by
              rw [hv4 τ h1 h2]
              refine Int.lt_of_not_ge fun h => ?_
              have h4 := (hdue hj' hT').1 h
              have h5 : j'.at_ < (u : Int) := by omega
              have := hmin k' (mid_old hok h3 h1 (by rw [at_eq hj']; omega)) h
              rw [hat1, at_eq hj'] at this; omega)] at hb'
            rw [if_neg (show ¬ (decide ((u : Int) ≤ j'.at_ ∧ j'.at_ + Q.every ≤ d) = true) by simpa using hR), Int.add_zero]
            by_cases hP : (s : Int) ≤ j'.at_ ∧ j'.at_ < u ∧ lkJ x Q j' ≤ K
            · rw [if_pos (by simpa using hP)]
              rw [done_new hok hj' hP.1] at ha'; simp at ha'; subst ha'
              have := low_cap hok hj' hT' hP.1 v (by omega) hlow b' hb'
              omega
            · rw [if_neg (by simpa using hP)]
              rw [done_key hok (K := K) v (by omega : s ≤ v) hwhoL (fun τ h1 h2 h3 => by
                rw [hlow τ h1 h2]
                by_cases c : (s : Int) ≤ j'.at_
                · rw [hkl]
                  by_cases c2 : j'.at_ < (u : Int)
                  · exact Int.lt_of_not_ge fun h => hP ⟨c, c2, h⟩
                  · have h4 : (d : Int) - j'.at_ + 1 ≤ Q.every := by omega
                    unfold lkJ
                    rw [if_pos hc, ← hK]
                    have e1 := Int.mul_le_mul_of_nonneg_right h4 (show (0 : Int) ≤ x.p by omega)
                    have hle2 := hV.le
                    have e2 := Int.mul_nonneg (show (0 : Int) ≤ j'.at_ - u by omega) (show (0 : Int) ≤ (x.q : Int) - x.p by omega)
                    rw [Int.mul_sub, Int.sub_mul, Int.sub_mul] at e2
                    rw [Int.add_mul, Int.sub_mul, Int.one_mul] at e1
                    rw [Int.sub_mul]
                    omega
                · exact hn2 k' (mid_old hok h3 h1 (by rw [at_eq hj']; omega))), ha'] at hb'
              simp at hb'; omega)
        refine Int.le_trans h1 (Int.le_ediv_of_mul_le (Int.mul_pos (by omega) (by omega)) ?_)
        exact cnt_mix hc (by omega) (by omega) (by omega) hV.le (edf_apart hok hQ) (by omega) (by omega) (fun j' _ _ hP => by rw [hK]; simpa using hP) (fun j' _ _ hR => by simpa using hR))
    have hdem := dem_both (m := (u : Int) - s) (n := (d : Int) - u) hl2 rfl rfl rfl hV hp (by omega) (by omega)
    rw [List.take_of_length_le (Nat.le_refl _)] at hsum
    omega
/-- At its deadline no job is left. -/
theorem edf_claim (hok : jobsOk l js = true) (hd : ∀ t ∈ l, t.due = t.every) (hV : Virt l x (prodE l) (util l false false) (util l true false) (util l true true)) {i : Nat} {T : Tk} (hT : l[i]? = some T) : ∀ (t k : Nat) (j : Jb), k ∈ (sg l js true x t).left → js[k]? = some j → j.task = (i : Int) → (t : Int) < j.at_ + T.every.toNat := fun t k j hk hj hji => by
  have hkT := (Tk.ok_iff _).1 (setOk_at (jobs_set hok) hT)
  have hT' : l[j.task.toNat]? = some T := by rw [show j.task.toNat = i by omega]; exact hT
  rw [Int.toNat_of_nonneg (by omega)]
  have hxq := hV.q
  cases hh : (sg l js true x t).high with
  | true =>
    have := edf_high hok hd hV hk hh
    rw [key_hi (x := x) (hd T (List.mem_of_getElem? hT)) hj hT'] at this
    exact Int.lt_of_mul_lt_mul_right this (by omega)
  | false =>
    have := edf_low hok hd hV hk hh
    rw [key_lo (x := x) (hd T (List.mem_of_getElem? hT)) hj hT'] at this
    refine Int.lt_of_mul_lt_mul_right (a := (x.q : Int)) (Int.lt_of_lt_of_le this ?_) (by omega)
    unfold lkJ
    split
    · rw [Int.add_mul]
      have := Int.mul_le_mul_of_nonneg_left (show (x.p : Int) ≤ x.q by have := hV.le; omega) (show 0 ≤ T.every by omega)
      omega
    · exact Int.le_refl _
end
end Go.Proofs.Ytaadlgpglfpmpaa
