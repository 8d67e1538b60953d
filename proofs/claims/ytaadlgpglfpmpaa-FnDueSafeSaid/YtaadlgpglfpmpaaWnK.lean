/-
  Bounds of responses by place: no job is left for as long as its task's bound. No program in sight.
-/
import Derived.Test.YtaadlgpglfpmpaaWn
namespace Go.Proofs.Ytaadlgpglfpmpaa
open Go.RowKit

section
variable {l : List Tk} {js : List Jb} {x : Fr}
def NoHp (l : List Tk) (js : List Jb) (x : Fr) (i : Nat) (t : Nat) : Prop := ∀ k ∈ (sg l js false x t).left, ∀ j, js[k]? = some j → (i : Int) ≤ j.task
theorem win_start (i : Nat) : ∀ a : Nat, ∃ s, s ≤ a ∧ NoHp l js x i s ∧ ∀ τ, s < τ → τ ≤ a → ¬ NoHp l js x i τ
  | 0 => ⟨0, Nat.le_refl _, fun k hk => by simp [sg, ticks, st0] at hk, fun τ h1 h2 => by omega⟩
  | a + 1 => by
    by_cases h : NoHp l js x i (a + 1)
    · exact ⟨a + 1, Nat.le_refl _, h, fun τ h1 h2 => by omega⟩
    · obtain ⟨s, h1, h2, h3⟩ := win_start i a
      refine ⟨s, by omega, h2, fun τ h4 h5 => ?_⟩
      by_cases e : τ = a + 1
      · subst e; exact h
      · exact h3 τ h4 (by omega)
/-- What is done of a job. -/
def dn (l : List Tk) (js : List Jb) (x : Fr) (k t : Nat) : Int := ((sg l js false x t).done[k]?).getD 0
/-- The time in which job k and those ahead of it run: from s on, to t. -/
structure Win (l : List Tk) (js : List Jb) (x : Fr) (k : Nat) (j : Jb) (T : Tk) (s t : Nat) : Prop where
  hj : js[k]? = some j
  hT : l[j.task.toNat]? = some T
  sa : (s : Int) ≤ j.at_
  at_ : j.at_ < t
  nohp : NoHp l js x j.task.toNat s
  left : k ∈ (sg l js false x t).left
  eq : ∀ τ, s ≤ τ → τ ≤ t → sumX j.task.toNat js (sg l js false x τ).done + dn l js x k τ = sumX j.task.toNat js (sg l js false x s).done + ((τ : Int) - s)
  busy : ∀ τ, s < τ → τ ≤ t → (sg l js false x τ).left ≠ []
theorem place_claim (hok : jobsOk l js = true) {i : Nat} {T : Tk} (hT : l[i]? = some T) {R : Nat} (hR : (R : Int) ≤ T.every)
    (key : ∀ k j s t, j.task = (i : Int) → Win l js x k j T s t → t < s + R) : ∀ (t k : Nat) (j : Jb), k ∈ (sg l js false x t).left → js[k]? = some j → j.task = (i : Int) → (t : Int) < j.at_ + R := by
  intro t
  induction t using Nat.strongRecOn with
  | ind t ih =>
  intro k j hk hj hji
  obtain ⟨j', T', d, hj', hT', hTo, h0, hlt, _, _, hA, _⟩ := in_left hok (sg_inv hok t) hk
  rw [hj] at hj'; simp at hj'; subst hj'
  have hin : j.task.toNat = i := by omega
  rw [hin, hT] at hT'; simp at hT'; subst hT'
  have hat := at_eq hj
  unfold Here at hA
  rw [hat] at hA
  have hkT := (Tk.ok_iff _).1 hTo
  obtain ⟨_, _, hj2, _, _, ha0, _⟩ := job_of hok (List.getElem?_eq_some_iff.1 hj).1
  rw [hj] at hj2; simp at hj2; subst hj2
  obtain ⟨a, ha⟩ : ∃ a : Nat, j.at_ = a := ⟨j.at_.toNat, by omega⟩
  obtain ⟨s, hs1, hs2, hs3⟩ := win_start (l := l) (js := js) (x := x) i a
  have hbusy : ∀ τ, s < τ → τ ≤ t → (sg l js false x τ).left ≠ [] := fun τ h1 h2 e => by
    by_cases h3 : τ ≤ a
    · exact hs3 τ h1 h3 (fun k' hk' => by rw [e] at hk'; simp at hk')
    · have := back_sg hok hk h2 (by omega)
      rw [e] at this; simp at this
  -- who runs
  have hwho : ∀ τ, s ≤ τ → τ < t → ∃ r jr d, js[r]? = some jr ∧ 0 ≤ jr.task ∧ (sg l js false x τ).done[r]? = some d ∧ (sg l js false x (τ + 1)).done = (sg l js false x τ).done.set r (d + 1) ∧ ((r ≠ k ∧ jr.task < (i : Int)) ∨ r = k) := fun τ h1 h2 => by
    have htk := sg_tick (due := false) (x := x) hok τ
    by_cases h3 : τ < a
    · obtain ⟨k', hk', j', hj', hlt'⟩ : ∃ k', k' ∈ (sg l js false x (τ + 1)).left ∧ ∃ j', js[k']? = some j' ∧ j'.task < (i : Int) := by
        have := hs3 (τ + 1) (by omega) (by omega)
        unfold NoHp at this
        simp only [Classical.not_forall] at this
        obtain ⟨k', h4, j', h5, h6⟩ := this
        exact ⟨k', h4, j', h5, by omega⟩
      have hm' := sg_sub hok hk'
      rcases htk with ⟨h4, _⟩ | ⟨r, jr, Tr, dr, hm, hjr, hTr, hr0, hdr, hd0, hdn, hlo, hd', _, _, _, hb, _⟩
      · rw [h4] at hm'; simp at hm'
      · have := hb rfl k' hm' j' hj'
        rw [mid_done] at hdr hd'
        refine ⟨r, jr, dr, hjr, hr0, hdr, hd', .inl ⟨fun e => ?_, by omega⟩⟩
        subst e; rw [hj] at hjr; simp at hjr; subst hjr; omega
    · have hm' := back_mid hok t hk τ h2 (by omega)
      rcases htk with ⟨h4, _⟩ | ⟨r, jr, Tr, dr, hm, hjr, hTr, hr0, hdr, hd0, hdn, hlo, hd', _, _, _, hb, _⟩
      · rw [h4] at hm'; simp at hm'
      · have hbk := hb rfl k hm' j hj
        rw [mid_done] at hdr hd'
        refine ⟨r, jr, dr, hjr, hr0, hdr, hd', ?_⟩
        by_cases e : r = k
        · exact .inr e
        · refine .inl ⟨e, ?_⟩
          rcases hbk with h5 | ⟨h5, h6⟩
          · omega
          · exfalso
            rcases Nat.lt_or_gt_of_ne e with h7 | h7
            · have hap := (jobs_apart hok h7 hjr hj).2 h5
              have hev : evAt l j = T.every := by simp only [evAt]; rw [hin, hT]
              rw [hev] at hap
              rcases mid_new hm with h8 | ⟨h8, _⟩
              · have := ih τ h2 r jr h8 hjr (by omega)
                omega
              · rw [at_eq hjr] at h8; omega
            · have hap := (jobs_apart hok h7 hj hjr).2 h5.symm
              have hev : evAt l jr = T.every := by simp only [evAt]; rw [h5, hin, hT]
              rw [hev] at hap
              omega
  have heq : ∀ n, s + n ≤ t → sumX i js (sg l js false x (s + n)).done + dn l js x k (s + n) = sumX i js (sg l js false x s).done + (n : Int) := by
    intro n
    induction n with
    | zero =>
      intro _
      simp only [dn]
      rw [Nat.add_zero, done_new hok hj (by omega)]; rfl
    | succ n ihn =>
      intro hn
      have h1 := ihn (by omega)
      obtain ⟨r, jr, d, hjr, hr0, hdr, hd', hc⟩ := hwho (s + n) (by omega) (by omega)
      rw [show s + (n + 1) = s + n + 1 by omega]
      simp only [dn] at h1 ⊢
      rw [hd', sumX_set hjr hdr hr0]
      rcases hc with ⟨h2, h3⟩ | h2
      · rw [if_pos h3, set_oth h2]; omega
      · subst h2
        rw [hj] at hjr; simp at hjr; subst hjr
        rw [hdr] at h1
        rw [if_neg (by omega), set_at (List.getElem?_eq_some_iff.1 hdr).1]
        simp only [Option.getD_some] at h1 ⊢; omega
  have hw : Win l js x k j T s t := ⟨hj, by rw [hin]; exact hT, by omega, by omega, by rw [hin]; exact hs2, hk, fun τ h1 h2 => by
    have := heq (τ - s) (by omega)
    rw [show s + (τ - s) = τ by omega] at this
    rw [hin, this]; omega, hbusy⟩
  have := key k j s t hji hw
  omega

/-- What is done in such a time of one task ahead. -/
theorem win_task (hok : jobsOk l js = true) {k : Nat} {j : Jb} {T : Tk} {s t : Nat} (hw : Win l js x k j T s t) {q : Nat} {Q : Tk} (hq : q < j.task.toNat) (hQ : l[q]? = some Q) {u v : Nat} (hsu : s ≤ u) (_hvu : v ≤ u) (hsv : s ≤ v) {cap : Int} (hc0 : 0 ≤ cap)
    (hcap : ∀ (k' : Nat) (j' : Jb) (d : Int), js[k']? = some j' → j'.task = (q : Int) → (s : Int) ≤ j'.at_ → j'.at_ < v → (sg l js false x u).done[k']? = some d → d ≤ cap)
    (hlate : ∀ (k' : Nat) (j' : Jb), js[k']? = some j' → j'.task = (q : Int) → (v : Int) ≤ j'.at_ → j'.at_ < u → (sg l js false x u).done[k']? = some 0) :
    sumD (q : Int) js (sg l js false x u).done - sumD (q : Int) js (sg l js false x s).done ≤ cap * ce ((v : Int) - s) Q.every := by
  have hQo := setOk_at (jobs_set hok) hQ
  have hkQ := (Tk.ok_iff _).1 hQo
  have h1 := sumD_win (q := (q : Int)) (s := (s : Int)) (u := (v : Int)) (cap := cap) js (sg l js false x s).done (sg l js false x u).done (sg_inv hok s).dlen (sg_inv hok u).dlen (fun k' j' a b hj' hq' ha hb => by
    by_cases c1 : (s : Int) ≤ j'.at_
    · rw [done_new hok hj' c1] at ha; simp at ha; subst ha
      by_cases c2 : j'.at_ < (v : Int)
      · rw [if_pos ⟨c1, c2⟩]
        have := hcap k' j' b hj' hq' c1 c2 hb; omega
      · rw [if_neg (fun h => c2 h.2)]
        by_cases c3 : j'.at_ < (u : Int)
        · rw [hlate k' j' hj' hq' (by omega) c3] at hb; simp at hb; omega
        · rw [done_new hok hj' (by omega)] at hb; simp at hb; omega
    · rw [if_neg (fun h => c1 h.1)]
      have hn : k' ∉ (sg l js false x s).left := fun h => by have := hw.nohp k' h j' hj'; omega
      rw [gone_done hok hn (by rw [at_eq hj']; omega) hsu, ha] at hb
      simp at hb; omega)
  have h2 := cntW_le (q := (q : Int)) (E := Q.every) (by omega) js (s : Int) (v : Int) (by omega) (((jobsOk_iff l js).1 hok).2.2.2.imp fun {a b} h ha hb => by
    have := h.2 (by omega)
    have he : evAt l b = Q.every := by simp only [evAt]; rw [show b.task.toNat = q by omega, hQ]
    omega)
  exact Int.le_trans h1 (Int.mul_le_mul_of_nonneg_left h2 hc0)
theorem win_high (hok : jobsOk l js = true) {k : Nat} {j : Jb} {T : Tk} {s t : Nat} (hw : Win l js x k j T s t) {v : Nat} (hv : s ≤ v) (h : (mid l js false x v).high = true) : ∀ u, v ≤ u → u ≤ t → (mid l js false x u).high = true
  | 0, h1, _ => by rw [show 0 = v by omega]; exact h
  | u + 1, h1, h2 => by
    by_cases e : v = u + 1
    · rw [← e]; exact h
    · have ih := win_high hok hw hv h u (by omega) (by omega)
      rw [mid_high_in (hw.busy (u + 1) (by omega) h2)]
      exact sg_high hok ih
theorem win_len {T : Tk} {i : Nat} (hT : l[i]? = some T) : i ≤ l.length := Nat.le_of_lt (List.getElem?_eq_some_iff.1 hT).1
/-- While needs are low. -/
theorem key_low (hok : jobsOk l js = true) {k : Nat} {j : Jb} {T : Tk} {s t : Nat} (hw : Win l js x k j T s t) {R : Nat} (hR : T.low + sumG (fun q => dem q R false) (l.take j.task.toNat) ≤ R)
    (hlow : ∀ τ, s ≤ τ → τ < s + R → (mid l js false x τ).high = false) (hlu : (sg l js false x (s + R)).high = false) : t < s + R := by
  refine Nat.lt_of_not_le fun hle => ?_
  have hTo := setOk_at (jobs_set hok) hw.hT
  have hkT := (Tk.ok_iff _).1 hTo
  have he := hw.eq (s + R) (by omega) hle
  have hd : dn l js x k (s + R) < T.low := by
    by_cases c : j.at_ < ((s + R : Nat) : Int)
    · obtain ⟨j', T', d, hj', hT', _, _, _, _, hnh, _, hd, _, _, hdn, hlo⟩ := in_left hok (sg_inv hok (s + R)) (back_sg hok hw.left hle (by rw [at_eq hw.hj]; omega))
      rw [hw.hj] at hj'; simp at hj'; subst hj'
      rw [hw.hT] at hT'; simp at hT'; subst hT'
      simp only [dn, hd, Option.getD_some]
      cases hc : T.crit with
      | true => exact hlo hc hlu
      | false => rcases hkT.2.2.2.2.2 with h | h
                 · rw [hc] at h; simp at h
                 · omega
    · simp only [dn]
      rw [done_new hok hw.hj (by omega)]
      show (0 : Int) < T.low
      omega
  have hs := sumX_le (l := l) (js := js) (d1 := (sg l js false x s).done) (d2 := (sg l js false x (s + R)).done) (g := fun q => dem q R false) j.task.toNat (win_len hw.hT) (fun q Q hq hQ => by
    have hkQ := (Tk.ok_iff _).1 (setOk_at (jobs_set hok) hQ)
    have := win_task hok hw hq hQ (u := s + R) (v := s + R) (by omega) (Nat.le_refl _) (by omega) (cap := Q.low) (by omega)
      (fun k' j' d hj' hq' h1 h2 hd => low_cap hok hj' (T := Q) (by rw [hq']; exact hQ) h1 (s + R) (by omega) hlow d hd)
      (fun k' j' _ _ h1 h2 => by omega)
    rw [show ((s + R : Nat) : Int) - s = R by omega] at this
    simp only [dem, selW]
    rw [Int.mul_comm]; exact this)
  have : ((s + R : Nat) : Int) - s = R := by omega
  omega
/-- At the switch: bound L while needs are low, R in all. -/
theorem key_switch (hok : jobsOk l js = true) {k : Nat} {j : Jb} {T : Tk} {s t : Nat} (hw : Win l js x k j T s t) {L R : Nat} (hL : T.low + sumG (fun q => dem q L false) (l.take j.task.toNat) ≤ L)
    (hR : T.high + sumG (fun q => if q.crit = true then dem q R true else dem q L false) (l.take j.task.toNat) ≤ R) (hL1 : 1 ≤ L) : t < s + R := by
  refine Nat.lt_of_not_le fun hle => ?_
  have hTo := setOk_at (jobs_set hok) hw.hT
  have hkT := (Tk.ok_iff _).1 hTo
  have he := hw.eq (s + R) (by omega) hle
  have hd : dn l js x k (s + R) < T.high := by
    by_cases c : j.at_ < ((s + R : Nat) : Int)
    · obtain ⟨j', T', d, hj', hT', _, _, _, _, hnh, _, hd, _, _, hdn, hlo⟩ := in_left hok (sg_inv hok (s + R)) (back_sg hok hw.left hle (by rw [at_eq hw.hj]; omega))
      rw [hw.hj] at hj'; simp at hj'; subst hj'
      rw [hw.hT] at hT'; simp at hT'; subst hT'
      simp only [dn, hd, Option.getD_some]
      omega
    · simp only [dn]
      rw [done_new hok hw.hj (by omega)]
      show (0 : Int) < T.high
      omega
  -- the switch
  obtain ⟨v, hv1, hv2, hv3, hv4⟩ : ∃ v, s ≤ v ∧ v ≤ s + R ∧ (∀ τ, s ≤ τ → τ < v → (mid l js false x τ).high = false) ∧ ∀ τ, v ≤ τ → τ < s + R → (mid l js false x τ).high = true := by
    have hx : ∀ n, n ≤ R → ∃ v, s ≤ v ∧ v ≤ s + n ∧ (∀ τ, s ≤ τ → τ < v → (mid l js false x τ).high = false) ∧ ∀ τ, v ≤ τ → τ < s + n → (mid l js false x τ).high = true := by
      intro n
      induction n with
      | zero => intro _; exact ⟨s, Nat.le_refl _, Nat.le_refl _, fun τ h1 h2 => by omega, fun τ h1 h2 => by omega⟩
      | succ n ih =>
        intro hn
        obtain ⟨v, h1, h2, h3, h4⟩ := ih (by omega)
        by_cases c : v < s + n
        · exact ⟨v, h1, by omega, h3, fun τ h5 h6 => win_high hok hw h1 (h4 v (Nat.le_refl _) c) τ h5 (by omega)⟩
        · obtain rfl : v = s + n := by omega
          cases hm : (mid l js false x (s + n)).high with
          | true => exact ⟨s + n, h1, by omega, h3, fun τ h5 h6 => by rw [show τ = s + n by omega]; exact hm⟩
          | false => exact ⟨s + n + 1, by omega, by omega, fun τ h5 h6 => by
              by_cases e : τ = s + n
              · rw [e]; exact hm
              · exact h3 τ h5 (by omega), fun τ h5 h6 => by omega⟩
    exact hx R (Nat.le_refl _)
  have hvL : v ≤ s + L := by
    refine Nat.le_of_not_lt fun hlt => ?_
    have hm := hv3 (s + L) (by omega) hlt
    have := key_low hok hw hL (fun τ h1 h2 => hv3 τ h1 (by omega)) (by rw [← mid_high_in (hw.busy (s + L) (by omega) (by omega))]; exact hm)
    omega
  have hs := sumX_le (l := l) (js := js) (d1 := (sg l js false x s).done) (d2 := (sg l js false x (s + R)).done) (g := fun q => if q.crit = true then dem q R true else dem q L false) j.task.toNat (win_len hw.hT) (fun q Q hq hQ => by
    have hkQ := (Tk.ok_iff _).1 (setOk_at (jobs_set hok) hQ)
    have hneed : ∀ (k' : Nat) (j' : Jb) (d : Int), js[k']? = some j' → j'.task = (q : Int) → (sg l js false x (s + R)).done[k']? = some d → d ≤ Q.high := fun k' j' d hj' hq' hd => by
      obtain ⟨j2, T2, hj2, hT2, _, _, _, _, hnh, _⟩ := job_of hok (List.getElem?_eq_some_iff.1 hj').1
      rw [hj'] at hj2; simp at hj2; subst hj2
      rw [show j'.task.toNat = q by omega, hQ] at hT2; simp at hT2; subst hT2
      obtain ⟨e, he⟩ := getSome (l := (sg l js false x (s + R)).ended) (k := k') (by rw [(sg_inv hok (s + R)).elen]; exact (List.getElem?_eq_some_iff.1 hj').1)
      have := inv_done hok (sg_inv (due := false) (x := x) hok (s + R)) k' j' e d hj' he hd
      omega
    (try dsimp only)
    cases hc : Q.crit with
    | true =>
      rw [if_pos rfl]
      have := win_task hok hw hq hQ (u := s + R) (v := s + R) (by omega) (Nat.le_refl _) (by omega) (cap := Q.high) (by omega)
        (fun k' j' d hj' hq' h1 h2 hd => hneed k' j' d hj' hq' hd) (fun k' j' _ _ h1 h2 => by omega)
      rw [show ((s + R : Nat) : Int) - s = R by omega] at this
      simp only [dem, selW, if_true]
      rw [Int.mul_comm]; exact this
    | false =>
      rw [if_neg (by simp)]
      have hlh : Q.low = Q.high := by
        rcases hkQ.2.2.2.2.2 with h | h
        · rw [hc] at h; simp at h
        · exact h
      have := win_task hok hw hq hQ (u := s + R) (v := v) (by omega) hv2 hv1 (cap := Q.low) (by omega)
        (fun k' j' d hj' hq' h1 h2 hd => by rw [hlh]; exact hneed k' j' d hj' hq' hd)
        (fun k' j' hj' hq' h1 h2 => by
          have hcr : critOf l js k' = false := by rw [critOf, tkOf, hj']; dsimp only; rw [show j'.task.toNat = q by omega, hQ]; exact hc
          rw [done_keep hok (a := v) (s + R) hv2 (fun τ h3 h4 h5 => by
            have := nc_mid hok h5 hcr
            rw [hv4 τ h3 h4] at this; simp at this)]
          exact done_new hok hj' h1)
      have h1 := ce_mono (a := (v : Int) - s) (b := L) (e := Q.every) (by omega) (by omega) (by omega)
      have h2 := Int.mul_le_mul_of_nonneg_left h1 (show 0 ≤ Q.low by omega)
      simp only [dem, selW, Bool.false_eq_true, if_false]
      rw [Int.mul_comm]
      exact Int.le_trans this h2)
  have : ((s + R : Nat) : Int) - s = R := by omega
  omega
/-- A job that is not critical is left while needs are low. -/
theorem win_nc (hok : jobsOk l js = true) {k : Nat} {j : Jb} {T : Tk} {s t : Nat} (hw : Win l js x k j T s t) (hh : (sg l js false x t).high = false) : (∀ τ, s ≤ τ → τ < t → (mid l js false x τ).high = false) ∧ ∀ τ, s < τ → τ ≤ t → (sg l js false x τ).high = false := by
  have h1 : ∀ τ, s ≤ τ → τ < t → (mid l js false x τ).high = false := fun τ a b => by
    cases hm : (mid l js false x τ).high with
    | false => rfl
    | true =>
      have h2 := win_high hok hw a hm (t - 1) (by omega) (by omega)
      have h3 := sg_high hok h2
      rw [show t - 1 + 1 = t by omega, hh] at h3; simp at h3
  refine ⟨h1, fun τ a b => ?_⟩
  by_cases e : τ = t
  · rw [e]; exact hh
  · rw [← mid_high_in (hw.busy τ a b)]; exact h1 τ (by omega) (by omega)
theorem key_nc (hok : jobsOk l js = true) {k : Nat} {j : Jb} {T : Tk} {s t : Nat} (hw : Win l js x k j T s t) (hh : (sg l js false x t).high = false) {R : Nat} (hR1 : 1 ≤ R) (hR : T.low + sumG (fun q => dem q R false) (l.take j.task.toNat) ≤ R) : t < s + R := by
  refine Nat.lt_of_not_le fun hle => ?_
  obtain ⟨h1, h2⟩ := win_nc hok hw hh
  have := key_low hok hw hR (fun τ a b => h1 τ a (by omega)) (h2 (s + R) (by omega) hle)
  omega
end
end Go.Proofs.Ytaadlgpglfpmpaa
