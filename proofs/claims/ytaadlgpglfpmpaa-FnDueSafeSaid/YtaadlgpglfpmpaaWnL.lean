/-
  The laws of runs by place: bounds hold, and nobody is late. No program in sight.
-/
import Derived.Test.YtaadlgpglfpmpaaWnK
namespace Go.Proofs.Ytaadlgpglfpmpaa
open Go.RowKit

section
variable {l : List Tk} {js : List Jb} {due : Bool} {x : Fr}
theorem come_end2 (t : Int) : ∀ (m i : Nat) (s : St) (k : Nat), (comeFrom l js t m i s).ended[k]? = s.ended[k]? ∨ (comeFrom l js t m i s).ended[k]? = some (-2)
  | 0, _, _, _ => .inl rfl
  | m + 1, i, s, k => by
    rw [comeFrom]
    rcases come_end2 t m (i + 1) (come1 l js t i s) k with h | h
    · rw [h]
      unfold come1
      split
      · exact .inl rfl
      · split
        · by_cases e : i = k
          · subst e
            by_cases hl : i < s.ended.length
            · exact .inr (set_at hl)
            · left; dsimp only
              rw [List.getElem?_eq_none (by simp; omega), List.getElem?_eq_none (by omega)]
          · exact .inl (set_oth e)
        · exact .inl rfl
    · exact .inr h
theorem mid_end (t k : Nat) : (mid l js due x t).ended[k]? = (sg l js due x t).ended[k]? ∨ (mid l js due x t).ended[k]? = some (-2) := by
  have := come_end2 (l := l) (js := js) (t : Int) js.length 0 (low0 (sg l js due x t)) k
  rw [(low0_keep (sg l js due x t)).2.2.2.1] at this
  exact this
/-- A job that ended, ended within the bound. -/
theorem end_claim (hok : jobsOk l js = true) {i : Nat} {R : Nat} (hR : 1 ≤ R) (hc : ∀ (t k : Nat) (j : Jb), k ∈ (sg l js due x t).left → js[k]? = some j → j.task = (i : Int) → (t : Int) < j.at_ + R) : ∀ (t k : Nat) (j : Jb) (e : Int), js[k]? = some j → j.task = (i : Int) → (sg l js due x t).ended[k]? = some e → 0 ≤ e → e ≤ j.at_ + R
  | 0, k, j, e, _, _, he, h0 => by
    simp only [sg, ticks, st0, List.getElem?_replicate] at he
    split at he
    · simp at he; omega
    · simp at he
  | t + 1, k, j, e, hj, hji, he, h0 => by
    have hmid : ∀ e, (mid l js due x t).ended[k]? = some e → 0 ≤ e → e ≤ j.at_ + R := fun e he h0 => by
      rcases mid_end (l := l) (js := js) (due := due) (x := x) t k with h | h
      · rw [h] at he; exact end_claim hok hR hc t k j e hj hji he h0
      · rw [h] at he; simp at he; omega
    rcases sg_tick (due := due) (x := x) hok t with ⟨_, _, _, _, h5⟩ | ⟨r, jr, Tr, dr, hm, hjr, hTr, hr0, hdr, hd0, hdn, hlo, hd', _, _, _, hb, _, hend⟩
    · rw [h5] at he; exact hmid e he h0
    · rcases hend k with h | ⟨rfl, _, h⟩ | ⟨_, _, h⟩
      · rw [h] at he; exact hmid e he h0
      · rw [h] at he; simp at he; subst he
        rcases mid_new hm with h1 | ⟨h1, _⟩
        · have := hc t k j h1 hj hji; omega
        · rw [at_eq hj] at h1; omega
      · rw [h] at he; simp at he; omega
/-- A job that came and has not ended is left. -/
theorem not_ended (hok : jobsOk l js = true) {t k : Nat} {j : Jb} (hj : js[k]? = some j) (ha : j.at_ < t) (he : (sg l js due x t).ended[k]? = some (-1)) : k ∈ (sg l js due x t).left := by
  obtain ⟨j', T, hj', hT, _, _, _, hn1, _⟩ := job_of hok (List.getElem?_eq_some_iff.1 hj).1
  rw [hj] at hj'; simp at hj'; subst hj'
  obtain ⟨_, _, hj2, _, _, h0, _⟩ := job_of hok (List.getElem?_eq_some_iff.1 hj).1
  rw [hj] at hj2; simp at hj2; subst hj2
  obtain ⟨e, d, he', hd, hst⟩ := (sg_inv (due := due) (x := x) hok t).job k j T hj hT
  rw [he] at he'; simp at he'; subst he'
  have hA : Here js t k := by unfold Here; rw [at_eq hj]; exact ha
  rcases hst with ⟨h1, _⟩ | ⟨_, h2, _⟩ | ⟨_, _, h1, _⟩ | ⟨_, _, h1, _⟩
  · exact absurd hA h1
  · exact h2
  · omega
  · omega
/-- Of a task whose jobs are left for less than R ticks none is late. -/
theorem no_miss (hok : jobsOk l js = true) {i : Nat} {T : Tk} (hT : l[i]? = some T) {R : Nat} (hR : 1 ≤ R) (hRd : (R : Int) ≤ T.due) (hc : ∀ (t k : Nat) (j : Jb), k ∈ (sg l js due x t).left → js[k]? = some j → j.task = (i : Int) → (t : Int) < j.at_ + R) {t k : Nat} {j : Jb} (hj : js[k]? = some j) (hji : j.task = (i : Int)) : missP l js (sg l js due x t).ended t k = false := by
  unfold missP
  rw [hj]
  dsimp only
  cases he : (sg l js due x t).ended[k]? with
  | none => rfl
  | some e =>
    dsimp only
    have hin : jobIn l j = true := ((jobsOk_iff l js).1 hok).2.2.1 j (List.mem_of_getElem? hj)
    have hdv : dueV l j = j.at_ + T.due := by rw [dueV, if_pos hin, show j.task.toNat = i by omega, hT]
    rw [hdv, decide_eq_false_iff_not]
    rintro (h | ⟨rfl, h⟩)
    · obtain ⟨_, _, hj2, _, _, h0, _⟩ := job_of hok (List.getElem?_eq_some_iff.1 hj).1
      rw [hj] at hj2; simp at hj2; subst hj2
      have := end_claim hok hR hc t k j e hj hji he (by omega)
      omega
    · have := hc t k j (not_ended hok hj (by omega) he) hj hji
      omega
theorem pick_nil {p : Nat → Bool} : ∀ {m i : Nat}, (∀ k, i ≤ k → k < i + m → p k = false) → pickFrom p m i = []
  | 0, _, _ => rfl
  | m + 1, i, h => by
    rw [pickFrom, if_neg (by rw [h i (Nat.le_refl _) (by omega)]; simp), pick_nil (fun k h1 h2 => h k (by omega) (by omega))]
theorem low_high (hok : jobsOk l js = true) (hh : highs l js = []) (t : Nat) : (sg l js false x t).high = false := by
  have h1 := low_all (due := false) (x := x) hok t
  have h2 : cntB (overP l js (sg l js false x t).done) js.length = 0 := by
    have h3 : cntB (highP l js) js.length = 0 := by rw [← pick_cnt]; rw [highs, if_pos hok] at hh; rw [hh]; rfl
    have h4 := cntB_le (p := overP l js (sg l js false x t).done) (q := highP l js) js.length (fun i _ hi => by
      unfold overP at hi
      unfold highP
      cases hj : js[i]? with
      | none => rw [hj] at hi; simp at hi
      | some j =>
        rw [hj] at hi
        dsimp only at hi ⊢
        cases hT : l[j.task.toNat]? with
        | none => rw [hT] at hi; simp at hi
        | some T =>
          rw [hT] at hi
          dsimp only at hi ⊢
          split at hi
          · simp at hi ⊢; exact hi.1
          · simp at hi)
    omega
  have h5 : (sg l js false x t).switches.length ≤ 0 := by
    rw [← h2]; exact h1
  cases hq : (sg l js false x t).high with
  | false => rfl
  | true => exact absurd (List.eq_nil_of_length_eq_zero (by omega)) ((sg_inv hok t).high hq)
/-- Bounds with low needs. -/
theorem claim_low (hok : jobsOk l js = true) (hh : highs l js = []) {i : Nat} {n : Int} (hn : respL l i = some n) : ∀ (t k : Nat) (j : Jb), k ∈ (sg l js false x t).left → js[k]? = some j → j.task = (i : Int) → (t : Int) < j.at_ + n.toNat := by
  obtain ⟨T, hT, hs, hk, he, h1, h2⟩ := respL_some hn
  have hkT := (Tk.ok_iff _).1 hk
  refine place_claim hok hT (by omega) fun k j s t hji hw => ?_
  refine key_nc hok hw (low_high hok hh t) (by omega) ?_
  rw [show ((n.toNat : Nat) : Int) = n by omega, show j.task.toNat = i by omega]
  unfold lowF at he; omega
theorem claim_both (hok : jobsOk l js = true) {i : Nat} (hb : holdsAt l i = true) : ∃ (T : Tk) (n : Int), l[i]? = some T ∧ (if T.crit = true then respS l i else respL l i) = some n ∧ 1 ≤ n ∧ n ≤ T.due ∧ ∀ (t k : Nat) (j : Jb), k ∈ (sg l js false x t).left → js[k]? = some j → j.task = (i : Int) → (t : Int) < j.at_ + n.toNat := by
  unfold holdsAt at hb
  cases hT : l[i]? with
  | none => rw [hT] at hb; simp at hb
  | some T =>
    rw [hT] at hb
    dsimp only at hb
    cases hc : T.crit with
    | true =>
      rw [hc, if_pos rfl] at hb
      obtain ⟨n, hn⟩ := Option.isSome_iff_exists.1 hb
      obtain ⟨T', m, hT', hm, _, he, h1, h2⟩ := respS_some hn
      rw [hT] at hT'; simp at hT'; subst hT'
      obtain ⟨T', hT', hs, hk, he2, h3, h4⟩ := respL_some hm
      rw [hT] at hT'; simp at hT'; subst hT'
      have hkT := (Tk.ok_iff _).1 hk
      refine ⟨T, n, rfl, by rw [hc, if_pos rfl]; exact hn, by omega, h2, place_claim hok hT (by omega) fun k j s t hji hw => ?_⟩
      refine key_switch hok hw (L := m.toNat) (R := n.toNat) ?_ ?_ (by omega)
      · rw [show ((m.toNat : Nat) : Int) = m by omega, show j.task.toNat = i by omega]
        unfold lowF at he2; omega
      · rw [show ((n.toNat : Nat) : Int) = n by omega, show ((m.toNat : Nat) : Int) = m by omega, show j.task.toNat = i by omega]
        unfold swF at he; omega
    | false =>
      rw [hc, if_neg (by simp)] at hb
      obtain ⟨n, hn⟩ := Option.isSome_iff_exists.1 hb
      obtain ⟨T', hT', hs, hk, he, h1, h2⟩ := respL_some hn
      rw [hT] at hT'; simp at hT'; subst hT'
      have hkT := (Tk.ok_iff _).1 hk
      refine ⟨T, n, rfl, by rw [hc, if_neg (by simp)]; exact hn, by omega, h2, place_claim hok hT (by omega) fun k j s t hji hw => ?_⟩
      have hnc : critOf l js k = false := by rw [critOf, tkOf, hw.hj]; dsimp only; rw [hw.hT]; exact hc
      refine key_nc hok hw (nc_all hok t k hw.left hnc) (by omega) ?_
      rw [show ((n.toNat : Nat) : Int) = n by omega, show j.task.toNat = i by omega]
      unfold lowF at he; omega
end

/-! ### As the laws ask -/

section
variable {l : List Tk} {js : List Jb} {N : Int} {r : Rn}
theorem run_sg {P : Int} (h : runJ l js P N = (r, true)) (hP : P = 0) : jobsOk l js = true ∧ 0 ≤ N ∧ r.ended = (sg l js false (factor l).1 N.toNat).ended ∧ r.trace.length = N.toNat := by
  subst hP
  have htl := run_tlen h
  obtain ⟨hok, h0, _, _, rfl⟩ := runJ_ok h
  exact ⟨hok, h0, rfl, by omega⟩
theorem task_of {l : List Tk} {js : List Jb} (hok : jobsOk l js = true) {k : Nat} {j : Jb} (hj : js[k]? = some j) : ∃ (i : Nat) (T : Tk), j.task = i ∧ i < l.length ∧ l[i]? = some T := by
  obtain ⟨j', T, hj', hT, _, _, _, _, _, h0, h1, _⟩ := job_of hok (List.getElem?_eq_some_iff.1 hj).1
  rw [hj] at hj'; simp at hj'; subst hj'
  exact ⟨j.task.toNat, T, by omega, by omega, hT⟩
/-- By place, tasks that hold in both modes are late with no job. -/
theorem run_place (h : runJ l js 0 N = (r, true)) (hb : holdsBothB l = true) : misses l js r.ended r.trace.length = [] := by
  obtain ⟨hok, h0, he, htl⟩ := run_sg h rfl
  simp only [holdsBothB, Bool.and_eq_true] at hb
  unfold misses
  split
  · refine pick_nil fun k _ hk => ?_
    obtain ⟨j, hj⟩ := getSome (l := js) (k := k) (by omega)
    obtain ⟨i, T, hji, hil, hT⟩ := task_of hok hj
    obtain ⟨T', n, hT', _, h1, h2, hc⟩ := claim_both (x := (factor l).1) hok (holdsFrom_at hb.2 i (Nat.zero_le _) (by omega))
    rw [hT] at hT'; simp at hT'; subst hT'
    rw [he, htl]
    exact no_miss hok hT (by omega) (by omega) hc hj hji
  · rfl
theorem run_place_low (h : runJ l js 0 N = (r, true)) (hb : holdsLowB l = true) (hh : highs l js = []) : misses l js r.ended r.trace.length = [] := by
  obtain ⟨hok, h0, he, htl⟩ := run_sg h rfl
  simp only [holdsLowB, Bool.and_eq_true] at hb
  unfold misses
  split
  · refine pick_nil fun k _ hk => ?_
    obtain ⟨j, hj⟩ := getSome (l := js) (k := k) (by omega)
    obtain ⟨i, T, hji, hil, hT⟩ := task_of hok hj
    obtain ⟨n, hn⟩ := Option.isSome_iff_exists.1 (lowFrom_at hb.2 i (Nat.zero_le _) (by omega))
    obtain ⟨T', hT', _, hk2, _, h1, h2⟩ := respL_some hn
    rw [hT] at hT'; simp at hT'; subst hT'
    have hkT := (Tk.ok_iff _).1 hk2
    rw [he, htl]
    exact no_miss hok hT (by omega) (by omega) (claim_low hok hh hn) hj hji
  · rfl
/-- A response is no longer than the bound. -/
theorem run_bound_low (h : runJ l js 0 N = (r, true)) (hh : highs l js = []) {i : Nat} {n : Int} (hn : respL l i = some n) : 0 ≤ n ∧ ∀ (k : Nat) (j : Jb) (e : Int), js[k]? = some j → r.ended[k]? = some e → j.task = (i : Int) → 0 ≤ e → e - j.at_ ≤ n := by
  obtain ⟨hok, h0, he, htl⟩ := run_sg h rfl
  obtain ⟨T, hT, _, hk2, _, h1, h2⟩ := respL_some hn
  have hkT := (Tk.ok_iff _).1 hk2
  refine ⟨by omega, fun k j e hj hek hji h3 => ?_⟩
  rw [he] at hek
  have := end_claim hok (R := n.toNat) (by omega) (claim_low hok hh hn) N.toNat k j e hj hji hek h3
  omega
theorem run_bound_switch (h : runJ l js 0 N = (r, true)) (hb : holdsBothB l = true) {i : Nat} {T : Tk} (hT : l[i]? = some T) (hc : T.crit = true) : ∃ n, respS l i = some n ∧ 0 ≤ n ∧ ∀ (k : Nat) (j : Jb) (e : Int), js[k]? = some j → r.ended[k]? = some e → j.task = (i : Int) → 0 ≤ e → e - j.at_ ≤ n := by
  obtain ⟨hok, h0, he, htl⟩ := run_sg h rfl
  simp only [holdsBothB, Bool.and_eq_true] at hb
  obtain ⟨T', n, hT', hn, h1, h2, hcl⟩ := claim_both (x := (factor l).1) hok (holdsFrom_at hb.2 i (Nat.zero_le _) (by have := (List.getElem?_eq_some_iff.1 hT).1; omega))
  rw [hT] at hT'; simp at hT'; subst hT'
  rw [hc, if_pos rfl] at hn
  refine ⟨n, hn, by omega, fun k j e hj hek hji h3 => ?_⟩
  rw [he] at hek
  have := end_claim hok (R := n.toNat) (by omega) hcl N.toNat k j e hj hji hek h3
  omega
end
end Go.Proofs.Ytaadlgpglfpmpaa
