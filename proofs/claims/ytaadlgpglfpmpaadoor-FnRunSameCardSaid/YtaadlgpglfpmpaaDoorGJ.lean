import Derived.Test.YtaadlgpglfpmpaaDoorGC

/-
  The facts behind the laws of runs. No program in sight.
-/

namespace Go.Proofs.YtaadlgpglfpmpaaDoor
open Go.RowKit

theorem get_snoc {α : Type} {l : List α} {y x : α} {t : Nat} (h : (l ++ [y])[t]? = some x) : l[t]? = some x ∨ (t = l.length ∧ x = y) := by
  rw [List.getElem?_append] at h
  split at h
  · exact .inl h
  · rename_i h1
    rw [List.getElem?_singleton] at h
    split at h
    · simp at h; exact .inr ⟨by omega, h.symm⟩
    · simp at h
theorem snoc_old {α : Type} {l : List α} {y x : α} {t : Nat} (h : l[t]? = some x) : (l ++ [y])[t]? = some x := by
  rw [List.getElem?_append_left (List.getElem?_eq_some_iff.1 h).1]; exact h
theorem snoc_new {α : Type} (l : List α) (y : α) : (l ++ [y])[l.length]? = some y := by simp

section
variable {l : List Tk} {js : List Jb} {due : Bool} {x : Fr}

/-- A tick, seen from outside: from the state in which the tick works. -/
structure TickS (l : List Tk) (js : List Jb) (due : Bool) (x : Fr) (t : Nat) (s s1 : St) : Prop where
  inv0 : Inv l js (Here js t) t s
  inv : Inv l js (Here js (t + 1)) t s1
  trace : s1.trace = s.trace
  sw : s1.switches = s.switches
  done : s1.done = s.done
  high : s1.high = (low0 s).high
  em : Em t s.ended s1.ended
  eq : tick l js due x t s = work l js due x ((t : Int) + 1) s1
theorem tick_s (hok : jobsOk l js = true) {t : Nat} {s : St} (h : Inv l js (Here js t) t s) : ∃ s1, TickS l js due x t s s1 := by
  obtain ⟨k1, k2, k3, k4⟩ := come_keep l js t s
  exact ⟨comeFrom l js t js.length 0 (low0 s), h, h.comes hok, k1, k2, k3, k4, come_em0 hok h, rfl⟩
/-- What a tick adds to the trace. -/
theorem TickS.tr (hok : jobsOk l js = true) {t : Nat} {s s1 : St} (h : TickS l js due x t s s1) : ((tick l js due x t s).trace = s.trace ++ [-1] ∧ s1.left = []) ∨ ∃ r j T d, r ∈ s1.left ∧ js[r]? = some j ∧ l[j.task.toNat]? = some T ∧ 0 ≤ j.task ∧ (tick l js due x t s).trace = s.trace ++ [j.task] ∧ Here js (t + 1) r ∧ s1.done[r]? = some d ∧ s1.ended[r]? = some (-1) ∧ 0 ≤ d ∧ d < j.need ∧ Ran l js t r j T d s1 (tick l js due x t s) := by
  by_cases hne : s1.left = []
  · exact .inl ⟨by rw [h.eq, work_idle due x _ hne, ← h.trace], hne⟩
  · obtain ⟨r, j, T, d, hm, _, hj, hT, _, _, _, hd, he, hA, hd0, hdn, _, _, ht0, _, hR⟩ := work_cases hok h.inv due x hne
    rw [← h.eq] at hR
    refine .inr ⟨r, j, T, d, hm, hj, hT, ht0, ?_, hA, hd, he, hd0, hdn, hR⟩
    rw [← h.trace]
    rcases hR with ⟨_, e⟩ | ⟨_, _, _, _, e⟩ | ⟨_, _, e⟩ <;> rw [e]

/-- Tasks run their jobs. -/
def OwnP (js : List Jb) (tr : List Int) : Prop := ∀ (t : Nat) (y : Int), tr[t]? = some y → y = -1 ∨ ∃ (i : Nat) (j : Jb), js[i]? = some j ∧ j.task = y ∧ j.at_ ≤ t
theorem ownP_all (hok : jobsOk l js = true) (n : Nat) : OwnP js (ticks l js due x n 0 (st0 js.length)).trace := by
  refine (ticks_all (P := fun n s => s.trace.length = n ∧ OwnP js s.trace) hok ⟨rfl, by intro t y h; simp [st0] at h⟩ (fun t s h ⟨hl, hP⟩ => ?_) n).2
  obtain ⟨s1, hs⟩ := tick_s (due := due) (x := x) hok h
  rcases hs.tr hok with ⟨e, _⟩ | ⟨r, j, T, d, _, hj, _, _, e, hA, _⟩
  · rw [e]
    refine ⟨by simp [hl], fun t' y hy => ?_⟩
    rcases get_snoc hy with hy | ⟨_, hy⟩
    · exact hP t' y hy
    · exact .inl hy
  · rw [e]
    refine ⟨by simp [hl], fun t' y hy => ?_⟩
    rcases get_snoc hy with hy | ⟨ht, hy⟩
    · exact hP t' y hy
    · refine .inr ⟨r, j, hj, hy.symm, ?_⟩
      unfold Here at hA; rw [at_eq hj] at hA; omega

/-- All that came before t is done or dropped, at t at the latest. -/
def Free (js : List Jb) (t : Nat) (e : List Int) : Prop := ∀ (i : Nat) (j : Jb), js[i]? = some j → j.at_ < t → ∃ y, e[i]? = some y ∧ y ≠ -1 ∧ y ≤ t
theorem Free.em {t t' : Nat} {e e' : List Int} (h : Free js t e) (hm : Em t' e e') : Free js t e' := fun i j hj ha => by
  obtain ⟨y, hy, h1, h2⟩ := h i j hj ha
  obtain ⟨z, hz, h3⟩ := hm i y hy
  rcases h3 with rfl | ⟨h4, _⟩
  · exact ⟨z, hz, h1, h2⟩
  · exact absurd h4 h1
/-- Nothing is left: all that came is done or dropped. -/
theorem Inv.free (hok : jobsOk l js = true) {t k : Nat} {s : St} (h : Inv l js (Here js k) t s) (he : s.left = []) (htk : t ≤ k) : Free js k s.ended := fun i j hj ha => by
  have hil := (List.getElem?_eq_some_iff.1 hj).1
  obtain ⟨j', T, hj', hT, _⟩ := job_of hok hil
  rw [hj] at hj'; simp at hj'; subst hj'
  obtain ⟨e, d, hee, _, hst⟩ := h.job i j T hj hT
  have hA : Here js k i := by unfold Here; rw [at_eq hj]; exact ha
  have hn : ¬ i ∈ s.left := by rw [he]; simp
  rcases hst with ⟨h1, _⟩ | ⟨_, h1, _⟩ | ⟨_, _, rfl, _⟩ | ⟨_, _, _, h2, _⟩
  · exact absurd hA h1
  · exact absurd h1 hn
  · exact ⟨-2, hee, by omega, by omega⟩
  · refine ⟨e, hee, ?_, by omega⟩
    obtain ⟨_, _, hj2, _, _, h0, _, hn1, _⟩ := job_of hok hil
    rw [hj] at hj2; simp at hj2; subst hj2
    omega
theorem Em.ended {t : Nat} {s : St} (hok : jobsOk l js = true) (h : Inv l js (Here js t) t s) : Em t s.ended (tick l js due x t s).ended := tick_em hok h due x

/-- Nobody is idle while a job is left. -/
def WorkP (js : List Jb) (tr e : List Int) : Prop := ∀ (t : Nat), tr[t]? = some (-1) → ∀ (i : Nat) (j : Jb), js[i]? = some j → j.at_ ≤ t → ∃ y, e[i]? = some y ∧ y ≠ -1 ∧ y ≤ t
theorem workP_all (hok : jobsOk l js = true) (n : Nat) : WorkP js (ticks l js due x n 0 (st0 js.length)).trace (ticks l js due x n 0 (st0 js.length)).ended := by
  refine (ticks_all (P := fun n s => s.trace.length = n ∧ WorkP js s.trace s.ended) hok ⟨rfl, by intro t h; simp [st0] at h⟩ (fun t s h ⟨hl, hP⟩ => ?_) n).2
  obtain ⟨s1, hs⟩ := tick_s (due := due) (x := x) hok h
  have hem := Em.ended (due := due) (x := x) hok h
  have old : ∀ t' : Nat, s.trace[t']? = some (-1) → ∀ (i : Nat) (j : Jb), js[i]? = some j → j.at_ ≤ t' → ∃ y, (tick l js due x t s).ended[i]? = some y ∧ y ≠ -1 ∧ y ≤ t' := fun t' ht' i j hj ha => by
    obtain ⟨y, hy, h1, h2⟩ := hP t' ht' i j hj ha
    obtain ⟨z, hz, h3⟩ := hem i y hy
    rcases h3 with rfl | ⟨h4, _⟩
    · exact ⟨z, hz, h1, h2⟩
    · exact absurd h4 h1
  rcases hs.tr hok with ⟨e, hle⟩ | ⟨r, j, T, d, _, hj, _, h0, e, hA, _⟩
  · rw [e]
    refine ⟨by simp [hl], fun t' ht' i j hj ha => ?_⟩
    rcases get_snoc ht' with ht' | ⟨ht', _⟩
    · exact old t' ht' i j hj ha
    · have hfr : Free js (t + 1) s1.ended := fun i j hj ha => by
        have hil := (List.getElem?_eq_some_iff.1 hj).1
        obtain ⟨j', T, hj', hT, _⟩ := job_of hok hil
        rw [hj] at hj'; simp at hj'; subst hj'
        obtain ⟨e, d, hee, _, hst⟩ := hs.inv.job i j T hj hT
        have hA : Here js (t + 1) i := by unfold Here; rw [at_eq hj]; exact ha
        have hn : ¬ i ∈ s1.left := by rw [hle]; simp
        obtain ⟨_, _, hj2, _, _, h0, _, hn1, _⟩ := job_of hok hil
        rw [hj] at hj2; simp at hj2; subst hj2
        rcases hst with ⟨h1, _⟩ | ⟨_, h1, _⟩ | ⟨_, _, rfl, _⟩ | ⟨_, _, _, h2, _⟩
        · exact absurd hA h1
        · exact absurd h1 hn
        · exact ⟨-2, hee, by omega, by omega⟩
        · exact ⟨e, hee, by omega, by omega⟩
      obtain ⟨y, hy, h1, h2⟩ := hfr i j hj (by omega)
      -- in an idle tick nothing ends
      have hee : (tick l js due x t s).ended = s1.ended := by rw [hs.eq, work_idle due x _ hle]
      have hyt : y ≤ t := by
        have hil := (List.getElem?_eq_some_iff.1 hj).1
        obtain ⟨j', T, hj', hT, _⟩ := job_of hok hil
        rw [hj] at hj'; simp at hj'; subst hj'
        obtain ⟨e2, d2, hee2, _, hst⟩ := hs.inv.job i j T hj hT
        rw [hy] at hee2; simp at hee2; subst hee2
        rcases hst with ⟨_, _, h3, _⟩ | ⟨_, _, h3, _⟩ | ⟨_, _, h3, _⟩ | ⟨_, _, _, h3, _⟩ <;> omega
      exact ⟨y, by rw [hee]; exact hy, h1, by omega⟩
  · rw [e]
    refine ⟨by simp [hl], fun t' ht' i j' hj' ha => ?_⟩
    rcases get_snoc ht' with ht' | ⟨_, hy⟩
    · exact old t' ht' i j' hj' ha
    · omega

/-- Critical tasks switch. -/
def SwP (l : List Tk) (s : St) : Prop := (∀ y ∈ s.switches, 1 ≤ y ∧ ∃ z T, s.trace[(y - 1).toNat]? = some z ∧ 0 ≤ z ∧ l[z.toNat]? = some T ∧ T.crit = true) ∧ s.switches.Pairwise (· < ·) ∧ (s.high = true → s.switches ≠ [])
theorem swP_all (hok : jobsOk l js = true) (n : Nat) : SwP l (ticks l js due x n 0 (st0 js.length)) := by
  refine (ticks_all (P := fun n s => s.trace.length = n ∧ SwP l s) hok ⟨rfl, by simp [SwP, st0]⟩ (fun t s h ⟨hl, hP1, hP2, hP3⟩ => ?_) n).2
  obtain ⟨s1, hs⟩ := tick_s (due := due) (x := x) hok h
  have hI' := h.tick hok due x
  have keep : ∀ y tr, (∀ y ∈ s.switches, 1 ≤ y ∧ ∃ z T, s.trace[(y - 1).toNat]? = some z ∧ 0 ≤ z ∧ l[z.toNat]? = some T ∧ T.crit = true) → tr = s.trace ++ [y] → ∀ y ∈ s.switches, 1 ≤ y ∧ ∃ z T, tr[(y - 1).toNat]? = some z ∧ 0 ≤ z ∧ l[z.toNat]? = some T ∧ T.crit = true := fun y0 tr hp e y hy => by
    obtain ⟨h1, z, T, h2, h3⟩ := hp y hy
    exact ⟨h1, z, T, by rw [e]; exact snoc_old h2, h3⟩
  by_cases hne : s1.left = []
  · have e : tick l js due x t s = { s1 with trace := s1.trace ++ [-1] } := by rw [hs.eq, work_idle due x _ hne]
    refine ⟨by rw [e]; simp [hs.trace, hl], ?_, ?_, hI'.high⟩
    · intro y hy
      have hy' : y ∈ s.switches := by rw [e] at hy; rw [← hs.sw]; exact hy
      exact keep (-1) _ hP1 (by rw [e]; show s1.trace ++ [-1] = _; rw [hs.trace]) y hy'
    · rw [e]; show s1.switches.Pairwise _; rw [hs.sw]; exact hP2
  · obtain ⟨r, j, T, d, hm, _, hj, hT, _, _, _, hd, he, hA, hd0, hdn, _, _, ht0, _, hR⟩ := work_cases hok hs.inv due x hne
    rw [← hs.eq] at hR
    rcases hR with ⟨_, e⟩ | ⟨_, _, hc, _, e⟩ | ⟨_, _, e⟩
    · refine ⟨by rw [e]; simp [hs.trace, hl], ?_, ?_, hI'.high⟩
      · intro y hy
        have hy' : y ∈ s.switches := by rw [e] at hy; rw [← hs.sw]; exact hy
        exact keep j.task _ hP1 (by rw [e]; show s1.trace ++ [_] = _; rw [hs.trace]) y hy'
      · rw [e]; show s1.switches.Pairwise _; rw [hs.sw]; exact hP2
    · refine ⟨by rw [e]; simp [hs.trace, hl], ?_, ?_, hI'.high⟩
      · intro y hy
        rw [e] at hy
        have hy' : y ∈ s.switches ++ [(t : Int) + 1] := by rw [← hs.sw]; exact hy
        rcases List.mem_append.1 hy' with hy' | hy'
        · exact keep j.task _ hP1 (by rw [e]; show s1.trace ++ [_] = _; rw [hs.trace]) y hy'
        · simp at hy'; subst hy'
          refine ⟨by omega, j.task, T, ?_, ht0, hT, hc⟩
          rw [e]; show (s1.trace ++ [j.task])[((t : Int) + 1 - 1).toNat]? = _
          rw [show ((t : Int) + 1 - 1).toNat = s1.trace.length by rw [hs.trace, hl]; omega]
          exact snoc_new _ _
      · rw [e]; show (s1.switches ++ [_]).Pairwise _
        rw [hs.sw, List.pairwise_append]
        refine ⟨hP2, by simp, fun a ha b hb => ?_⟩
        simp at hb; subst hb
        have := h.sw a ha; omega
    · refine ⟨by rw [e]; simp [hs.trace, hl], ?_, ?_, hI'.high⟩
      · intro y hy
        have hy' : y ∈ s.switches := by rw [e] at hy; rw [← hs.sw]; exact hy
        exact keep j.task _ hP1 (by rw [e]; show s1.trace ++ [_] = _; rw [hs.trace]) y hy'
      · rw [e]; show s1.switches.Pairwise _; rw [hs.sw]; exact hP2

/-- Between two switches somebody was done with everything. -/
def IdleP (js : List Jb) (n : Nat) (s : St) : Prop := (s.high = false → ∀ y ∈ s.switches, ∃ t : Nat, y ≤ t ∧ t < n ∧ Free js t s.ended) ∧ ∀ (k : Nat) (y z : Int), s.switches[k]? = some y → s.switches[k + 1]? = some z → ∃ t : Nat, y ≤ t ∧ (t : Int) < z ∧ Free js t s.ended
theorem idleP_all (hok : jobsOk l js = true) (n : Nat) : IdleP js n (ticks l js due x n 0 (st0 js.length)) := by
  refine ticks_all (P := fun n s => IdleP js n s) hok ⟨by simp [st0], by simp [st0]⟩ (fun t s h ⟨hP1, hP2⟩ => ?_) n
  obtain ⟨s1, hs⟩ := tick_s (due := due) (x := x) hok h
  have hem := Em.ended (due := due) (x := x) hok h
  -- ahead of the tick's work
  have h1 : s1.high = false → ∀ y ∈ s.switches, ∃ t' : Nat, y ≤ t' ∧ t' < t + 1 ∧ Free js t' (tick l js due x t s).ended := fun hh y hy => by
    rw [hs.high] at hh
    by_cases hl : s.left = []
    · exact ⟨t, (h.sw y hy).2, by omega, (h.free hok hl (Nat.le_refl _)).em hem⟩
    · rw [low0, if_neg hl] at hh
      obtain ⟨t', a, b, c⟩ := hP1 hh y hy
      exact ⟨t', a, by omega, c.em hem⟩
  have h2 : ∀ (k : Nat) (y z : Int), s.switches[k]? = some y → s.switches[k + 1]? = some z → ∃ t' : Nat, y ≤ t' ∧ (t' : Int) < z ∧ Free js t' (tick l js due x t s).ended := fun k y z hy hz => by
    obtain ⟨t', a, b, c⟩ := hP2 k y z hy hz
    exact ⟨t', a, b, c.em hem⟩
  have fin : (tick l js due x t s).switches = s.switches → (tick l js due x t s).high = s1.high → IdleP js (t + 1) (tick l js due x t s) := fun e1 e2 => ⟨fun hh y hy => by rw [e1] at hy; rw [e2] at hh; exact h1 hh y hy, fun k y z hy hz => by rw [e1] at hy hz; exact h2 k y z hy hz⟩
  by_cases hne : s1.left = []
  · have e : tick l js due x t s = { s1 with trace := s1.trace ++ [-1] } := by rw [hs.eq, work_idle due x _ hne]
    exact fin (by rw [e]; exact hs.sw) (by rw [e])
  · obtain ⟨r, j, T, d, hm, _, hj, hT, _, _, _, hd, he, hA, hd0, hdn, _, _, ht0, _, hR⟩ := work_cases hok hs.inv due x hne
    rw [← hs.eq] at hR
    rcases hR with ⟨_, e⟩ | ⟨_, hlo, hc, _, e⟩ | ⟨_, _, e⟩
    · exact fin (by rw [e]; exact hs.sw) (by rw [e])
    · have e1 : (tick l js due x t s).switches = s.switches ++ [(t : Int) + 1] := by rw [e]; show s1.switches ++ _ = _; rw [hs.sw]
      refine ⟨fun hh => by rw [e] at hh; simp at hh, fun k y z hy hz => ?_⟩
      rw [e1] at hy hz
      rcases get_snoc hz with hz | ⟨hk, rfl⟩
      · have hy' : s.switches[k]? = some y := by
          have hkl := (List.getElem?_eq_some_iff.1 hz).1
          rw [List.getElem?_append_left (by omega)] at hy; exact hy
        exact h2 k y z hy' hz
      · have hy' : s.switches[k]? = some y := by
          rw [List.getElem?_append_left (by omega)] at hy; exact hy
        obtain ⟨t', a, b, c⟩ := h1 hlo y (List.mem_of_getElem? hy')
        exact ⟨t', a, by omega, c⟩
    · exact fin (by rw [e]; exact hs.sw) (by rw [e])
end
end Go.Proofs.YtaadlgpglfpmpaaDoor

/-
  More facts behind the laws of runs: counts, and the first task. No program in sight.
-/

namespace Go.Proofs.YtaadlgpglfpmpaaDoor
open Go.RowKit

/-! ### Counts -/

def cntI (y : Int) : List Int → Nat
  | [] => 0
  | a :: l => (if a = y then 1 else 0) + cntI y l
theorem cntI_snoc (y a : Int) : ∀ l, cntI y (l ++ [a]) = cntI y l + if a = y then 1 else 0
  | [] => by simp [cntI]
  | b :: l => by simp only [List.cons_append, cntI, cntI_snoc y a l]; omega
/-- What is counted for the jobs of task q. -/
def sumD (q : Int) : List Jb → List Int → Int
  | j :: js, d :: ds => (if j.task = q then d else 0) + sumD q js ds
  | _, _ => 0
theorem sumD_set (q : Int) : ∀ (js : List Jb) (ds : List Int) (r : Nat) (j : Jb) (d y : Int), js[r]? = some j → ds[r]? = some d → sumD q js (ds.set r y) = sumD q js ds + if j.task = q then y - d else 0
  | [], _, _, _, _, _, h, _ => by simp at h
  | _ :: _, [], _, _, _, _, _, h => by simp at h
  | j0 :: js, d0 :: ds, 0, j, d, y, hj, hd => by
    simp at hj hd; subst hj hd
    simp only [List.set_cons_zero, sumD]
    split <;> omega
  | j0 :: js, d0 :: ds, r + 1, j, d, y, hj, hd => by
    simp only [List.set_cons_succ, sumD]
    rw [sumD_set q js ds r j d y (by simpa using hj) (by simpa using hd)]
    omega
theorem sumD_zero (q : Int) : ∀ (js : List Jb), sumD q js (List.replicate js.length 0) = 0
  | [] => rfl
  | j :: js => by simp only [List.length_cons, List.replicate_succ, sumD, sumD_zero q js]; split <;> rfl
section
variable {l : List Tk} {js : List Jb} {due : Bool} {x : Fr}
/-- A task's ticks are the work done on its jobs. -/
theorem cnt_all (hok : jobsOk l js = true) (n : Nat) : ∀ q : Int, 0 ≤ q → (cntI q (ticks l js due x n 0 (st0 js.length)).trace : Int) = sumD q js (ticks l js due x n 0 (st0 js.length)).done := by
  refine ticks_all (P := fun n s => ∀ q : Int, 0 ≤ q → (cntI q s.trace : Int) = sumD q js s.done) hok (fun q _ => by simp [st0, cntI, sumD_zero]) (fun t s h hP q hq => ?_) n
  obtain ⟨s1, hs⟩ := tick_s (due := due) (x := x) hok h
  have hq1 := hP q hq
  rcases hs.tr hok with ⟨e, hle⟩ | ⟨r, j, T, d, _, hj, _, h0, e, hA, hd, _, _, _, hR⟩
  · have ed : (tick l js due x t s).done = s.done := by rw [hs.eq, work_idle due x _ hle]; exact hs.done
    rw [e, ed, cntI_snoc, if_neg (by omega), Nat.add_zero]; exact hq1
  · have ed : (tick l js due x t s).done = s.done.set r (d + 1) := by
      rw [← hs.done]
      rcases hR with ⟨_, e⟩ | ⟨_, _, _, _, e⟩ | ⟨_, _, e⟩ <;> rw [e]
    rw [hs.done] at hd
    rw [e, ed, cntI_snoc, sumD_set q js s.done r j d (d + 1) hj hd, ← hq1]
    split <;> omega

/-- The need of a task's jobs that ended. -/
def sumE (q : Int) : List Jb → List Int → Int
  | j :: js, e :: es => (if j.task = q ∧ 0 ≤ e then j.need else 0) + sumE q js es
  | _, _ => 0
theorem sumE_le (q : Int) : ∀ (js : List Jb) (es ds : List Int), es.length = js.length → ds.length = js.length → (∀ (i : Nat) (j : Jb) (e d : Int), js[i]? = some j → es[i]? = some e → ds[i]? = some d → 0 ≤ d ∧ (0 ≤ e → d = j.need)) → sumE q js es ≤ sumD q js ds
  | [], _, _, _, _, _ => by simp [sumE, sumD]
  | j :: js, [], _, h, _, _ => by simp at h
  | j :: js, _ :: _, [], _, h, _ => by simp at h
  | j :: js, e :: es, d :: ds, h1, h2, h => by
    have h0 := h 0 j e d rfl rfl rfl
    have ih := sumE_le q js es ds (by simpa using h1) (by simpa using h2) (fun i j' e' d' a b c => h (i + 1) j' e' d' (by simpa using a) (by simpa using b) (by simpa using c))
    simp only [sumE, sumD]
    by_cases c1 : j.task = q
    · by_cases c2 : 0 ≤ e
      · rw [if_pos ⟨c1, c2⟩, if_pos c1, h0.2 c2]; omega
      · rw [if_neg (by omega), if_pos c1]; omega
    · rw [if_neg (by omega), if_neg c1]; omega
theorem inv_done {t : Nat} {A : Nat → Prop} {s : St} (hok : jobsOk l js = true) (h : Inv l js A t s) : ∀ (i : Nat) (j : Jb) (e d : Int), js[i]? = some j → s.ended[i]? = some e → s.done[i]? = some d → 0 ≤ d ∧ d ≤ j.need ∧ (0 ≤ e → d = j.need) := fun i j e d hj he hd => by
  have hil := (List.getElem?_eq_some_iff.1 hj).1
  obtain ⟨j', T, hj', hT, _, _, _, hn1, _⟩ := job_of hok hil
  rw [hj] at hj'; simp at hj'; subst hj'
  obtain ⟨e', d', he', hd', hst⟩ := h.job i j T hj hT
  rw [he] at he'; simp at he'; subst he'
  rw [hd] at hd'; simp at hd'; subst hd'
  rcases hst with ⟨_, _, h1, h2⟩ | ⟨_, _, h1, h2, h3, _⟩ | ⟨_, _, h1, _, _, h2, h3, _⟩ | ⟨_, _, h1, h2, h3⟩ <;> omega
/-- Work is done. -/
theorem ranE_all (hok : jobsOk l js = true) (n : Nat) (q : Int) (hq : 0 ≤ q) : sumE q js (ticks l js due x n 0 (st0 js.length)).ended ≤ (cntI q (ticks l js due x n 0 (st0 js.length)).trace : Int) := by
  have hI := ticks_inv due x hok n
  rw [cnt_all hok n q hq]
  exact sumE_le q js _ _ hI.elen hI.dlen (fun i j e d a b c => ⟨(inv_done hok hI i j e d a b c).1, (inv_done hok hI i j e d a b c).2.2⟩)
def sumW (q : Int) : List Jb → Int
  | j :: js => (if j.task = q then j.need else 0) + sumW q js
  | [] => 0
theorem sumD_le (q : Int) : ∀ (js : List Jb) (ds : List Int), (∀ (i : Nat) (j : Jb) (d : Int), js[i]? = some j → ds[i]? = some d → d ≤ j.need) → (∀ j ∈ js, 0 ≤ j.need) → sumD q js ds ≤ sumW q js
  | [], _, _, _ => by simp [sumW, sumD]
  | j :: js, [], _, hn => by
    have : 0 ≤ sumW q (j :: js) := by
      have hh : ∀ js : List Jb, (∀ j ∈ js, 0 ≤ j.need) → 0 ≤ sumW q js := by
        intro js
        induction js with
        | nil => intro _; simp [sumW]
        | cons a js ih => intro h; have h1 := ih (fun j hj => h j (by simp [hj])); have h2 := h a (by simp); simp only [sumW]; split <;> omega
      exact hh _ hn
    simpa [sumD] using this
  | j :: js, d :: ds, h, hn => by
    have h0 := h 0 j d rfl rfl
    have ih := sumD_le q js ds (fun i j' d' a c => h (i + 1) j' d' (by simpa using a) (by simpa using c)) (fun j hj => hn j (by simp [hj]))
    simp only [sumD, sumW]
    split <;> omega
theorem ranN_all (hok : jobsOk l js = true) (n : Nat) (q : Int) (hq : 0 ≤ q) : (cntI q (ticks l js due x n 0 (st0 js.length)).trace : Int) ≤ sumW q js := by
  have hI := ticks_inv due x hok n
  rw [cnt_all hok n q hq]
  refine sumD_le q js _ (fun i j d a c => ?_) (fun j hj => ?_)
  · obtain ⟨e, he⟩ : ∃ e, (ticks l js due x n 0 (st0 js.length)).ended[i]? = some e := getSome (by rw [hI.elen]; exact (List.getElem?_eq_some_iff.1 a).1)
    exact (inv_done hok hI i j e d a he c).2.1
  · obtain ⟨i, hi⟩ := List.mem_iff_getElem?.1 hj
    obtain ⟨j', T, hj', _, _, _, _, hn1, _⟩ := job_of hok (List.getElem?_eq_some_iff.1 hi).1
    rw [hi] at hj'; simp at hj'; subst hj'; omega

/-! ### The first task -/

theorem goes_place_task {js : List Jb} {hh : Bool} {a b : Nat} {p q : Jb} (ha : js[a]? = some p) (hb : js[b]? = some q) : (goesB l js false x hh a b = true → p.task ≤ q.task) ∧ (goesB l js false x hh a b = false → q.task ≤ p.task) := by
  have h : goesB l js false x hh a b = if p.task ≠ q.task then decide (p.task < q.task) else decide (p.at_ < q.at_) := by rw [goesB, ha, hb, if_neg (by simp)]
  rw [h]
  constructor
  · intro h1; split at h1 <;> simp at h1 <;> omega
  · intro h1; split at h1 <;> simp at h1 <;> omega
theorem best_task {js : List Jb} {hh : Bool} : ∀ (q : List Nat) (r : Nat), (∀ i ∈ r :: q, ∃ j : Jb, js[i]? = some j) → ∀ i ∈ r :: q, ∀ (a b : Jb), js[bestOf (goesB l js false x hh) r q]? = some a → js[i]? = some b → a.task ≤ b.task
  | [], r, _, i, hi, a, b, ha, hb => by
    simp at hi; subst hi
    rw [bestOf, hb] at ha; simp at ha; subst ha; omega
  | k :: q, r, hj, i, hi, a, b, ha, hb => by
    rw [bestOf] at ha
    obtain ⟨jr, hjr⟩ := hj r (by simp)
    obtain ⟨jk, hjk⟩ := hj k (by simp)
    obtain ⟨g1, g2⟩ := goes_place_task (l := l) (x := x) (hh := hh) hjk hjr
    have ih := best_task (js := js) (hh := hh) q (if goesB l js false x hh k r = true then k else r) (fun i hi => by
      rcases List.mem_cons.1 hi with rfl | hi
      · split
        · exact ⟨jk, hjk⟩
        · exact ⟨jr, hjr⟩
      · exact hj i (by simp [hi]))
    by_cases hg : goesB l js false x hh k r = true
    · rw [if_pos hg] at ih ha
      rcases List.mem_cons.1 hi with rfl | hi
      · rw [hjr] at hb; simp at hb; subst hb
        have h1 := ih k (by simp) a jk ha hjk
        have h2 := g1 hg; omega
      · rcases List.mem_cons.1 hi with rfl | hi
        · exact ih i (by simp) a b ha hb
        · exact ih i (by simp [hi]) a b ha hb
    · rw [if_neg hg] at ih ha
      rcases List.mem_cons.1 hi with rfl | hi
      · exact ih i (by simp) a b ha hb
      · rcases List.mem_cons.1 hi with rfl | hi
        · rw [hjk] at hb; simp at hb; subst hb
          have h1 := ih r (by simp) a jr ha hjr
          have h2 := g2 (by simpa using hg); omega
        · exact ih i (by simp [hi]) a b ha hb
def FirstP (js : List Jb) (n : Nat) (s : St) : Prop := ∀ (i : Nat) (j : Jb), js[i]? = some j → j.task = 0 → (i ∈ s.left → s.done[i]? = some ((n : Int) - j.at_)) ∧ ∀ e, s.ended[i]? = some e → 0 ≤ e → e = j.at_ + j.need
theorem come_done_new {t : Nat} (hok : jobsOk l js = true) {s s1 : St} (hs : TickS l js due x t s s1) {i : Nat} {j : Jb} (hj : js[i]? = some j) (hi : i ∈ s1.left) : (i ∈ s.left) ∨ (j.at_ = t ∧ s1.done[i]? = some 0) := by
  have hil := (List.getElem?_eq_some_iff.1 hj).1
  obtain ⟨j', T, hj', hT, _⟩ := job_of hok hil
  rw [hj] at hj'; simp at hj'; subst hj'
  by_cases hin : i ∈ s.left
  · exact .inl hin
  · obtain ⟨e1, d1, he1, hd1, hst1⟩ := hs.inv.job i j T hj hT
    obtain ⟨e0, d0, he0, hd0, hst0⟩ := hs.inv0.job i j T hj hT
    obtain ⟨e1', he1', hem⟩ := hs.em i e0 he0
    rw [he1] at he1'; simp at he1'; subst he1'
    have hA : Here js (t + 1) i := by
      rcases hst1 with ⟨_, h2, _⟩ | ⟨h1, _⟩ | ⟨_, h2, _⟩ | ⟨_, h2, _⟩
      · exact absurd hi h2
      · exact h1
      · exact absurd hi h2
      · exact absurd hi h2
    have he : e1 = -1 := by
      rcases hst1 with ⟨_, h2, _⟩ | ⟨_, _, h1, _⟩ | ⟨_, h2, _⟩ | ⟨_, h2, _⟩
      · exact absurd hi h2
      · exact h1
      · exact absurd hi h2
      · exact absurd hi h2
    have hnA : ¬ Here js t i := fun hA0 => by
      rcases hst0 with ⟨h1, _⟩ | ⟨_, h2, _⟩ | ⟨_, _, h1, _⟩ | ⟨_, _, h1, h2, _⟩
      · exact h1 hA0
      · exact hin h2
      · omega
      · obtain ⟨_, _, hj2, _, _, h0, _, hn1, _⟩ := job_of hok hil
        rw [hj] at hj2; simp at hj2; subst hj2
        omega
    refine .inr ⟨by unfold Here at hA hnA; rw [at_eq hj] at hA hnA; omega, ?_⟩
    rw [hs.done, hd0]
    rcases hst0 with ⟨_, _, _, rfl⟩ | ⟨h1, _⟩ | ⟨h1, _⟩ | ⟨h1, _⟩
    · rfl
    · exact absurd h1 hnA
    · exact absurd h1 hnA
    · exact absurd h1 hnA
end
end Go.Proofs.YtaadlgpglfpmpaaDoor

/-
  More facts behind the laws of runs: the first task, and the facts as the laws ask for them. No program in sight.
-/

namespace Go.Proofs.YtaadlgpglfpmpaaDoor
open Go.RowKit

theorem cnt_eq (l : List Int) (t : Int) : ∀ m, cntFrom l t m = m + cntI t l := by
  induction l with
  | nil => intro m; simp [cntFrom, cntI]
  | cons x l ih =>
    intro m; simp only [cntFrom, cntI]
    split
    · rename_i h; rw [ih]; omega
    · rename_i h; rw [ih]; omega
section
variable {l : List Tk} {js : List Jb} {x : Fr}
theorem first_in {t : Nat} (hok : jobsOk l js = true) {s s1 : St} (hs : TickS l js false x t s s1) (hP : FirstP js t s) {i : Nat} {j : Jb} (hj : js[i]? = some j) (h0 : j.task = 0) (hi : i ∈ s1.left) : s1.done[i]? = some ((t : Int) - j.at_) := by
  rcases come_done_new hok hs hj hi with h | ⟨h1, h2⟩
  · rw [hs.done]; exact (hP i j hj h0).1 h
  · rw [h2, h1]; simp
theorem first_lt {t : Nat} (hok : jobsOk l js = true) {s s1 : St} (hs : TickS l js false x t s s1) (hP : FirstP js t s) {i k : Nat} {a b : Jb} (ha : js[i]? = some a) (hb : js[k]? = some b) (h0 : a.task = 0) (h1 : b.task = 0) (hi : i ∈ s1.left) (hk : k ∈ s1.left) : ¬ i < k := fun hik => by
  have hd := first_in hok hs hP ha h0 hi
  obtain ⟨j', T, hj', hT, hTo, _, _, hn1, hnh, _⟩ := job_of hok (List.getElem?_eq_some_iff.1 ha).1
  rw [ha] at hj'; simp at hj'; subst hj'
  have hkT := (Tk.ok_iff _).1 hTo
  obtain ⟨e, d, _, hd', hst⟩ := hs.inv.job i a T ha hT
  rw [hd] at hd'; simp at hd'; subst hd'
  obtain ⟨j2, T2, hj2, hT2, _⟩ := job_of hok (List.getElem?_eq_some_iff.1 hb).1
  rw [hb] at hj2; simp at hj2; subst hj2
  obtain ⟨e2, d2, _, hd2, hst2⟩ := hs.inv.job k b T2 hb hT2
  have hA : b.at_ < (t + 1 : Nat) := by
    rcases hst2 with ⟨_, h, _⟩ | ⟨h, _⟩ | ⟨_, h, _⟩ | ⟨_, h, _⟩
    · exact absurd hk h
    · unfold Here at h; rw [at_eq hb] at h; exact h
    · exact absurd hk h
    · exact absurd hk h
  have hdn : (t : Int) - a.at_ < a.need := by
    rcases hst with ⟨_, h, _⟩ | ⟨_, _, _, _, h, _⟩ | ⟨_, h, _⟩ | ⟨_, h, _⟩
    · exact absurd hi h
    · exact h
    · exact absurd hi h
    · exact absurd hi h
  have hap := (jobs_apart hok hik ha hb).2 (by omega)
  have hev : evAt l b = T.every := by
    have : b.task.toNat = a.task.toNat := by omega
    simp only [evAt]; rw [this, hT]
  omega
theorem firstP_all (hok : jobsOk l js = true) (n : Nat) : FirstP js n (ticks l js false x n 0 (st0 js.length)) := by
  refine ticks_all (P := fun n s => FirstP js n s) hok (fun i j hj h0 => ⟨by simp [st0], fun e he h1 => by
    simp only [st0, List.getElem?_replicate] at he
    split at he
    · simp at he; omega
    · simp at he⟩) (fun t s h hP => ?_) n
  obtain ⟨s1, hs⟩ := tick_s (due := false) (x := x) hok h
  -- what ended ahead of the work ended before
  have hend : ∀ (i : Nat) (j : Jb), js[i]? = some j → j.task = 0 → ∀ e, s1.ended[i]? = some e → 0 ≤ e → e = j.at_ + j.need := fun i j hj h0 e he h1 => by
    obtain ⟨j', T, hj', hT, _⟩ := job_of hok (List.getElem?_eq_some_iff.1 hj).1
    rw [hj] at hj'; simp at hj'; subst hj'
    obtain ⟨e0, d0, he0, _, _⟩ := hs.inv0.job i j T hj hT
    obtain ⟨e1, he1, hem⟩ := hs.em i e0 he0
    rw [he] at he1; simp at he1; subst he1
    obtain ⟨e2, d2, he2, _, hst⟩ := hs.inv.job i j T hj hT
    rw [he] at he2; simp at he2; subst he2
    have het : e ≤ t := by rcases hst with ⟨_, _, h, _⟩ | ⟨_, _, h, _⟩ | ⟨_, _, h, _⟩ | ⟨_, _, _, h, _⟩ <;> omega
    rcases hem with rfl | ⟨_, h | h⟩
    · exact (hP i j hj h0).2 e he0 h1
    · omega
    · omega
  by_cases hne : s1.left = []
  · have e : tick l js false x t s = { s1 with trace := s1.trace ++ [-1] } := by rw [hs.eq, work_idle false x _ hne]
    intro i j hj h0
    rw [e]
    exact ⟨fun hi => by dsimp only at hi; rw [hne] at hi; simp at hi, hend i j hj h0⟩
  · obtain ⟨r, jr, T, d, hm, ⟨r0, q, hrq, hbest⟩, hjr, hT, _, hcr, hTo, hd, he, hA, hd0, hdn, _, _, ht0, _, hR⟩ := work_cases hok hs.inv false x hne
    rw [← hs.eq] at hR
    have hall : ∀ i ∈ r0 :: q, ∃ j : Jb, js[i]? = some j := fun i hi => getSome (hs.inv.lt i (by rw [hrq]; exact hi))
    -- a job of the first task that is left runs
    have hrun : ∀ (i : Nat) (j : Jb), js[i]? = some j → j.task = 0 → i ∈ s1.left → i = r := fun i j hj h0 hi => by
      have hb := best_task (l := l) (x := x) (hh := s1.high) q r0 hall i (by rw [← hrq]; exact hi) jr j (by rw [← hbest]; exact hjr) hj
      have hr0 : jr.task = 0 := by omega
      have n1 := first_lt hok hs hP hj hjr h0 hr0 hi hm
      have n2 := first_lt hok hs hP hjr hj hr0 h0 hm hi
      omega
    intro i j hj h0
    have hil := (List.getElem?_eq_some_iff.1 hj).1
    have hdl : r < s1.done.length := (List.getElem?_eq_some_iff.1 hd).1
    by_cases hi : i ∈ s1.left
    · have hir := hrun i j hj h0 hi
      subst hir
      rw [hj] at hjr; simp at hjr; subst hjr
      have hdd := first_in hok hs hP hj h0 hi
      rw [hd] at hdd; simp at hdd; subst hdd
      have hel : i < s1.ended.length := (List.getElem?_eq_some_iff.1 he).1
      rcases hR with ⟨c1, e⟩ | ⟨_, _, hc, _, e⟩ | ⟨_, _, e⟩
      · rw [e]
        refine ⟨fun hi2 => ?_, fun y hy _ => ?_⟩
        · dsimp only at hi2
          have := (List.mem_filter.1 hi2).2
          rw [still_at (set_at hel)] at this
          simp at this; omega
        · dsimp only at hy
          rw [set_at hel] at hy; simp at hy; omega
      · rw [e]
        refine ⟨fun _ => by dsimp only; rw [set_at hdl]; congr 1; omega, fun y hy h1 => ?_⟩
        dsimp only at hy
        rw [dropAll_get hok s1.left s1.ended i hs.inv.elen hil hs.inv.lt, if_neg (by rw [hcr, hc]; simp), he] at hy
        simp at hy; omega
      · rw [e]
        refine ⟨fun _ => by dsimp only; rw [set_at hdl]; congr 1; omega, fun y hy h1 => ?_⟩
        dsimp only at hy
        rw [he] at hy; simp at hy; omega
    · have hir : r ≠ i := fun e => hi (by rw [← e]; exact hm)
      rcases hR with ⟨c1, e⟩ | ⟨_, _, hc, _, e⟩ | ⟨_, _, e⟩
      · rw [e]
        refine ⟨fun hi2 => absurd (List.mem_filter.1 hi2).1 hi, fun y hy h1 => ?_⟩
        dsimp only at hy
        rw [set_oth hir] at hy
        exact hend i j hj h0 y hy h1
      · rw [e]
        refine ⟨fun hi2 => absurd (List.mem_filter.1 hi2).1 hi, fun y hy h1 => ?_⟩
        dsimp only at hy
        rw [dropAll_get hok s1.left s1.ended i hs.inv.elen hil hs.inv.lt, if_neg (fun h => hi h.1)] at hy
        exact hend i j hj h0 y hy h1
      · rw [e]
        exact ⟨fun hi2 => absurd hi2 hi, hend i j hj h0⟩
end

/-! ### As the laws ask -/

section
variable {l : List Tk} {js : List Jb} {P N : Int} {r : Rn}
theorem run_own (h : runJ l js P N = (r, true)) : OwnP js r.trace := by
  obtain ⟨hok, _, _, _, rfl⟩ := runJ_ok h
  exact ownP_all hok _
theorem run_work (h : runJ l js P N = (r, true)) : WorkP js r.trace r.ended := by
  obtain ⟨hok, _, _, _, rfl⟩ := runJ_ok h
  exact workP_all hok _
theorem run_sw (h : runJ l js P N = (r, true)) : (∀ y ∈ r.switches, 1 ≤ y ∧ y ≤ N ∧ ∃ (z : Nat) (T : Tk), r.trace[(y - 1).toNat]? = some (z : Int) ∧ l[z]? = some T ∧ T.crit = true) ∧ (∀ (k : Nat) (y z : Int), r.switches[k]? = some y → r.switches[k + 1]? = some z → y < z) ∧ (r.high = true → 0 < r.switches.length) := by
  obtain ⟨hok, h0, _, _, rfl⟩ := runJ_ok h
  obtain ⟨h1, h2, h3⟩ := swP_all (due := decide (P = 1)) (x := (factor l).1) hok N.toNat
  have hI := ticks_inv (decide (P = 1)) (factor l).1 hok N.toNat
  refine ⟨fun y hy => ?_, fun k y z hy hz => pair_at h2 (Nat.lt_succ_self k) hy hz, fun hh => List.length_pos_iff.2 (h3 hh)⟩
  obtain ⟨a, z, T, b, c, d, e⟩ := h1 y hy
  have := (hI.sw y hy).2
  exact ⟨a, by omega, z.toNat, T, by rw [Int.toNat_of_nonneg c]; exact b, d, e⟩
theorem run_idle (h : runJ l js P N = (r, true)) : ∀ (k : Nat) (y z : Int), r.switches[k]? = some y → r.switches[k + 1]? = some z → ∃ t : Nat, y ≤ t ∧ (t : Int) < z ∧ Free js t r.ended := by
  obtain ⟨hok, _, _, _, rfl⟩ := runJ_ok h
  exact (idleP_all hok _).2
theorem run_first (h : runJ l js 0 N = (r, true)) : ∀ (i : Nat) (j : Jb), js[i]? = some j → j.task = 0 → ∀ e, r.ended[i]? = some e → 0 ≤ e → e = j.at_ + j.need := by
  obtain ⟨hok, _, _, _, rfl⟩ := runJ_ok h
  exact fun i j hj h0 => (firstP_all (x := (factor l).1) hok N.toNat i j hj h0).2
theorem run_ends (h : runJ l js P N = (r, true)) {q : Int} (hq : 0 ≤ q) : sumE q js r.ended ≤ (cntFrom r.trace q 0 : Int) := by
  obtain ⟨hok, _, _, _, rfl⟩ := runJ_ok h
  have := ranE_all (due := decide (P = 1)) (x := (factor l).1) hok N.toNat q hq
  rw [cnt_eq, Nat.zero_add]; exact this
theorem run_need (h : runJ l js P N = (r, true)) {q : Int} (hq : 0 ≤ q) : (cntFrom r.trace q 0 : Int) ≤ sumW q js := by
  obtain ⟨hok, _, _, _, rfl⟩ := runJ_ok h
  have := ranN_all (due := decide (P = 1)) (x := (factor l).1) hok N.toNat q hq
  rw [cnt_eq, Nat.zero_add]; exact this
end
end Go.Proofs.YtaadlgpglfpmpaaDoor

/-
  More facts behind the laws of runs: no jobs, parts, later, ticks, low needs. No program in sight.
-/

namespace Go.Proofs.YtaadlgpglfpmpaaDoor
open Go.RowKit

section
variable {l : List Tk} {js : List Jb} {due : Bool} {x : Fr}

/-! ### Nothing is done for nothing -/

theorem jobs_nil (h : setOk l = true) : jobsOk l [] = true := (jobsOk_iff l []).2 ⟨h, by simp, by simp, List.Pairwise.nil⟩
theorem none_all (h : setOk l = true) (n : Nat) : (ticks l [] due x n 0 (st0 0)).trace = List.replicate n (-1) ∧ (ticks l [] due x n 0 (st0 0)).switches = [] ∧ (ticks l [] due x n 0 (st0 0)).high = false ∧ (ticks l [] due x n 0 (st0 0)).ended = [] := by
  have hok := jobs_nil h
  refine ticks_all (js := []) (P := fun n s => s.trace = List.replicate n (-1) ∧ s.switches = [] ∧ s.high = false ∧ s.ended = []) hok ⟨rfl, rfl, rfl, rfl⟩ (fun t s h ⟨h1, h2, h3, h4⟩ => ?_) n
  obtain ⟨s1, hs⟩ := tick_s (due := due) (x := x) hok h
  have hl : s1.left = [] := by
    cases hq : s1.left with
    | nil => rfl
    | cons a q => have := hs.inv.lt a (by rw [hq]; simp); simp at this
  have hl0 : s.left = [] := by
    cases hq : s.left with
    | nil => rfl
    | cons a q => have := h.lt a (by rw [hq]; simp); simp at this
  have e : tick l [] due x t s = { s1 with trace := s1.trace ++ [-1] } := by rw [hs.eq, work_idle due x _ hl]
  rw [e]
  refine ⟨?_, ?_, ?_, ?_⟩
  · dsimp only; rw [hs.trace, h1, List.replicate_succ']
  · dsimp only; rw [hs.sw, h2]
  · dsimp only; rw [hs.high, low0, if_pos hl0]
  · dsimp only
    have := hs.inv.elen
    exact List.eq_nil_of_length_eq_zero (by simpa using this)

/-! ### Runs go on -/

theorem tick_more (hok : jobsOk l js = true) {t : Nat} {s : St} (h : Inv l js (Here js t) t s) : s.trace <+: (tick l js due x t s).trace ∧ s.switches <+: (tick l js due x t s).switches := by
  obtain ⟨s1, hs⟩ := tick_s (due := due) (x := x) hok h
  by_cases hne : s1.left = []
  · have e : tick l js due x t s = { s1 with trace := s1.trace ++ [-1] } := by rw [hs.eq, work_idle due x _ hne]
    rw [e]
    exact ⟨by dsimp only; rw [hs.trace]; exact List.prefix_append _ _, by dsimp only; rw [hs.sw]; exact List.prefix_refl _⟩
  · obtain ⟨r, j, T, d, _, _, _, _, _, _, _, _, _, _, _, _, _, _, _, _, hR⟩ := work_cases hok hs.inv due x hne
    rw [← hs.eq] at hR
    rcases hR with ⟨_, e⟩ | ⟨_, _, _, _, e⟩ | ⟨_, _, e⟩
    · rw [e]; exact ⟨by dsimp only; rw [hs.trace]; exact List.prefix_append _ _, by dsimp only; rw [hs.sw]; exact List.prefix_refl _⟩
    · rw [e]; exact ⟨by dsimp only; rw [hs.trace]; exact List.prefix_append _ _, by dsimp only; rw [hs.sw]; exact List.prefix_append _ _⟩
    · rw [e]; exact ⟨by dsimp only; rw [hs.trace]; exact List.prefix_append _ _, by dsimp only; rw [hs.sw]; exact List.prefix_refl _⟩
theorem ticks_more (hok : jobsOk l js = true) (a b : Nat) : (ticks l js due x a 0 (st0 js.length)).trace <+: (ticks l js due x (a + b) 0 (st0 js.length)).trace ∧ (ticks l js due x a 0 (st0 js.length)).switches <+: (ticks l js due x (a + b) 0 (st0 js.length)).switches ∧ Em a (ticks l js due x a 0 (st0 js.length)).ended (ticks l js due x (a + b) 0 (st0 js.length)).ended := by
  rw [ticks_split]
  have hI := ticks_inv due x hok a
  obtain ⟨s0, hs0⟩ : ∃ s0, ticks l js due x a 0 (st0 js.length) = s0 := ⟨_, rfl⟩
  rw [hs0] at hI ⊢
  have := (ticks_ind (P := fun t s => s0.trace <+: s.trace ∧ s0.switches <+: s.switches ∧ (a ≤ t) ∧ Em a s0.ended s.ended) (due := due) (x := x) hok (fun t s h ⟨h1, h2, h3, h4⟩ => by
    obtain ⟨k1, k2⟩ := tick_more (due := due) (x := x) hok h
    refine ⟨h1.trans k1, h2.trans k2, by omega, h4.trans (Em.ended hok h) h3⟩) b a s0 hI ⟨List.prefix_refl _, List.prefix_refl _, Nat.le_refl _, Em.refl _ _⟩).2
  rw [Nat.zero_add]
  exact ⟨this.1, this.2.1, this.2.2.2⟩

/-! ### Low needs are low -/

def overP (l : List Tk) (js : List Jb) (d : List Int) (i : Nat) : Bool := match js[i]? with
  | some j => match l[j.task.toNat]? with
    | some t => match d[i]? with
      | some y => decide (t.low < j.need ∧ t.low ≤ y)
      | none => false
    | none => false
  | none => false
def cntB (p : Nat → Bool) : Nat → Nat
  | 0 => 0
  | m + 1 => cntB p m + if p m then 1 else 0
theorem cntB_le {p q : Nat → Bool} : ∀ m, (∀ i, i < m → p i = true → q i = true) → cntB p m ≤ cntB q m
  | 0, _ => Nat.le_refl _
  | m + 1, h => by
    have h1 := cntB_le m (fun i hi => h i (by omega))
    have h2 := h m (by omega)
    simp only [cntB]
    split
    · rename_i hp; rw [if_pos (h2 hp)]; omega
    · omega
theorem cntB_lt {p q : Nat → Bool} : ∀ m r, r < m → p r = false → q r = true → (∀ i, i < m → p i = true → q i = true) → cntB p m + 1 ≤ cntB q m
  | 0, _, h, _, _, _ => by omega
  | m + 1, r, hr, hp, hq, h => by
    simp only [cntB]
    by_cases e : r = m
    · subst e
      have := cntB_le r (fun i hi => h i (by omega))
      rw [hp, hq]; simp; omega
    · have := cntB_lt m r (by omega) hp hq (fun i hi => h i (by omega))
      have h2 := h m (by omega)
      split
      · rename_i hp; rw [if_pos (h2 hp)]; omega
      · omega
theorem over_at {d : List Int} {i : Nat} {j : Jb} {T : Tk} {y : Int} (hj : js[i]? = some j) (hT : l[j.task.toNat]? = some T) (hd : d[i]? = some y) : overP l js d i = decide (T.low < j.need ∧ T.low ≤ y) := by simp [overP, hj, hT, hd]
theorem over_set {d : List Int} {r : Nat} {y y' : Int} (hd : d[r]? = some y) (hy : y ≤ y') : ∀ i, overP l js d i = true → overP l js (d.set r y') i = true := fun i h => by
  by_cases e : r = i
  · subst e
    have hrl := (List.getElem?_eq_some_iff.1 hd).1
    unfold overP at h ⊢
    cases hj : js[r]? with
    | none => rw [hj] at h; simp at h
    | some j =>
      rw [hj] at h
      dsimp only at h ⊢
      cases hT : l[j.task.toNat]? with
      | none => rw [hT] at h; simp at h
      | some T =>
        rw [hT, hd] at h
        rw [set_at hrl]
        simp only [decide_eq_true_eq] at h ⊢
        omega
  · unfold overP at h ⊢
    rw [set_oth e]; exact h
theorem low_all (hok : jobsOk l js = true) (n : Nat) : (ticks l js due x n 0 (st0 js.length)).switches.length ≤ cntB (overP l js (ticks l js due x n 0 (st0 js.length)).done) js.length := by
  refine ticks_all (P := fun n s => s.switches.length ≤ cntB (overP l js s.done) js.length) hok (by simp [st0]) (fun t s h hP => ?_) n
  obtain ⟨s1, hs⟩ := tick_s (due := due) (x := x) hok h
  by_cases hne : s1.left = []
  · have e : tick l js due x t s = { s1 with trace := s1.trace ++ [-1] } := by rw [hs.eq, work_idle due x _ hne]
    rw [e]; dsimp only; rw [hs.sw, hs.done]; exact hP
  · obtain ⟨r, j, T, d, hm, _, hj, hT, _, _, _, hd, _, _, hd0, hdn, _, hlo, _, _, hR⟩ := work_cases hok hs.inv due x hne
    rw [← hs.eq] at hR
    have hrl := hs.inv.lt r hm
    rw [hs.done] at hd
    have hle := cntB_le (p := overP l js s.done) (q := overP l js (s.done.set r (d + 1))) js.length (fun i _ => over_set hd (by omega) i)
    rcases hR with ⟨_, e⟩ | ⟨hn, hlow, hc, hl, e⟩ | ⟨_, _, e⟩
    · rw [e]; dsimp only; rw [hs.sw, hs.done]; omega
    · rw [e]; dsimp only; rw [hs.sw, hs.done]
      have hlt := cntB_lt (p := overP l js s.done) (q := overP l js (s.done.set r (d + 1))) js.length r hrl (by rw [over_at hj hT hd]; simp; intro _; omega) (by rw [over_at hj hT (set_at (List.getElem?_eq_some_iff.1 hd).1)]; simp; omega) (fun i _ => over_set hd (by omega) i)
      simp; omega
    · rw [e]; dsimp only; rw [hs.sw, hs.done]; omega
theorem pick_cnt (p : Nat → Bool) : ∀ m, (pickFrom p m 0).length = cntB p m := by
  have h : ∀ m i, (pickFrom p m i).length + cntB p i = cntB p (i + m) := by
    intro m
    induction m with
    | zero => intro i; simp [pickFrom]
    | succ m ih =>
      intro i
      have := ih (i + 1)
      rw [show i + (m + 1) = i + 1 + m by omega]
      simp only [pickFrom]
      simp only [cntB] at this
      split
      · rename_i hp; rw [if_pos hp] at this; simp; omega
      · rename_i hp; rw [if_neg hp] at this; omega
  intro m
  have := h m 0
  simp [cntB] at this; exact this

/-! ### Ticks are counted -/

def sumC (tr : List Int) : Nat → Nat
  | 0 => 0
  | m + 1 => sumC tr m + cntI (m : Int) tr
theorem sumC_cons (y : Int) (tr : List Int) (hy : 0 ≤ y) : ∀ m : Nat, sumC (y :: tr) m = sumC tr m + if y < m then 1 else 0
  | 0 => by simp [sumC]; omega
  | m + 1 => by
    simp only [sumC, cntI, sumC_cons y tr hy m]
    by_cases h1 : y < (m : Int)
    · rw [if_pos h1, if_neg (by omega), if_pos (by omega)]; omega
    · by_cases h2 : y = (m : Int)
      · rw [if_neg h1, if_pos h2, if_pos (by omega)]; omega
      · rw [if_neg h1, if_neg h2, if_neg (by omega)]; omega
theorem sumC_neg (tr : List Int) : ∀ m : Nat, sumC (-1 :: tr) m = sumC tr m
  | 0 => rfl
  | m + 1 => by simp only [sumC, cntI, sumC_neg tr m]; rw [if_neg (by omega)]; omega
theorem sumC_all : ∀ (tr : List Int) (m : Nat), (∀ y ∈ tr, -1 ≤ y ∧ y < (m : Int)) → sumC tr m + cntI (-1) tr = tr.length
  | [], m, _ => by
    have : ∀ m, sumC [] m = 0 := by intro m; induction m with
      | zero => rfl
      | succ m ih => simp [sumC, cntI, ih]
    simp [this, cntI]
  | y :: tr, m, h => by
    have ih := sumC_all tr m (fun z hz => h z (by simp [hz]))
    have hy := h y (by simp)
    by_cases h1 : y = -1
    · subst h1
      rw [sumC_neg]; simp only [cntI, List.length_cons]; simp; omega
    · rw [sumC_cons y tr (by omega), if_pos (by omega)]
      simp only [cntI, List.length_cons]
      rw [if_neg h1]; omega
end

/-! ### As the laws ask -/

section
variable {l : List Tk} {js : List Jb} {P N : Int} {r : Rn}
theorem runJ_yes' {l : List Tk} {js : List Jb} {pol n : Int} (h : jobsOk l js = true) (h2 : pol = 0 ∨ (pol = 1 ∧ (factor l).2 = true)) (h3 : 0 ≤ n) (h4 : n ≤ 200) : runJ l js pol n = ((ticks l js (decide (pol = 1)) (factor l).1 n.toNat 0 (st0 js.length)).run, true) := by
  rw [runJ, if_pos]
  simp [goB, h, h3, h4]
  rcases h2 with h2 | h2
  · exact .inl h2
  · exact .inr h2
theorem run_none (h : runJ l js P N = (r, true)) : runJ l [] P N = (⟨[], List.replicate N.toNat (-1), [], false⟩, true) := by
  obtain ⟨hok, h0, h2, hp, _⟩ := runJ_ok h
  rw [runJ_yes' (jobs_nil (jobs_set hok)) hp h0 h2]
  obtain ⟨k1, k2, k3, k4⟩ := none_all (due := decide (P = 1)) (x := (factor l).1) (jobs_set hok) N.toNat
  simp [St.run, k1, k2, k3, k4]
theorem cnt_rep (n : Nat) : cntFrom (List.replicate n (-1)) (-1) 0 = n := by
  rw [cnt_eq, Nat.zero_add]
  induction n with
  | zero => rfl
  | succ n ih => simp [List.replicate_succ, cntI, ih]; omega
/-- A shorter run. -/
theorem run_half (h : runJ l js P N = (r, true)) {M : Int} (h0 : 0 ≤ M) (hM : M ≤ N) : ∃ x, runJ l js P M = (x, true) ∧ x.trace <+: r.trace ∧ x.switches <+: r.switches ∧ (x.trace.length : Int) = M ∧ Em M.toNat x.ended r.ended ∧ x.ended.length = r.ended.length := by
  obtain ⟨hok, h1, h2, hp, rfl⟩ := runJ_ok h
  have hx := runJ_yes' hok hp h0 (by omega)
  obtain ⟨k1, k2, k3⟩ := ticks_more (due := decide (P = 1)) (x := (factor l).1) hok M.toNat (N.toNat - M.toNat)
  rw [show M.toNat + (N.toNat - M.toNat) = N.toNat by omega] at k1 k2 k3
  refine ⟨_, hx, k1, k2, run_tlen hx, k3, ?_⟩
  rw [run_elen hx]; exact (run_elen h).symm
theorem run_low (h : runJ l js P N = (r, true)) : r.switches.length ≤ (highs l js).length := by
  obtain ⟨hok, h1, h2, hp, rfl⟩ := runJ_ok h
  have hl := low_all (due := decide (P = 1)) (x := (factor l).1) hok N.toNat
  rw [highs, if_pos hok, pick_cnt]
  refine Nat.le_trans hl (cntB_le _ fun i _ hi => ?_)
  unfold overP at hi
  unfold highP
  cases hj : js[i]? with
  | none => rw [hj] at hi; simp at hi
  | some j =>
    rw [hj] at hi
    dsimp only at hi ⊢
    cases hT : l[j.task.toNat]? with
    | none => rw [hT] at hi; simp at hi
    | some T =>
      rw [hT] at hi
      dsimp only at hi ⊢
      split at hi
      · simp at hi ⊢; exact hi.1
      · simp at hi
theorem run_low0 (h : runJ l js P N = (r, true)) (h0 : r.switches = []) : r.high = false ∧ ∀ e ∈ r.ended, e ≠ -2 := by
  refine ⟨?_, fun e he h2 => ?_⟩
  · cases hh : r.high with
    | false => rfl
    | true => have := (run_sw h).2.2 hh; rw [h0] at this; simp at this
  · subst h2
    obtain ⟨i, hi⟩ := List.mem_iff_getElem?.1 he
    have hil : i < js.length := by rw [← run_elen h]; exact (List.getElem?_eq_some_iff.1 hi).1
    obtain ⟨j, T, hj, hT, _, h3, _, h4, _⟩ := job_of (runJ_ok h).1 hil
    obtain ⟨e, he2, hst⟩ := run_job h hj hT
    rw [hi] at he2; simp at he2; subst he2
    rcases hst with h5 | ⟨_, _, h5⟩ | ⟨h5, _⟩
    · omega
    · exact h5 h0
    · omega
theorem run_sum (h : runJ l js P N = (r, true)) : sumC r.trace l.length + cntI (-1) r.trace = r.trace.length := by
  obtain ⟨hok, h1, h2, hp, rfl⟩ := runJ_ok h
  exact sumC_all _ _ (ticks_inv (decide (P = 1)) (factor l).1 hok N.toNat).tr
/-- Late is late. -/
theorem run_later (h : runJ l js P N = (r, true)) {M : Int} {x : Rn} (h0 : 0 ≤ M) (hM : M ≤ N) (hx : runJ l js P M = (x, true)) {i : Nat} (hi : missP l js x.ended x.trace.length i = true) : r.ended[i]? = some (-2) ∨ missP l js r.ended r.trace.length i = true := by
  obtain ⟨x', hx', _, _, htl, hem, _⟩ := run_half h h0 hM
  rw [hx] at hx'; simp at hx'; subst hx'
  have htr := run_tlen h
  unfold missP at hi ⊢
  cases hj : js[i]? with
  | none => rw [hj] at hi; simp at hi
  | some j =>
    rw [hj] at hi
    dsimp only at hi ⊢
    cases he : x.ended[i]? with
    | none => rw [he] at hi; simp at hi
    | some e =>
      rw [he] at hi
      simp only [decide_eq_true_eq] at hi
      obtain ⟨y, hy, h3⟩ := hem i e he
      rw [hy]
      simp only [decide_eq_true_eq]
      rcases h3 with rfl | ⟨rfl, rfl | h4⟩
      · right; omega
      · exact .inl rfl
      · right
        rcases hi with h5 | ⟨_, h5⟩
        · left; omega
        · left; omega
end
end Go.Proofs.YtaadlgpglfpmpaaDoor
