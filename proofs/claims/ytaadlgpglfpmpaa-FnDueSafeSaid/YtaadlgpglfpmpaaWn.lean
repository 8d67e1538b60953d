/-
  Runs by place, tick by tick: what a tick does to the jobs that are left, and the time in which a job and those ahead of it run. No program in sight.
-/
import Derived.Test.YtaadlgpglfpmpaaGJ
import Derived.Test.YtaadlgpglfpmpaaRsp

namespace Go.Proofs.Ytaadlgpglfpmpaa
open Go.RowKit

/-- The jobs of a task that come from s on, ahead of u. -/
def cntW (q s u : Int) : List Jb → Int
  | [] => 0
  | j :: js => (if j.task = q ∧ s ≤ j.at_ ∧ j.at_ < u then 1 else 0) + cntW q s u js
theorem cntW_nn (q s u : Int) : ∀ js, 0 ≤ cntW q s u js
  | [] => Int.le_refl _
  | j :: js => by have := cntW_nn q s u js; simp only [cntW]; split <;> omega
theorem cntW_later {q s s' u : Int} : ∀ {js : List Jb}, (∀ j ∈ js, j.task = q → s' ≤ j.at_) → cntW q s u js ≤ cntW q s' u js
  | [], _ => Int.le_refl _
  | j :: js, h => by
    have h1 := cntW_later (s := s) (u := u) (js := js) (fun k hk => h k (by simp [hk]))
    have h2 := h j (by simp)
    simp only [cntW]
    by_cases c : j.task = q ∧ s ≤ j.at_ ∧ j.at_ < u
    · rw [if_pos c, if_pos ⟨c.1, h2 c.1, c.2.2⟩]; omega
    · rw [if_neg c]; split <;> omega
theorem cntW_none {q s u : Int} (h : u ≤ s) : ∀ js, cntW q s u js = 0
  | [] => rfl
  | j :: js => by rw [cntW, cntW_none h js, if_neg (by omega)]; rfl
theorem cntW_le {q E : Int} (hE : 1 ≤ E) : ∀ (js : List Jb) (s u : Int), s ≤ u → js.Pairwise (fun a b => a.task = q → b.task = q → E ≤ b.at_ - a.at_) → cntW q s u js ≤ ce (u - s) E
  | [], s, u, h, _ => by simp only [cntW]; exact ce_nn hE (by omega)
  | j :: js, s, u, h, hp => by
    obtain ⟨h1, h2⟩ := List.pairwise_cons.1 hp
    simp only [cntW]
    by_cases c : j.task = q ∧ s ≤ j.at_ ∧ j.at_ < u
    · rw [if_pos c]
      have h3 := cntW_later (q := q) (s := s) (s' := s + E) (u := u) (js := js) (fun k hk hq => by have := h1 k hk c.1 hq; omega)
      by_cases hu : s + E ≤ u
      · have h4 := cntW_le hE js (s + E) u hu h2
        have h5 := ce_more (a := u - s) hE (by omega)
        rw [show u - (s + E) = u - s - E by omega] at h4
        omega
      · rw [cntW_none (q := q) (s := s + E) (u := u) (by omega) js] at h3
        have := ce_pos (a := u - s) hE (by omega)
        omega
    · rw [if_neg c]
      have := cntW_le hE js s u h h2
      omega
/-- What is done between, of a task: no more than cap for each job that came. -/
theorem sumD_win {q s u cap : Int} : ∀ (js : List Jb) (d1 d2 : List Int), d1.length = js.length → d2.length = js.length → (∀ (k : Nat) (j : Jb) (a b : Int), js[k]? = some j → j.task = q → d1[k]? = some a → d2[k]? = some b → b - a ≤ if s ≤ j.at_ ∧ j.at_ < u then cap else 0) → sumD q js d2 - sumD q js d1 ≤ cap * cntW q s u js
  | [], _, _, _, _, _ => by simp [sumD, cntW]
  | j :: js, [], _, h, _, _ => by simp at h
  | j :: js, _ :: _, [], _, h, _ => by simp at h
  | j :: js, a :: d1, b :: d2, h1, h2, h => by
    have ih := sumD_win (q := q) (s := s) (u := u) (cap := cap) js d1 d2 (by simpa using h1) (by simpa using h2) (fun k j' a' b' x y z v => h (k + 1) j' a' b' (by simpa using x) y (by simpa using z) (by simpa using v))
    have h0 := h 0 j a b rfl
    simp only [sumD, cntW]
    by_cases c : j.task = q
    · have h3 := h0 c rfl rfl
      rw [if_pos c, if_pos c]
      by_cases c2 : s ≤ j.at_ ∧ j.at_ < u
      · rw [if_pos c2] at h3
        rw [if_pos ⟨c, c2⟩, Int.mul_add, Int.mul_one]; omega
      · rw [if_neg c2] at h3
        rw [if_neg (fun x => c2 x.2), Int.mul_add, Int.mul_zero]; omega
    · rw [if_neg c, if_neg c, if_neg (fun x => c x.1), Int.mul_add, Int.mul_zero]; omega
/-- What is done of all tasks ahead of m. -/
def sumX (m : Nat) (js : List Jb) (ds : List Int) : Int := match m with
  | 0 => 0
  | m + 1 => sumX m js ds + sumD (m : Int) js ds
theorem sumX_set {js : List Jb} {ds : List Int} {r : Nat} {j : Jb} {d y : Int} (hj : js[r]? = some j) (hd : ds[r]? = some d) (h0 : 0 ≤ j.task) : ∀ m : Nat, sumX m js (ds.set r y) = sumX m js ds + if j.task < m then y - d else 0
  | 0 => by simp only [sumX]; rw [if_neg (by omega)]; rfl
  | m + 1 => by
    simp only [sumX]
    rw [sumX_set hj hd h0 m, sumD_set (m : Int) js ds r j d y hj hd]
    by_cases h1 : j.task < (m : Int)
    · rw [if_pos h1, if_neg (by omega), if_pos (by omega)]; omega
    · by_cases h2 : j.task = (m : Int)
      · rw [if_neg h1, if_pos h2, if_pos (by omega)]; omega
      · rw [if_neg h1, if_neg h2, if_neg (by omega)]; omega
theorem sumX_le {l : List Tk} {js : List Jb} {d1 d2 : List Int} {g : Tk → Int} : ∀ m : Nat, m ≤ l.length → (∀ (q : Nat) (t : Tk), q < m → l[q]? = some t → sumD (q : Int) js d2 - sumD (q : Int) js d1 ≤ g t) → sumX m js d2 - sumX m js d1 ≤ sumG g (l.take m)
  | 0, _, _ => by simp [sumX, sumG]
  | m + 1, hm, h => by
    obtain ⟨t, ht⟩ := getSome (l := l) (k := m) (by omega)
    have h1 := sumX_le m (by omega) (fun q t hq => h q t (by omega))
    have h2 := h m t (by omega) ht
    rw [sumG_snoc g l m t ht]
    simp only [sumX]; omega

/-! ### Ticks -/

section
variable (l : List Tk) (js : List Jb) (due : Bool) (x : Fr)
/-- The state ahead of tick t, and when its jobs have come. -/
def sg (t : Nat) : St := ticks l js due x t 0 (st0 js.length)
def mid (t : Nat) : St := comeFrom l js t js.length 0 (low0 (sg l js due x t))
end
section
variable {l : List Tk} {js : List Jb} {due : Bool} {x : Fr}
theorem sg_succ (t : Nat) : sg l js due x (t + 1) = work l js due x ((t : Int) + 1) (mid l js due x t) := by
  unfold sg
  rw [ticks_split, Nat.zero_add]; rfl
theorem sg_inv (hok : jobsOk l js = true) (t : Nat) : Inv l js (Here js t) t (sg l js due x t) := ticks_inv due x hok t
theorem mid_inv (hok : jobsOk l js = true) (t : Nat) : Inv l js (Here js (t + 1)) t (mid l js due x t) := (sg_inv hok t).comes hok
theorem mid_high (t : Nat) : (mid l js due x t).high = (low0 (sg l js due x t)).high := (come_keep l js t _).2.2.2
theorem mid_done (t : Nat) : (mid l js due x t).done = (sg l js due x t).done := (come_keep l js t _).2.2.1
theorem mid_high_in {t : Nat} (h : (sg l js due x t).left ≠ []) : (mid l js due x t).high = (sg l js due x t).high := by rw [mid_high, low0, if_neg h]
theorem come1_sub (t : Int) (i : Nat) (s : St) : ∀ k ∈ s.left, k ∈ (come1 l js t i s).left := fun k hk => by
  unfold come1
  split
  · exact hk
  · split
    · exact hk
    · simp [hk]
theorem come_sub (t : Int) : ∀ (m i : Nat) (s : St), ∀ k ∈ s.left, k ∈ (comeFrom l js t m i s).left
  | 0, _, _, _, hk => hk
  | m + 1, i, s, k, hk => come_sub t m (i + 1) _ k (come1_sub t i s k hk)
theorem come_new (t : Int) : ∀ (m i : Nat) (s : St), ∀ k ∈ (comeFrom l js t m i s).left, k ∈ s.left ∨ (atOf js k = t ∧ ¬ (s.high = true ∧ critOf l js k = false))
  | 0, _, _, _, hk => .inl hk
  | m + 1, i, s, k, hk => by
    rw [comeFrom] at hk
    have hh := (come1_keep l js t i s).2.2.2
    rcases come_new t m (i + 1) _ k hk with h | h
    · unfold come1 at h
      split at h
      · exact .inl h
      · rename_i h1
        split at h
        · exact .inl h
        · rename_i h2
          rcases List.mem_append.1 h with h | h
          · exact .inl h
          · simp at h; subst h; exact .inr ⟨by simpa using h1, h2⟩
    · rw [hh] at h; exact .inr h
theorem low0_left (s : St) : (low0 s).left = s.left := (low0_keep s).2.2.2.2
theorem mid_sub {t k : Nat} (h : k ∈ (sg l js due x t).left) : k ∈ (mid l js due x t).left := come_sub _ _ _ _ k (by rw [low0_left]; exact h)
theorem mid_new {t k : Nat} (h : k ∈ (mid l js due x t).left) : k ∈ (sg l js due x t).left ∨ (atOf js k = t ∧ ¬ ((mid l js due x t).high = true ∧ critOf l js k = false)) := by
  rcases come_new _ _ _ _ k h with h | h
  · rw [low0_left] at h; exact .inl h
  · rw [mid_high]; exact .inr h
/-- What a tick does. -/
inductive Tick (l : List Tk) (js : List Jb) (due : Bool) (x : Fr) (t : Nat) (s s' : St) : Prop
  | idle (h1 : s.left = []) (h2 : s'.done = s.done) (h3 : s'.high = s.high) (h4 : s'.left = s.left) (h5 : s'.ended = s.ended)
  | run (r : Nat) (j : Jb) (T : Tk) (d : Int) (hm : r ∈ s.left) (hj : js[r]? = some j) (hT : l[j.task.toNat]? = some T) (h0 : 0 ≤ j.task) (hd : s.done[r]? = some d) (hd0 : 0 ≤ d) (hdn : d < j.need) (hlo : T.crit = true → s.high = false → d < T.low) (hd' : s'.done = s.done.set r (d + 1)) (hsub : ∀ k ∈ s'.left, k ∈ s.left) (hhi : s.high = true → s'.high = true) (hnc : s'.high = true → s.high = false → ∀ k ∈ s'.left, critOf l js k = true)
      (hbest : due = false → ∀ k ∈ s.left, ∀ j', js[k]? = some j' → j.task < j'.task ∨ (j.task = j'.task ∧ j.at_ ≤ j'.at_))
      (hkey : due = true → ∀ k ∈ s.left, keyOf l js x s.high r ≤ keyOf l js x s.high k)
      (hend : ∀ k, (s'.ended[k]? = s.ended[k]?) ∨ (k = r ∧ d + 1 = j.need ∧ s'.ended[k]? = some ((t : Int) + 1)) ∨ (k ∈ s.left ∧ critOf l js k = false ∧ s'.ended[k]? = some (-2)))
theorem goes_pl {hh : Bool} {a b : Nat} {p q : Jb} (ha : js[a]? = some p) (hb : js[b]? = some q) : (goesB l js false x hh a b = true → p.task < q.task ∨ (p.task = q.task ∧ p.at_ ≤ q.at_)) ∧ (goesB l js false x hh a b = false → q.task < p.task ∨ (q.task = p.task ∧ q.at_ ≤ p.at_)) := by
  have h : goesB l js false x hh a b = if p.task ≠ q.task then decide (p.task < q.task) else decide (p.at_ < q.at_) := by rw [goesB, ha, hb, if_neg (by simp)]
  rw [h]
  constructor
  · intro h1; split at h1 <;> simp at h1 <;> omega
  · intro h1; split at h1 <;> simp at h1 <;> omega
theorem best_place {hh : Bool} : ∀ (q : List Nat) (r : Nat), (∀ i ∈ r :: q, ∃ j : Jb, js[i]? = some j) → ∀ i ∈ r :: q, ∀ (a b : Jb), js[bestOf (goesB l js false x hh) r q]? = some a → js[i]? = some b → a.task < b.task ∨ (a.task = b.task ∧ a.at_ ≤ b.at_)
  | [], r, _, i, hi, a, b, ha, hb => by
    simp at hi; subst hi
    rw [bestOf, hb] at ha; simp at ha; subst ha; omega
  | k :: q, r, hj, i, hi, a, b, ha, hb => by
    rw [bestOf] at ha
    obtain ⟨jr, hjr⟩ := hj r (by simp)
    obtain ⟨jk, hjk⟩ := hj k (by simp)
    obtain ⟨g1, g2⟩ := goes_pl (l := l) (x := x) (hh := hh) hjk hjr
    have ih := best_place (hh := hh) q (if goesB l js false x hh k r = true then k else r) (fun i hi => by
      rcases List.mem_cons.1 hi with rfl | hi
      · split
        · exact ⟨jk, hjk⟩
        · exact ⟨jr, hjr⟩
      · exact hj i (by simp [hi]))
    by_cases hg : goesB l js false x hh k r = true
    · rw [if_pos hg] at ih ha
      rcases List.mem_cons.1 hi with rfl | hi
      · rw [hjr] at hb; simp at hb; subst hb
        have h1 := ih k (by simp) a jk ha hjk
        have h2 := g1 hg; omega
      · rcases List.mem_cons.1 hi with rfl | hi
        · exact ih i (by simp) a b ha hb
        · exact ih i (by simp [hi]) a b ha hb
    · rw [if_neg hg] at ih ha
      rcases List.mem_cons.1 hi with rfl | hi
      · exact ih i (by simp) a b ha hb
      · rcases List.mem_cons.1 hi with rfl | hi
        · rw [hjk] at hb; simp at hb; subst hb
          have h1 := ih r (by simp) a jr ha hjr
          have h2 := g2 (by simpa using hg); omega
        · exact ih i (by simp [hi]) a b ha hb
theorem best_key {hh : Bool} : ∀ (q : List Nat) (r : Nat), ∀ i ∈ r :: q, keyOf l js x hh (bestOf (goesB l js true x hh) r q) ≤ keyOf l js x hh i
  | [], r, i, hi => by simp at hi; subst hi; exact Int.le_refl _
  | k :: q, r, i, hi => by
    rw [bestOf]
    have ih := best_key (hh := hh) q (if goesB l js true x hh k r = true then k else r)
    have hg : keyOf l js x hh (if goesB l js true x hh k r = true then k else r) ≤ keyOf l js x hh k ∧ keyOf l js x hh (if goesB l js true x hh k r = true then k else r) ≤ keyOf l js x hh r := by
      by_cases e : keyOf l js x hh k = keyOf l js x hh r
      · split <;> omega
      · have : goesB l js true x hh k r = decide (keyOf l js x hh k < keyOf l js x hh r) := by rw [goesB, if_pos ⟨rfl, e⟩]
        rw [this]
        split
        · rename_i h; simp at h; omega
        · rename_i h; simp at h; omega
    have h0 := ih _ (List.mem_cons_self ..)
    rcases List.mem_cons.1 hi with rfl | hi
    · omega
    · rcases List.mem_cons.1 hi with rfl | hi
      · omega
      · exact ih i (by simp [hi])
theorem sg_tick (hok : jobsOk l js = true) (t : Nat) : Tick l js due x t (mid l js due x t) (sg l js due x (t + 1)) := by
  have hI := mid_inv (due := due) (x := x) hok t
  rw [sg_succ]
  generalize mid l js due x t = s1 at *
  by_cases hne : s1.left = []
  · rw [work_idle due x _ hne]
    exact .idle hne rfl rfl rfl rfl
  · obtain ⟨r, j, T, d, hm, ⟨r0, q, hrq, hbest⟩, hj, hT, _, hcr, hTo, hd, he, hA, hd0, hdn, _, hlo, ht0, _, hR⟩ := work_cases hok hI due x hne
    have hall : ∀ i ∈ r0 :: q, ∃ j : Jb, js[i]? = some j := fun i hi => getSome (hI.lt i (by rw [hrq]; exact hi))
    have hb : due = false → ∀ k ∈ s1.left, ∀ j', js[k]? = some j' → j.task < j'.task ∨ (j.task = j'.task ∧ j.at_ ≤ j'.at_) := fun hdu k hk j' hj' => by
      subst hdu
      exact best_place (l := l) (x := x) (hh := s1.high) q r0 hall k (by rw [← hrq]; exact hk) j j' (by rw [← hbest]; exact hj) hj'
    have hky : due = true → ∀ k ∈ s1.left, keyOf l js x s1.high r ≤ keyOf l js x s1.high k := fun hdu k hk => by
      subst hdu
      rw [hbest]
      exact best_key (l := l) (js := js) (x := x) (hh := s1.high) q r0 k (by rw [← hrq]; exact hk)
    have hrl := (List.getElem?_eq_some_iff.1 he).1
    rcases hR with ⟨c1, e⟩ | ⟨_, hlow, _, _, e⟩ | ⟨_, _, e⟩
    · rw [e]
      exact .run r j T d hm hj hT ht0 hd hd0 hdn hlo rfl (fun k hk => (List.mem_filter.1 hk).1) (fun h => h) (fun h1 h2 => by rw [h2] at h1; simp at h1) hb hky (fun k => by
        by_cases hk : r = k
        · subst hk; exact .inr (.inl ⟨rfl, c1, set_at hrl⟩)
        · exact .inl (set_oth hk))
    · rw [e]
      exact .run r j T d hm hj hT ht0 hd hd0 hdn hlo rfl (fun k hk => (List.mem_filter.1 hk).1) (fun _ => rfl) (fun _ _ k hk => (List.mem_filter.1 hk).2) hb hky (fun k => by
        dsimp only
        by_cases hkl : k < js.length
        · rw [dropAll_get hok s1.left s1.ended k hI.elen hkl hI.lt]
          by_cases c : k ∈ s1.left ∧ critOf l js k = false
          · rw [if_pos c]; exact .inr (.inr ⟨c.1, c.2, rfl⟩)
          · rw [if_neg c]; exact .inl rfl
        · have h1 : (dropAll l js s1.left s1.ended)[k]? = none := List.getElem?_eq_none (by rw [dropAll_len, hI.elen]; omega)
          have h2 : s1.ended[k]? = none := List.getElem?_eq_none (by rw [hI.elen]; omega)
          exact .inl (h1.trans h2.symm))
    · rw [e]
      exact .run r j T d hm hj hT ht0 hd hd0 hdn hlo rfl (fun _ hk => hk) (fun h => h) (fun h1 h2 => by dsimp only at h1; rw [h2] at h1; simp at h1) hb hky (fun k => .inl rfl)
theorem sg_sub (hok : jobsOk l js = true) {t k : Nat} (h : k ∈ (sg l js due x (t + 1)).left) : k ∈ (mid l js due x t).left := by
  rcases sg_tick (due := due) (x := x) hok t with ⟨_, _, _, h4, _⟩ | ⟨r, j, T, d, hm, hj, hT, h0, hd, hd0, hdn, hlo, hd', hsub, _⟩
  · rw [h4] at h; exact h
  · exact hsub k h
theorem sg_high (hok : jobsOk l js = true) {t : Nat} (h : (mid l js due x t).high = true) : (sg l js due x (t + 1)).high = true := by
  rcases sg_tick (due := due) (x := x) hok t with ⟨_, _, h3, _⟩ | ⟨r, j, T, d, hm, hj, hT, h0, hd, hd0, hdn, hlo, hd', hsub, hhi, _⟩
  · rw [h3]; exact h
  · exact hhi h
/-- A job that is left is one that has come. -/
theorem in_left (hok : jobsOk l js = true) {A : Nat → Prop} {t : Nat} {s : St} (hI : Inv l js A t s) {k : Nat} (h : k ∈ s.left) : ∃ j T d, js[k]? = some j ∧ l[j.task.toNat]? = some T ∧ T.ok = true ∧ 0 ≤ j.task ∧ j.task < l.length ∧ critOf l js k = T.crit ∧ j.need ≤ T.high ∧ A k ∧ s.done[k]? = some d ∧ s.ended[k]? = some (-1) ∧ 0 ≤ d ∧ d < j.need ∧ (T.crit = true → s.high = false → d < T.low) := by
  obtain ⟨j, T, hj, hT, hTo, _, _, _, hnh, ht0, htl, hcr, _⟩ := job_of hok (hI.lt k h)
  obtain ⟨e, d, he, hd, hst⟩ := hI.job k j T hj hT
  rcases hst with ⟨_, h2, _⟩ | ⟨h1, _, rfl, h4, h5, h6, h7⟩ | ⟨_, h2, _⟩ | ⟨_, h2, _⟩
  · exact absurd h h2
  · exact ⟨j, T, d, hj, hT, hTo, ht0, htl, hcr, hnh, h1, hd, he, h4, h5, h7⟩
  · exact absurd h h2
  · exact absurd h h2
/-- Jobs that are not critical are left while needs are low only. -/
theorem nc_all (hok : jobsOk l js = true) : ∀ t : Nat, ∀ k ∈ (sg l js due x t).left, critOf l js k = false → (sg l js due x t).high = false
  | 0, k, hk, _ => by simp [sg, ticks, st0] at hk
  | t + 1, k, hk, hc => by
    have hmid : ∀ k ∈ (mid l js due x t).left, critOf l js k = false → (mid l js due x t).high = false := fun k hk hc => by
      rcases mid_new hk with h | ⟨_, h⟩
      · rw [mid_high_in (fun e => by rw [e] at h; simp at h)]; exact nc_all hok t k h hc
      · cases hh : (mid l js due x t).high with
        | false => rfl
        | true => exact absurd ⟨hh, hc⟩ h
    have hm := hmid k (sg_sub hok hk) hc
    rcases sg_tick (due := due) (x := x) hok t with ⟨_, _, h3, _⟩ | ⟨r, j, T, d, _, hj, hT, h0, hd, hd0, hdn, hlo, hd', hsub, hhi, hnc, _⟩
    · rw [h3]; exact hm
    · cases hh : (sg l js due x (t + 1)).high with
      | false => rfl
      | true => rw [hnc hh hm k hk] at hc; simp at hc
theorem nc_mid (hok : jobsOk l js = true) {t k : Nat} (hk : k ∈ (mid l js due x t).left) (hc : critOf l js k = false) : (mid l js due x t).high = false := by
  rcases mid_new hk with h | ⟨_, h⟩
  · rw [mid_high_in (fun e => by rw [e] at h; simp at h)]; exact nc_all hok t k h hc
  · cases hh : (mid l js due x t).high with
    | false => rfl
    | true => exact absurd ⟨hh, hc⟩ h
/-- A job that is left has been left since it came. -/
theorem back_mid (hok : jobsOk l js = true) {k : Nat} : ∀ (t : Nat), k ∈ (sg l js due x t).left → ∀ τ, τ < t → atOf js k ≤ τ → k ∈ (mid l js due x τ).left
  | 0, _, τ, h, _ => by omega
  | t + 1, hk, τ, h, ha => by
    have hm := sg_sub hok hk
    by_cases e : τ = t
    · subst e; exact hm
    · rcases mid_new hm with h1 | ⟨h1, _⟩
      · exact back_mid hok t h1 τ (by omega) ha
      · omega
theorem back_sg (hok : jobsOk l js = true) {k : Nat} {t : Nat} (hk : k ∈ (sg l js due x t).left) {τ : Nat} (hτ : τ ≤ t) (ha : atOf js k < τ) : k ∈ (sg l js due x τ).left := by
  by_cases e : τ = t
  · subst e; exact hk
  · rcases mid_new (back_mid hok t hk τ (by omega) (by omega)) with h | ⟨h, _⟩
    · exact h
    · omega
/-- What is done of a job that does not run. -/
theorem done_keep (hok : jobsOk l js = true) {k a : Nat} : ∀ (b : Nat), a ≤ b → (∀ τ, a ≤ τ → τ < b → k ∉ (mid l js due x τ).left) → (sg l js due x b).done[k]? = (sg l js due x a).done[k]?
  | 0, h, _ => by rw [show a = 0 by omega]
  | b + 1, h, hn => by
    by_cases e : a = b + 1
    · rw [e]
    · have ih := done_keep hok b (by omega) (fun τ h1 h2 => hn τ h1 (by omega))
      have hb := hn b (by omega) (by omega)
      rw [← ih, ← mid_done b]
      rcases sg_tick (due := due) (x := x) hok b with ⟨_, h2, _⟩ | ⟨r, j, T, d, hm, hj, hT, h0, hd, hd0, hdn, hlo, hd', _⟩
      · rw [h2]
      · rw [hd', set_oth (fun e => hb (by rw [← e]; exact hm))]
theorem done_new (hok : jobsOk l js = true) {t k : Nat} {j : Jb} (hj : js[k]? = some j) (h : (t : Int) ≤ j.at_) : (sg l js due x t).done[k]? = some 0 := by
  obtain ⟨j', T, hj', hT, _⟩ := job_of hok (List.getElem?_eq_some_iff.1 hj).1
  rw [hj] at hj'; simp at hj'; subst hj'
  obtain ⟨e, d, he, hd, hst⟩ := (sg_inv (due := due) (x := x) hok t).job k j T hj hT
  have hnA : ¬ Here js t k := by unfold Here; rw [at_eq hj]; omega
  rcases hst with ⟨_, _, _, rfl⟩ | ⟨h1, _⟩ | ⟨h1, _⟩ | ⟨h1, _⟩
  · exact hd
  · exact absurd h1 hnA
  · exact absurd h1 hnA
  · exact absurd h1 hnA
/-- Of a job that came and is not left nothing more is done. -/
theorem gone_keep (hok : jobsOk l js = true) {k s : Nat} (hk : k ∉ (sg l js due x s).left) (ha : atOf js k < s) : ∀ (b : Nat), s ≤ b → k ∉ (sg l js due x b).left
  | 0, h => by rw [show 0 = s by omega]; exact hk
  | b + 1, h => by
    by_cases e : s = b + 1
    · rw [← e]; exact hk
    · have ih := gone_keep hok hk ha b (by omega)
      intro h1
      rcases mid_new (sg_sub hok h1) with h2 | ⟨h2, _⟩
      · exact ih h2
      · omega
theorem gone_done (hok : jobsOk l js = true) {k s : Nat} (hk : k ∉ (sg l js due x s).left) (ha : atOf js k < s) {b : Nat} (hb : s ≤ b) : (sg l js due x b).done[k]? = (sg l js due x s).done[k]? :=
  done_keep hok b hb fun τ h1 h2 h3 => by
    rcases mid_new h3 with h4 | ⟨h4, _⟩
    · exact gone_keep hok hk ha τ h1 h4
    · omega
/-- While needs are low no job runs longer than its low need. -/
theorem low_cap (hok : jobsOk l js = true) {k s : Nat} {j : Jb} {T : Tk} (hj : js[k]? = some j) (hT : l[j.task.toNat]? = some T) (ha : (s : Int) ≤ j.at_) : ∀ (u : Nat), s ≤ u → (∀ τ, s ≤ τ → τ < u → (mid l js due x τ).high = false) → ∀ d, (sg l js due x u).done[k]? = some d → d ≤ T.low
  | 0, h, _, d, hd => by
    rw [done_new hok hj (by omega)] at hd; simp at hd
    obtain ⟨j', T', hj', hT', hTo, _⟩ := job_of hok (List.getElem?_eq_some_iff.1 hj).1
    rw [hj] at hj'; simp at hj'; subst hj'
    rw [hT] at hT'; simp at hT'; subst hT'
    have := (Tk.ok_iff _).1 hTo; omega
  | u + 1, h, hlow, d, hd => by
    obtain ⟨j', T', hj', hT', hTo, _, _, _, hnh, _⟩ := job_of hok (List.getElem?_eq_some_iff.1 hj).1
    rw [hj] at hj'; simp at hj'; subst hj'
    rw [hT] at hT'; simp at hT'; subst hT'
    have hkT := (Tk.ok_iff _).1 hTo
    by_cases e : s = u + 1
    · rw [done_new hok hj (by omega)] at hd; simp at hd; omega
    · have ih := low_cap hok hj hT ha u (by omega) (fun τ h1 h2 => hlow τ h1 (by omega))
      have hl := hlow u (by omega) (by omega)
      rcases sg_tick (due := due) (x := x) hok u with ⟨_, h2, _⟩ | ⟨r, jr, Tr, dr, hm, hjr, hTr, h0, hdr, hd0, hdn, hlo, hd', _⟩
      · rw [h2, mid_done] at hd; exact ih d hd
      · rw [hd', mid_done] at hd
        rw [mid_done] at hdr
        by_cases hk : r = k
        · subst hk
          rw [hj] at hjr; simp at hjr; subst hjr
          rw [hT] at hTr; simp at hTr; subst hTr
          rw [set_at (List.getElem?_eq_some_iff.1 hdr).1] at hd
          simp at hd; subst hd
          cases hc : T.crit with
          | true => have := hlo hc hl; omega
          | false => rcases hkT.2.2.2.2.2 with h | h
                     · rw [hc] at h; simp at h
                     · omega
        · rw [set_oth hk] at hd; exact ih d hd
end
end Go.Proofs.Ytaadlgpglfpmpaa
