/-
  Responses, said plainly: the least number that a function gives back; the bounds of tasks; tasks that hold. No program in sight.
-/
import Derived.Test.YtaadlgpglfpmpaaPlD
namespace Go.Proofs.Ytaadlgpglfpmpaa
open Go.RowKit

def sumG (g : Tk → Int) : List Tk → Int
  | [] => 0
  | t :: l => g t + sumG g l
theorem sumG_snoc (g : Tk → Int) : ∀ (l : List Tk) (k : Nat) (t : Tk), l[k]? = some t → sumG g (l.take (k + 1)) = sumG g (l.take k) + g t
  | [], _, _, h => by simp at h
  | y :: l, 0, t, h => by simp at h; subst h; simp [sumG]
  | y :: l, k + 1, t, h => by
    have := sumG_snoc g l k t (by simpa using h)
    simp only [List.take_succ_cons, sumG]; omega
theorem sumG_le {f g : Tk → Int} : ∀ {l : List Tk}, (∀ t ∈ l, f t ≤ g t) → sumG f l ≤ sumG g l
  | [], _ => Int.le_refl _
  | t :: l, h => by
    have h1 := h t (by simp)
    have h2 := sumG_le (l := l) (fun u hu => h u (by simp [hu]))
    simp only [sumG]; omega
theorem sumG_nn {g : Tk → Int} : ∀ {l : List Tk}, (∀ t ∈ l, 0 ≤ g t) → 0 ≤ sumG g l
  | [], _ => Int.le_refl _
  | t :: l, h => by
    have h1 := h t (by simp)
    have h2 := sumG_nn (l := l) (fun u hu => h u (by simp [hu]))
    simp only [sumG]; omega
theorem ce_mono {a b e : Int} (he : 1 ≤ e) (h0 : 0 ≤ a) (h : a ≤ b) : ce a e ≤ ce b e := by
  unfold ce
  rw [Int.tdiv_eq_ediv_of_nonneg (by omega), Int.tdiv_eq_ediv_of_nonneg (by omega)]
  exact Int.ediv_le_ediv (by omega) (by omega)
theorem ce_nn {a e : Int} (he : 1 ≤ e) (h0 : 0 ≤ a) : 0 ≤ ce a e := by
  unfold ce
  rw [Int.tdiv_eq_ediv_of_nonneg (by omega)]
  exact Int.ediv_nonneg (by omega) (by omega)
theorem ce_more {a e : Int} (he : 1 ≤ e) (h : e ≤ a) : ce (a - e) e + 1 = ce a e := by
  unfold ce
  rw [Int.tdiv_eq_ediv_of_nonneg (by omega), Int.tdiv_eq_ediv_of_nonneg (by omega), show a + e - 1 = (a - e + e - 1) + e by omega, Int.add_ediv_of_dvd_right (Int.dvd_refl e), Int.ediv_self (by omega)]
theorem ce_pos {a e : Int} (he : 1 ≤ e) (h : 1 ≤ a) : 1 ≤ ce a e := by
  unfold ce
  rw [Int.tdiv_eq_ediv_of_nonneg (by omega)]
  exact (Int.le_ediv_iff_mul_le (by omega)).2 (by omega)
theorem ce_le {a e : Int} (he : 1 ≤ e) (h : 0 ≤ a) : ce a e ≤ a := by
  obtain ⟨n, rfl⟩ : ∃ n : Nat, a = n := ⟨a.toNat, by omega⟩
  exact (ce_bd n he).2
theorem dem_mono {t : Tk} (ht : t.ok = true) {a b : Int} (h0 : 0 ≤ a) (h : a ≤ b) (hi : Bool) : dem t a hi ≤ dem t b hi := by
  have hk := (Tk.ok_iff _).1 ht
  exact Int.mul_le_mul_of_nonneg_right (ce_mono (by omega) h0 h) (by unfold selW; split <;> omega)
theorem dem_nn {t : Tk} (ht : t.ok = true) {a : Int} (h0 : 0 ≤ a) (hi : Bool) : 0 ≤ dem t a hi := by
  have hk := (Tk.ok_iff _).1 ht
  exact Int.mul_nonneg (ce_nn (by omega) h0) (by unfold selW; split <;> omega)
/-- A demand is small. -/
theorem dem_le {t : Tk} (ht : t.ok = true) {a : Int} (h0 : 0 ≤ a) (hi : Bool) : dem t a hi ≤ a * 20 := by
  have hk := (Tk.ok_iff _).1 ht
  have h1 := ce_le (a := a) (e := t.every) (by omega) h0
  have h2 := ce_nn (a := a) (e := t.every) (by omega) h0
  refine Int.le_trans (Int.mul_le_mul_of_nonneg_right h1 (by unfold selW; split <;> omega)) (Int.mul_le_mul_of_nonneg_left (by unfold selW; split <;> omega) h0)

/-- The least number from w on that f gives back, of m numbers. -/
def fixF (f : Int → Int) : Nat → Int → Option Int
  | 0, _ => none
  | m + 1, w => if f w = w then some w else fixF f m (w + 1)
theorem fixF_some {f : Int → Int} : ∀ {m : Nat} {w n : Int}, fixF f m w = some n → f n = n ∧ w ≤ n ∧ n < w + m
  | 0, _, _, h => by simp [fixF] at h
  | m + 1, w, n, h => by
    rw [fixF] at h
    split at h
    · rename_i he; simp at h; subst h; omega
    · have := fixF_some h; omega
theorem fixF_none {f : Int → Int} : ∀ {m : Nat} {w : Int}, fixF f m w = none → ∀ v, w ≤ v → v < w + m → f v ≠ v
  | 0, _, _, v, h1, h2 => by omega
  | m + 1, w, h, v, h1, h2 => by
    rw [fixF] at h
    split at h
    · simp at h
    · rename_i he
      by_cases e : v = w
      · subst e; exact he
      · exact fixF_none h v (by omega) (by omega)
theorem fixF_least {f : Int → Int} : ∀ {m : Nat} {w n : Int}, fixF f m w = some n → ∀ v, w ≤ v → v < n → f v ≠ v
  | 0, _, _, h => by simp [fixF] at h
  | m + 1, w, n, h => by
    rw [fixF] at h
    intro v h1 h2
    split at h
    · simp at h; omega
    · rename_i he
      by_cases e : v = w
      · subst e; exact he
      · exact fixF_least h v (by omega) h2
theorem fixF_skip {f : Int → Int} : ∀ (d m : Nat) (w : Int), (∀ v, w ≤ v → v < w + d → f v ≠ v) → fixF f (d + m) w = fixF f m (w + d)
  | 0, m, w, _ => by simp
  | d + 1, m, w, h => by
    rw [show d + 1 + m = (d + m) + 1 by omega, fixF, if_neg (h w (by omega) (by omega)), fixF_skip d m (w + 1) (fun v h1 h2 => h v (by omega) (by omega))]
    rw [show w + 1 + (d : Int) = w + ((d + 1 : Nat) : Int) by omega]
theorem fixF_no {f : Int → Int} {m : Nat} {w : Int} (h : ∀ v, w ≤ v → v < w + m → f v ≠ v) : fixF f m w = none := by
  have := fixF_skip m 0 w h
  simpa [fixF] using this
/-- f does not fall. -/
def Mono (f : Int → Int) : Prop := ∀ a b : Int, 0 ≤ a → a ≤ b → f a ≤ f b
/-- A number that is not below what f makes of it: then there is one that f gives back. -/
theorem fix_below {f : Int → Int} (hf : Mono f) {w : Int} (hw0 : 0 ≤ w) (hw : w ≤ f w) : ∀ (n : Nat) (v : Int), v = w + n → f v ≤ v → ∃ u, w ≤ u ∧ u ≤ v ∧ f u = u := by
  intro n
  induction n using Nat.strongRecOn with
  | ind n ih =>
  intro v hv h
  by_cases e : f v = v
  · exact ⟨v, by omega, Int.le_refl _, e⟩
  · have h1 := hf w v hw0 (by omega)
    have h2 := hf (f v) v (by omega) h
    obtain ⟨u, a, b, c⟩ := ih (f v - w).toNat (by omega) (f v) (by omega) h2
    exact ⟨u, a, by omega, c⟩
/-- Found, and no greater than a number that is not below what f makes of it. -/
theorem fixF_found {f : Int → Int} (hf : Mono f) {w : Int} (hw0 : 0 ≤ w) (hw : w ≤ f w) {m : Nat} {v : Int} (h1 : w ≤ v) (h2 : v < w + m) (h : f v ≤ v) : ∃ n, fixF f m w = some n ∧ n ≤ v := by
  obtain ⟨u, a, b, c⟩ := fix_below hf hw0 hw (v - w).toNat v (by omega) h
  cases hx : fixF f m w with
  | none => exact absurd c (fixF_none hx u a (by omega))
  | some n =>
    refine ⟨n, rfl, ?_⟩
    rcases Int.lt_or_le u n with h3 | h3
    · exact absurd c (fixF_least hx u a h3)
    · omega
/-- A step of the program's loop. -/
theorem fixF_step {f : Int → Int} (hf : Mono f) {most w : Int} (hw0 : 0 ≤ w) (hm : w ≤ most) (hw : w ≤ f w) (_hne : f w ≠ w) : fixF f (most + 1 - w).toNat w = fixF f (most + 1 - f w).toNat (f w) := by
  have hno : ∀ v, w ≤ v → v < f w → f v ≠ v := fun v h1 h2 e => by have := hf w v hw0 h1; omega
  by_cases h : f w ≤ most + 1
  · have := fixF_skip (f := f) (f w - w).toNat (most + 1 - f w).toNat w (fun v h1 h2 => hno v h1 (by omega))
    rw [show (f w - w).toNat + (most + 1 - f w).toNat = (most + 1 - w).toNat by omega, show w + ((f w - w).toNat : Int) = f w by omega] at this
    exact this
  · rw [show (most + 1 - f w).toNat = 0 by omega]
    rw [fixF_no (fun v h1 h2 => hno v h1 (by omega))]; rfl

/-! ### Responses -/

def lowF (T : Tk) (p : List Tk) (w : Int) : Int := T.low + sumG (fun q => dem q w false) p
def swF (T : Tk) (n : Int) (p : List Tk) (w : Int) : Int := T.high + sumG (fun q => if q.crit = true then dem q w true else dem q n false) p
theorem lowF_mono {T : Tk} {p : List Tk} (hp : ∀ t ∈ p, t.ok = true) : Mono (lowF T p) := fun a b h0 h => by
  have := sumG_le (l := p) (f := fun q => dem q a false) (g := fun q => dem q b false) (fun t ht => dem_mono (hp t ht) h0 h false)
  unfold lowF; omega
theorem lowF_up {T : Tk} {p : List Tk} (hp : ∀ t ∈ p, t.ok = true) {w : Int} (h0 : 0 ≤ w) : T.low ≤ lowF T p w := by
  have := sumG_nn (l := p) (g := fun q => dem q w false) (fun t ht => dem_nn (hp t ht) h0 false)
  unfold lowF; omega
theorem swF_mono {T : Tk} {n : Int} {p : List Tk} (hp : ∀ t ∈ p, t.ok = true) : Mono (swF T n p) := fun a b h0 h => by
  have := sumG_le (l := p) (f := fun q => if q.crit = true then dem q a true else dem q n false) (g := fun q => if q.crit = true then dem q b true else dem q n false) (fun t ht => by
    (try dsimp only)
    split
    · exact dem_mono (hp t ht) h0 h true
    · exact Int.le_refl _)
  unfold swF; omega
theorem swF_up {T : Tk} {n : Int} (hn : 0 ≤ n) {p : List Tk} (hp : ∀ t ∈ p, t.ok = true) {w : Int} (h0 : 0 ≤ w) : T.high ≤ swF T n p w := by
  have := sumG_nn (l := p) (g := fun q => if q.crit = true then dem q w true else dem q n false) (fun t ht => by
    (try dsimp only)
    split
    · exact dem_nn (hp t ht) h0 true
    · exact dem_nn (hp t ht) hn false)
  unfold swF; omega
/-- The bound of a task's responses with low needs. -/
def respL (l : List Tk) (i : Nat) : Option Int := match l[i]? with
  | some T => if setOk l = true then fixF (lowF T (l.take i)) (T.due + 1 - T.low).toNat T.low else none
  | none => none
/-- The bound at the switch. -/
def respS (l : List Tk) (i : Nat) : Option Int := match l[i]?, respL l i with
  | some T, some n => if T.crit = true then fixF (swF T n (l.take i)) (T.due + 1 - T.high).toNat T.high else none
  | _, _ => none
def holdsAt (l : List Tk) (i : Nat) : Bool := match l[i]? with
  | some T => if T.crit = true then (respS l i).isSome else (respL l i).isSome
  | none => false
def holdsFrom (l : List Tk) : Nat → Nat → Bool
  | 0, _ => true
  | m + 1, i => holdsAt l i && holdsFrom l m (i + 1)
def holdsBothB (l : List Tk) : Bool := setOk l && holdsFrom l l.length 0
def lowFrom (l : List Tk) : Nat → Nat → Bool
  | 0, _ => true
  | m + 1, i => (respL l i).isSome && lowFrom l m (i + 1)
def holdsLowB (l : List Tk) : Bool := setOk l && lowFrom l l.length 0
theorem holdsFrom_at {l : List Tk} : ∀ {m i : Nat}, holdsFrom l m i = true → ∀ k, i ≤ k → k < i + m → holdsAt l k = true
  | 0, _, _, k, h1, h2 => by omega
  | m + 1, i, h, k, h1, h2 => by
    simp only [holdsFrom, Bool.and_eq_true] at h
    by_cases e : k = i
    · subst e; exact h.1
    · exact holdsFrom_at h.2 k (by omega) (by omega)
theorem holdsFrom_mk {l : List Tk} : ∀ {m i : Nat}, (∀ k, i ≤ k → k < i + m → holdsAt l k = true) → holdsFrom l m i = true
  | 0, _, _ => rfl
  | m + 1, i, h => by
    simp only [holdsFrom, Bool.and_eq_true]
    exact ⟨h i (Nat.le_refl _) (by omega), holdsFrom_mk fun k h1 h2 => h k (by omega) (by omega)⟩
theorem lowFrom_at {l : List Tk} : ∀ {m i : Nat}, lowFrom l m i = true → ∀ k, i ≤ k → k < i + m → (respL l k).isSome = true
  | 0, _, _, k, h1, h2 => by omega
  | m + 1, i, h, k, h1, h2 => by
    simp only [lowFrom, Bool.and_eq_true] at h
    by_cases e : k = i
    · subst e; exact h.1
    · exact lowFrom_at h.2 k (by omega) (by omega)
/-- What a bound with low needs is. -/
theorem respL_some {l : List Tk} {i : Nat} {n : Int} (h : respL l i = some n) : ∃ T, l[i]? = some T ∧ setOk l = true ∧ T.ok = true ∧ lowF T (l.take i) n = n ∧ T.low ≤ n ∧ n ≤ T.due := by
  unfold respL at h
  cases hT : l[i]? with
  | none => rw [hT] at h; simp at h
  | some T =>
    rw [hT] at h
    dsimp only at h
    split at h
    · rename_i hs
      have hk := setOk_at hs hT
      have hkT := (Tk.ok_iff _).1 hk
      obtain ⟨h1, h2, h3⟩ := fixF_some h
      exact ⟨T, rfl, hs, hk, h1, h2, by omega⟩
    · simp at h
theorem respS_some {l : List Tk} {i : Nat} {n : Int} (h : respS l i = some n) : ∃ T m, l[i]? = some T ∧ respL l i = some m ∧ T.crit = true ∧ swF T m (l.take i) n = n ∧ T.high ≤ n ∧ n ≤ T.due := by
  unfold respS at h
  cases hT : l[i]? with
  | none => rw [hT] at h; simp at h
  | some T =>
    cases hm : respL l i with
    | none => rw [hT, hm] at h; simp at h
    | some m =>
      rw [hT, hm] at h
      dsimp only at h
      split at h
      · rename_i hc
        obtain ⟨T', hT', hs, hk, _⟩ := respL_some hm
        rw [hT] at hT'; simp at hT'; subst hT'
        have hkT := (Tk.ok_iff _).1 hk
        obtain ⟨h1, h2, h3⟩ := fixF_some h
        exact ⟨T, m, rfl, rfl, hc, h1, h2, by omega⟩
      · simp at h
theorem take_ok {l : List Tk} (h : setOk l = true) (i : Nat) : ∀ t ∈ l.take i, t.ok = true := fun t ht => setOk_all h t (List.mem_of_mem_take ht)

/-! ### Lower needs -/

/-- The same tasks, with needs that are no greater. -/
def Lower (l x : List Tk) : Prop := l.length = x.length ∧ ∀ (i : Nat) (T U : Tk), l[i]? = some T → x[i]? = some U → T.low ≤ U.low ∧ T.high ≤ U.high ∧ T.due = U.due ∧ T.every = U.every ∧ T.crit = U.crit
theorem sumG_lower {f g : Tk → Int} : ∀ {l x : List Tk}, l.length = x.length → (∀ (i : Nat) (T U : Tk), l[i]? = some T → x[i]? = some U → f T ≤ g U) → sumG f l ≤ sumG g x
  | [], [], _, _ => Int.le_refl _
  | [], _ :: _, h, _ => by simp at h
  | _ :: _, [], h, _ => by simp at h
  | T :: l, U :: x, h, hh => by
    have h1 := hh 0 T U rfl rfl
    have h2 := sumG_lower (l := l) (x := x) (by simpa using h) (fun i T' U' a b => hh (i + 1) T' U' (by simpa using a) (by simpa using b))
    simp only [sumG]; omega
theorem take_get {α : Type} {l : List α} {i k : Nat} {t : α} (h : (l.take i)[k]? = some t) : l[k]? = some t := by
  rw [List.getElem?_take] at h
  split at h
  · exact h
  · simp at h
theorem dem_lower {T U : Tk} (hT : T.ok = true) (h1 : T.low ≤ U.low) (h2 : T.high ≤ U.high) (h3 : T.every = U.every) {a b : Int} (h0 : 0 ≤ a) (hab : a ≤ b) (hi : Bool) : dem T a hi ≤ dem U b hi := by
  refine Int.le_trans (dem_mono hT h0 hab hi) ?_
  have hk := (Tk.ok_iff _).1 hT
  unfold dem
  rw [h3]
  exact Int.mul_le_mul_of_nonneg_left (by unfold selW; split <;> omega) (ce_nn (by omega) (by omega))
theorem respL_lower {l x : List Tk} (hl : setOk l = true) (hx : Lower l x) {i : Nat} {n : Int} (h : respL x i = some n) : ∃ m, respL l i = some m ∧ m ≤ n := by
  obtain ⟨U, hU, hs, hk, he, h1, h2⟩ := respL_some h
  obtain ⟨T, hT⟩ := getSome (l := l) (k := i) (by rw [hx.1]; exact (List.getElem?_eq_some_iff.1 hU).1)
  obtain ⟨a1, a2, a3, a4, a5⟩ := hx.2 i T U hT hU
  have hkT := (Tk.ok_iff _).1 (setOk_at hl hT)
  have hkU := (Tk.ok_iff _).1 hk
  have hle : lowF T (l.take i) n ≤ n := by
    have := sumG_lower (l := l.take i) (x := x.take i) (f := fun q => dem q n false) (g := fun q => dem q n false) (by rw [List.length_take, List.length_take, hx.1]) (fun k T' U' ha hb => by
      obtain ⟨b1, b2, _, b4, _⟩ := hx.2 k T' U' (take_get ha) (take_get hb)
      exact dem_lower (setOk_at hl (take_get ha)) b1 b2 b4 (by omega) (Int.le_refl _) false)
    unfold lowF at he ⊢; omega
  obtain ⟨m, hm, hmn⟩ := fixF_found (lowF_mono (T := T) (take_ok hl i)) (w := T.low) (by omega) (lowF_up (take_ok hl i) (by omega)) (m := (T.due + 1 - T.low).toNat) (v := n) (by omega) (by omega) hle
  exact ⟨m, by unfold respL; rw [hT]; dsimp only; rw [if_pos hl]; exact hm, hmn⟩
theorem respS_lower {l x : List Tk} (hl : setOk l = true) (hx : Lower l x) {i : Nat} {n : Int} (h : respS x i = some n) : ∃ m, respS l i = some m ∧ m ≤ n := by
  obtain ⟨U, r, hU, hr, hc, he, h1, h2⟩ := respS_some h
  obtain ⟨r', hr', hrr⟩ := respL_lower hl hx hr
  obtain ⟨U', hU', hs, hk, _, h3, _⟩ := respL_some hr
  rw [hU] at hU'; simp at hU'; subst hU'
  obtain ⟨T, hT⟩ := getSome (l := l) (k := i) (by rw [hx.1]; exact (List.getElem?_eq_some_iff.1 hU).1)
  obtain ⟨a1, a2, a3, a4, a5⟩ := hx.2 i T U hT hU
  obtain ⟨T', hT', _, _, _, h4, _⟩ := respL_some hr'
  rw [hT] at hT'; simp at hT'; subst hT'
  have hkT := (Tk.ok_iff _).1 (setOk_at hl hT)
  have hkU := (Tk.ok_iff _).1 hk
  have hle : swF T r' (l.take i) n ≤ n := by
    have := sumG_lower (l := l.take i) (x := x.take i) (f := fun q => if q.crit = true then dem q n true else dem q r' false) (g := fun q => if q.crit = true then dem q n true else dem q r false) (by rw [List.length_take, List.length_take, hx.1]) (fun k T' U' ha hb => by
      obtain ⟨b1, b2, _, b4, b5⟩ := hx.2 k T' U' (take_get ha) (take_get hb)
      (try dsimp only)
      rw [b5]
      split
      · exact dem_lower (setOk_at hl (take_get ha)) b1 b2 b4 (by omega) (Int.le_refl _) true
      · exact dem_lower (setOk_at hl (take_get ha)) b1 b2 b4 (by omega) hrr false)
    unfold swF at he ⊢; omega
  obtain ⟨m, hm, hmn⟩ := fixF_found (swF_mono (T := T) (n := r') (take_ok hl i)) (w := T.high) (by omega) (swF_up (by omega) (take_ok hl i) (by omega)) (m := (T.due + 1 - T.high).toNat) (v := n) (by omega) (by omega) hle
  exact ⟨m, by unfold respS; rw [hT, hr']; dsimp only; rw [if_pos (by rw [a5]; exact hc)]; exact hm, hmn⟩
theorem both_lower {l x : List Tk} (hl : setOk l = true) (hx : Lower l x) (h : holdsBothB x = true) : holdsBothB l = true := by
  simp only [holdsBothB, Bool.and_eq_true] at h ⊢
  refine ⟨hl, holdsFrom_mk fun k _ hk => ?_⟩
  have h1 := holdsFrom_at h.2 k (Nat.zero_le _) (by rw [← hx.1]; exact hk)
  obtain ⟨T, hT⟩ := getSome (l := l) (k := k) (by omega)
  obtain ⟨U, hU⟩ := getSome (l := x) (k := k) (by rw [← hx.1]; omega)
  obtain ⟨_, _, _, _, a5⟩ := hx.2 k T U hT hU
  unfold holdsAt at h1 ⊢
  rw [hU] at h1; rw [hT]
  dsimp only at h1 ⊢
  rw [a5]
  split at h1
  · rename_i hc
    rw [if_pos hc]
    obtain ⟨n, hn⟩ := Option.isSome_iff_exists.1 h1
    obtain ⟨m, hm, _⟩ := respS_lower hl hx hn
    rw [hm]; rfl
  · rename_i hc
    rw [if_neg hc]
    obtain ⟨n, hn⟩ := Option.isSome_iff_exists.1 h1
    obtain ⟨m, hm, _⟩ := respL_lower hl hx hn
    rw [hm]; rfl
end Go.Proofs.Ytaadlgpglfpmpaa
