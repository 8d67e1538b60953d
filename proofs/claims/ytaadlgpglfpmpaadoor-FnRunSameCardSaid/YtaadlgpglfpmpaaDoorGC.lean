import Derived.Test.YtaadlgpglfpmpaaDoorGA
import Derived.Test.YtaadlgpglfpmpaaDoorGB
import Derived.Test.YtaadlgpglfpmpaaDoorPut

/-
  Fractions, said plainly: reduced ones, sums, and the shares of tasks. No program in sight.
-/

namespace Go.Proofs.YtaadlgpglfpmpaaDoor
open Go.RowKit

structure Fr where
  p : Nat
  q : Nat
/-- A fraction in which no number above 1 divides both. -/
def red (p q : Nat) : Fr := ⟨p / Nat.gcd p q, q / Nat.gcd p q⟩
theorem red_mul (p q k : Nat) (hk : 0 < k) : red (k * p) (k * q) = red p q := by
  unfold red
  rw [Nat.gcd_mul_left, Nat.mul_div_mul_left _ _ hk, Nat.mul_div_mul_left _ _ hk]
theorem red_eq {p q p' q' : Nat} (hq : 0 < q) (hq' : 0 < q') (h : p * q' = p' * q) : red p q = red p' q' := by
  rw [← red_mul p q q' hq', ← red_mul p' q' q hq, Nat.mul_comm q' p, h, Nat.mul_comm p' q, Nat.mul_comm q' q]
theorem red_cross {p q : Nat} (_hq : 0 < q) : (red p q).p * q = p * (red p q).q := by
  unfold red
  dsimp only
  have h1 := Nat.div_mul_cancel (Nat.gcd_dvd_left p q)
  have h2 := Nat.div_mul_cancel (Nat.gcd_dvd_right p q)
  generalize p / Nat.gcd p q = a at *
  generalize q / Nat.gcd p q = b at *
  generalize Nat.gcd p q = g at *
  subst h1
  rw [← h2]
  rw [Nat.mul_assoc a g b, Nat.mul_comm g b]
theorem red_pos {p q : Nat} (hq : 0 < q) : 0 < (red p q).q := Nat.div_pos (Nat.le_of_dvd hq (Nat.gcd_dvd_right p q)) (Nat.gcd_pos_of_pos_right p hq)
theorem red_le {p q : Nat} : (red p q).p ≤ p ∧ (red p q).q ≤ q := ⟨Nat.div_le_self _ _, Nat.div_le_self _ _⟩
/-- Reduced, and its divisor is not 0. -/
def Good (a : Fr) : Prop := 0 < a.q ∧ Nat.gcd a.p a.q = 1
theorem red_good {p q : Nat} (hq : 0 < q) : Good (red p q) := ⟨red_pos hq, by
  have hg := Nat.gcd_pos_of_pos_right p hq
  have h1 := Nat.mul_div_cancel' (Nat.gcd_dvd_left p q)
  have h2 := Nat.mul_div_cancel' (Nat.gcd_dvd_right p q)
  have h3 := Nat.gcd_mul_left (Nat.gcd p q) (p / Nat.gcd p q) (q / Nat.gcd p q)
  rw [h1, h2] at h3
  exact Nat.eq_of_mul_eq_mul_left hg (by rw [Nat.mul_one]; exact h3.symm)⟩
theorem good_red {a : Fr} (h : Good a) : red a.p a.q = a := by
  unfold red; rw [h.2, Nat.div_one, Nat.div_one]
theorem red_red {p q : Nat} (hq : 0 < q) : red (red p q).p (red p q).q = red p q := good_red (red_good hq)
/-- The sum, of whatever fractions. -/
def addF (a b : Fr) : Fr := red (a.p * b.q + b.p * a.q) (a.q * b.q)
theorem addF_good {a b : Fr} (ha : 0 < a.q) (hb : 0 < b.q) : Good (addF a b) := red_good (Nat.mul_pos ha hb)
theorem addF_red {a : Fr} {p q : Nat} (ha : 0 < a.q) (hq : 0 < q) : addF a (red p q) = red (a.p * q + p * a.q) (a.q * q) := by
  have hc := red_cross (p := p) hq
  have hp := red_pos (p := p) hq
  refine red_eq (Nat.mul_pos ha hp) (Nat.mul_pos ha hq) ?_
  generalize (red p q).p = u at *
  generalize (red p q).q = v at *
  have e : u * a.q * (a.q * q) = p * a.q * (a.q * v) := by
    calc u * a.q * (a.q * q) = (u * q) * (a.q * a.q) := by ac_rfl
      _ = (p * v) * (a.q * a.q) := by rw [hc]
      _ = p * a.q * (a.q * v) := by ac_rfl
  rw [Nat.add_mul, Nat.add_mul, e]
  rw [show a.p * v * (a.q * q) = a.p * q * (a.q * v) by ac_rfl]
/-- The reference's sum, by way of the greatest common divisor of the divisors. -/
theorem addF_gcd {a b : Fr} (ha : 0 < a.q) (_hb : 0 < b.q) : red (a.p * (b.q / Nat.gcd a.q b.q) + b.p * (a.q / Nat.gcd a.q b.q)) (a.q / Nat.gcd a.q b.q * b.q) = addF a b := by
  have h1 := Nat.div_mul_cancel (Nat.gcd_dvd_left a.q b.q)
  have h2 := Nat.div_mul_cancel (Nat.gcd_dvd_right a.q b.q)
  have hg := Nat.gcd_pos_of_pos_left b.q ha
  unfold addF
  generalize a.q / Nat.gcd a.q b.q = x at *
  generalize b.q / Nat.gcd a.q b.q = y at *
  generalize Nat.gcd a.q b.q = g at *
  rw [← red_mul _ _ g hg]
  congr 1
  · rw [← h1, ← h2, Nat.mul_add]; ac_rfl
  · rw [← h1]; ac_rfl

/-- The sum of shares: of each task in turn its need over its period. -/
def sumF (f : Tk → Option Nat) : List Tk → Fr → Fr
  | [], a => a
  | t :: l, a => match f t with
    | none => sumF f l a
    | some n => sumF f l (red (a.p * t.every.toNat + n * a.q) (a.q * t.every.toNat))
def needF (crit high : Bool) (t : Tk) : Option Nat := if t.crit = crit then some (if high then t.high.toNat else t.low.toNat) else none
def share (l : List Tk) (crit high : Bool) : Fr := sumF (needF crit high) l ⟨0, 1⟩
def cntF (f : Tk → Option Nat) : List Tk → Nat
  | [] => 0
  | t :: l => (if (f t).isSome then 1 else 0) + cntF f l
theorem cntF_both (high high' : Bool) : ∀ l : List Tk, cntF (needF false high) l + cntF (needF true high') l = l.length
  | [] => rfl
  | t :: l => by
    have := cntF_both high high' l
    cases hc : t.crit <;> simp [cntF, needF, hc] <;> omega
theorem sumF_bd (f : Tk → Option Nat) : ∀ (l : List Tk) (a : Fr) (m : Nat), (∀ t ∈ l, t.ok = true ∧ ∀ n, f t = some n → n ≤ t.every.toNat) → Good a → a.p ≤ m * a.q → Good (sumF f l a) ∧ (sumF f l a).q ≤ a.q * 20 ^ cntF f l ∧ (sumF f l a).p ≤ (m + l.length) * (sumF f l a).q
  | [], a, m, _, hg, hm => ⟨hg, by simp [sumF, cntF], by simpa [sumF] using hm⟩
  | t :: l, a, m, h, hg, hm => by
    obtain ⟨hok, hn⟩ := h t (by simp)
    have hk := (Tk.ok_iff t).1 hok
    have he : 0 < t.every.toNat := by omega
    have he2 : t.every.toNat ≤ 20 := by omega
    simp only [sumF]
    cases hf : f t with
    | none =>
      obtain ⟨h1, h2, h3⟩ := sumF_bd f l a m (fun x hx => h x (by simp [hx])) hg hm
      refine ⟨h1, Nat.le_trans h2 (Nat.mul_le_mul_left _ (Nat.pow_le_pow_right (by omega) (by simp [cntF]))), Nat.le_trans h3 (Nat.mul_le_mul_right _ (by simp))⟩
    | some n =>
      have hne := hn n hf
      have hq := Nat.mul_pos hg.1 he
      have hc := red_cross (p := a.p * t.every.toNat + n * a.q) hq
      have hb := red_pos (p := a.p * t.every.toNat + n * a.q) hq
      have hl := (red_le (p := a.p * t.every.toNat + n * a.q) (q := a.q * t.every.toNat)).2
      have hm1 : (red (a.p * t.every.toNat + n * a.q) (a.q * t.every.toNat)).p ≤ (m + 1) * (red (a.p * t.every.toNat + n * a.q) (a.q * t.every.toNat)).q := by
        have hx : a.p * t.every.toNat + n * a.q ≤ (m + 1) * (a.q * t.every.toNat) := by
          have e1 : a.p * t.every.toNat ≤ m * (a.q * t.every.toNat) := by rw [← Nat.mul_assoc]; exact Nat.mul_le_mul_right _ hm
          have e2 : n * a.q ≤ a.q * t.every.toNat := by rw [Nat.mul_comm]; exact Nat.mul_le_mul_left _ hne
          rw [Nat.add_mul, Nat.one_mul]; omega
        refine Nat.le_of_mul_le_mul_right ?_ hq
        rw [hc]
        calc _ ≤ (m + 1) * (a.q * t.every.toNat) * _ := Nat.mul_le_mul_right _ hx
          _ = _ := by ac_rfl
      obtain ⟨h1, h2, h3⟩ := sumF_bd f l _ (m + 1) (fun x hx => h x (by simp [hx])) (red_good hq) hm1
      refine ⟨h1, Nat.le_trans h2 ?_, by rw [List.length_cons, show m + (l.length + 1) = m + 1 + l.length by omega]; exact h3⟩
      rw [cntF, hf, Option.isSome_some, if_pos rfl, Nat.add_comm 1, Nat.pow_succ, Nat.mul_comm (20 ^ cntF f l) 20, ← Nat.mul_assoc]
      refine Nat.mul_le_mul_right _ (Nat.le_trans hl (Nat.mul_le_mul_left _ he2))
theorem share_bd {l : List Tk} (h : setOk l = true) (crit high : Bool) : Good (share l crit high) ∧ (share l crit high).q ≤ 20 ^ cntF (needF crit high) l ∧ (share l crit high).p ≤ 5 * (share l crit high).q := by
  have hb := sumF_bd (needF crit high) l ⟨0, 1⟩ 0 (fun t ht => by
    have hk := (Tk.ok_iff t).1 (setOk_all h t ht)
    refine ⟨setOk_all h t ht, fun n hn => ?_⟩
    unfold needF at hn
    split at hn
    · cases high <;> (simp at hn; omega)
    · cases hn) ⟨by show 0 < 1; omega, by simp⟩ (by simp)
  have hl := setOk_len h
  obtain ⟨h1, h2, h3⟩ := hb
  exact ⟨h1, by simpa [share] using h2, Nat.le_trans h3 (Nat.mul_le_mul_right _ (by omega))⟩
theorem share_both {l : List Tk} (h : setOk l = true) (high high' : Bool) : (share l false high).q * (share l true high').q ≤ 3200000 := by
  have h1 := (share_bd h false high).2.1
  have h2 := (share_bd h true high').2.1
  have h3 := cntF_both high high' l
  have hl := setOk_len h
  calc _ ≤ 20 ^ cntF (needF false high) l * 20 ^ cntF (needF true high') l := Nat.mul_le_mul h1 h2
    _ = 20 ^ l.length := by rw [← Nat.pow_add, h3]
    _ ≤ 20 ^ 5 := Nat.pow_le_pow_right (by omega) hl
    _ = 3200000 := rfl

/-! ### The factor of virtual deadlines -/

def implB (l : List Tk) : Bool := setOk l && l.all fun t => decide (t.due = t.every)
def fitsF (a : Fr) : Bool := decide (a.p ≤ a.q)
def plainB (l : List Tk) : Bool := implB l && fitsF (addF (share l false false) (share l true true))
def factor (l : List Tk) : Fr × Bool := if implB l = false then (⟨0, 0⟩, false) else if plainB l = true then (⟨1, 1⟩, true) else
  if fitsF (addF (share l false false) (share l true false)) = false ∨ (share l false false).p = (share l false false).q then (⟨0, 0⟩, false)
  else (red ((share l true false).p * (share l false false).q) ((share l true false).q * ((share l false false).q - (share l false false).p)), true)
end Go.Proofs.YtaadlgpglfpmpaaDoor

/-
  A run, said plainly: a machine that executes a tick. No program in sight.
-/


namespace Go.Proofs.YtaadlgpglfpmpaaDoor
open Go.RowKit

structure St where
  ended : List Int
  done : List Int
  trace : List Int
  switches : List Int
  left : List Nat
  high : Bool

/-- The task of a job, by its place. -/
def tkOf (l : List Tk) (js : List Jb) (i : Nat) : Option Tk := match js[i]? with
  | some j => l[j.task.toNat]?
  | none => none
def critOf (l : List Tk) (js : List Jb) (i : Nat) : Bool := match tkOf l js i with
  | some t => t.crit
  | none => false
/-- The deadline of a job, times the divisor of the factor. -/
def keyOf (l : List Tk) (js : List Jb) (x : Fr) (high : Bool) (i : Nat) : Int := match js[i]?, tkOf l js i with
  | some j, some t => if t.crit = true ∧ high = false then j.at_ * x.q + t.due * x.p else (j.at_ + t.due) * x.q
  | _, _ => 0
/-- Whether a job goes ahead of another one; due: by deadlines. -/
def goesB (l : List Tk) (js : List Jb) (due : Bool) (x : Fr) (high : Bool) (a b : Nat) : Bool :=
  if due = true ∧ keyOf l js x high a ≠ keyOf l js x high b then decide (keyOf l js x high a < keyOf l js x high b)
  else match js[a]?, js[b]? with
    | some p, some q => if p.task ≠ q.task then decide (p.task < q.task) else decide (p.at_ < q.at_)
    | _, _ => false
def atOf (js : List Jb) (i : Nat) : Int := match js[i]? with | some j => j.at_ | none => -1
def come1 (l : List Tk) (js : List Jb) (t : Int) (i : Nat) (s : St) : St :=
  if atOf js i ≠ t then s else if s.high = true ∧ critOf l js i = false then { s with ended := s.ended.set i (-2) } else { s with left := s.left ++ [i] }
def comeFrom (l : List Tk) (js : List Jb) (t : Int) : Nat → Nat → St → St
  | 0, _, s => s
  | m + 1, i, s => comeFrom l js t m (i + 1) (come1 l js t i s)
def bestOf (g : Nat → Nat → Bool) : Nat → List Nat → Nat
  | r, [] => r
  | r, i :: q => bestOf g (if g i r = true then i else r) q
/-- All of these that are of tasks that are not critical are dropped. -/
def dropAll (l : List Tk) (js : List Jb) : List Nat → List Int → List Int
  | [], e => e
  | i :: q, e => dropAll l js q (if critOf l js i = true then e else e.set i (-2))
def still (e : List Int) (i : Nat) : Bool := match e[i]? with | some v => decide (v = -1) | none => false
/-- What happens when job r has run in the tick that ends at t1, n ticks in all. -/
def ran (l : List Tk) (js : List Jb) (t1 : Int) (r : Nat) (n : Int) (j : Jb) (t : Tk) (s : St) : St :=
  if n = j.need then { s with ended := s.ended.set r t1 }
  else if s.high = false ∧ t.crit = true ∧ n = t.low then { s with high := true, switches := s.switches ++ [t1], ended := dropAll l js s.left s.ended }
  else s
def low0 (s : St) : St := if s.left = [] then { s with high := false } else s
def work (l : List Tk) (js : List Jb) (due : Bool) (x : Fr) (t1 : Int) (s : St) : St := match s.left with
  | [] => { s with trace := s.trace ++ [-1] }
  | r0 :: q =>
    let r := bestOf (goesB l js due x s.high) r0 q
    match js[r]?, tkOf l js r, s.done[r]? with
    | some j, some t, some d =>
      let s' := ran l js t1 r (d + 1) j t { s with trace := s.trace ++ [j.task], done := s.done.set r (d + 1) }
      { s' with left := s'.left.filter (still s'.ended) }
    | _, _, _ => s
def tick (l : List Tk) (js : List Jb) (due : Bool) (x : Fr) (t : Nat) (s : St) : St := work l js due x ((t : Int) + 1) (comeFrom l js t js.length 0 (low0 s))
def ticks (l : List Tk) (js : List Jb) (due : Bool) (x : Fr) : Nat → Nat → St → St
  | 0, _, s => s
  | m + 1, t, s => ticks l js due x m (t + 1) (tick l js due x t s)
def st0 (n : Nat) : St := ⟨List.replicate n (-1), List.replicate n 0, [], [], [], false⟩
def St.run (s : St) : Rn := ⟨s.ended, s.trace, s.switches, s.high⟩
def none0 : Rn := ⟨[], [], [], false⟩
/-- Whether such a run is made. -/
def goB (l : List Tk) (js : List Jb) (pol n : Int) : Bool := jobsOk l js && (decide (pol = 0) || (decide (pol = 1) && (factor l).2)) && decide (0 ≤ n ∧ n ≤ 200)
def runJ (l : List Tk) (js : List Jb) (pol n : Int) : Rn × Bool :=
  if goB l js pol n = true then ((ticks l js (decide (pol = 1)) (factor l).1 n.toNat 0 (st0 js.length)).run, true) else (none0, false)
theorem ticks_step (l : List Tk) (js : List Jb) (due : Bool) (x : Fr) {n k : Nat} (h : k < n) (s : St) : ticks l js due x (n - k) k s = ticks l js due x (n - (k + 1)) (k + 1) (tick l js due x k s) := by
  obtain ⟨m, hm⟩ : ∃ m, n - k = m + 1 := ⟨n - k - 1, by omega⟩
  rw [hm, show n - (k + 1) = m by omega]; rfl
theorem ticks_end (l : List Tk) (js : List Jb) (due : Bool) (x : Fr) {n k : Nat} (h : ¬ k < n) (s : St) : ticks l js due x (n - k) k s = s := by
  rw [show n - k = 0 by omega]; rfl
theorem come_step (l : List Tk) (js : List Jb) (t : Int) {n k : Nat} (h : k < n) (s : St) : comeFrom l js t (n - k) k s = comeFrom l js t (n - (k + 1)) (k + 1) (come1 l js t k s) := by
  obtain ⟨m, hm⟩ : ∃ m, n - k = m + 1 := ⟨n - k - 1, by omega⟩
  rw [hm, show n - (k + 1) = m by omega]; rfl
theorem come_end (l : List Tk) (js : List Jb) (t : Int) {n k : Nat} (h : ¬ k < n) (s : St) : comeFrom l js t (n - k) k s = s := by
  rw [show n - k = 0 by omega]; rfl

end Go.Proofs.YtaadlgpglfpmpaaDoor

/-
  What holds of every state of a run. No program in sight.
-/


namespace Go.Proofs.YtaadlgpglfpmpaaDoor
open Go.RowKit

/-- How a job stands: A: it has come; inL: it is left. -/
def Stands (A inL : Prop) (t : Nat) (high : Bool) (sw : List Int) (j : Jb) (T : Tk) (e d : Int) : Prop :=
  (¬ A ∧ ¬ inL ∧ e = -1 ∧ d = 0) ∨
  (A ∧ inL ∧ e = -1 ∧ 0 ≤ d ∧ d < j.need ∧ d ≤ t - j.at_ ∧ (T.crit = true → high = false → d < T.low)) ∨
  (A ∧ ¬ inL ∧ e = -2 ∧ T.crit = false ∧ sw ≠ [] ∧ 0 ≤ d ∧ d < j.need ∧ d ≤ t - j.at_) ∨
  (A ∧ ¬ inL ∧ j.at_ + j.need ≤ e ∧ e ≤ t ∧ d = j.need)
structure Inv (l : List Tk) (js : List Jb) (A : Nat → Prop) (t : Nat) (s : St) : Prop where
  elen : s.ended.length = js.length
  dlen : s.done.length = js.length
  sorted : s.left.Pairwise (· < ·)
  lt : ∀ i ∈ s.left, i < js.length
  job : ∀ (i : Nat) (j : Jb) (T : Tk), js[i]? = some j → l[j.task.toNat]? = some T → ∃ e d, s.ended[i]? = some e ∧ s.done[i]? = some d ∧ Stands (A i) (i ∈ s.left) t s.high s.switches j T e d
  high : s.high = true → s.switches ≠ []
  swlen : s.switches.length ≤ t
  sw : ∀ x ∈ s.switches, 1 ≤ x ∧ x ≤ (t : Int)
  tr : ∀ x ∈ s.trace, -1 ≤ x ∧ x < l.length

theorem Stands.mono {A inL A' inL' : Prop} {t t' : Nat} {high : Bool} {sw : List Int} {j : Jb} {T : Tk} {e d : Int} (h : Stands A inL t high sw j T e d) (hA : A ↔ A') (hL : inL ↔ inL') (ht : t ≤ t') : Stands A' inL' t' high sw j T e d := by
  unfold Stands at *
  rcases h with ⟨h1, h2, h3, h4⟩ | ⟨h1, h2, h3, h4, h5, h6, h7⟩ | ⟨h1, h2, h3, h4, h5, h6, h7, h8⟩ | ⟨h1, h2, h3, h4, h5⟩
  · exact .inl ⟨fun k => h1 (hA.2 k), fun k => h2 (hL.2 k), h3, h4⟩
  · exact .inr (.inl ⟨hA.1 h1, hL.1 h2, h3, h4, h5, by omega, h7⟩)
  · exact .inr (.inr (.inl ⟨hA.1 h1, fun k => h2 (hL.2 k), h3, h4, h5, h6, h7, by omega⟩))
  · exact .inr (.inr (.inr ⟨hA.1 h1, fun k => h2 (hL.2 k), h3, by omega, h5⟩))
theorem Inv.congr {l : List Tk} {js : List Jb} {A A' : Nat → Prop} {t : Nat} {s : St} (h : Inv l js A t s) (hA : ∀ i, i < js.length → (A i ↔ A' i)) : Inv l js A' t s :=
  ⟨h.elen, h.dlen, h.sorted, h.lt, fun i j T hj hT => by
    obtain ⟨e, d, h1, h2, h3⟩ := h.job i j T hj hT
    exact ⟨e, d, h1, h2, h3.mono (hA i (List.getElem?_eq_some_iff.1 hj).1) Iff.rfl (Nat.le_refl _)⟩, h.high, h.swlen, h.sw, h.tr⟩

/-! ### Valid jobs -/

theorem pair_at {α : Type} {R : α → α → Prop} : ∀ {l : List α}, l.Pairwise R → ∀ {i k : Nat} {a b : α}, i < k → l[i]? = some a → l[k]? = some b → R a b
  | [], _, _, _, _, _, _, ha, _ => by simp at ha
  | x :: l, h, 0, k + 1, a, b, _, ha, hb => by
    simp at ha hb; subst ha
    exact (List.pairwise_cons.1 h).1 _ (List.mem_of_getElem? hb)
  | x :: l, h, i + 1, k + 1, a, b, hik, ha, hb => pair_at (i := i) (k := k) (List.pairwise_cons.1 h).2 (by omega) (by simpa using ha) (by simpa using hb)
  | x :: l, _, _, 0, _, _, hik, _, _ => by omega
theorem jobs_apart {l : List Tk} {js : List Jb} (h : jobsOk l js = true) {i k : Nat} {a b : Jb} (hik : i < k) (ha : js[i]? = some a) (hb : js[k]? = some b) : Lt a b ∧ (a.task = b.task → evAt l b ≤ b.at_ - a.at_) := pair_at ((jobsOk_iff l js).1 h).2.2.2 hik ha hb
theorem at_eq {js : List Jb} {i : Nat} {j : Jb} (h : js[i]? = some j) : atOf js i = j.at_ := by simp [atOf, h]
/-- A job of valid jobs, and its task. -/
theorem job_of {l : List Tk} {js : List Jb} (h : jobsOk l js = true) {i : Nat} (hi : i < js.length) : ∃ j T, js[i]? = some j ∧ l[j.task.toNat]? = some T ∧ T.ok = true ∧ 0 ≤ j.at_ ∧ j.at_ ≤ 200 ∧ 1 ≤ j.need ∧ j.need ≤ T.high ∧ 0 ≤ j.task ∧ j.task < l.length ∧ critOf l js i = T.crit ∧ tkOf l js i = some T := by
  obtain ⟨j, hj⟩ := getSome hi
  obtain ⟨hso, ht0, htl, ha0, ha1, hn1, T, hT, hnh⟩ := jobIn_spec (((jobsOk_iff l js).1 h).2.2.1 j (List.mem_of_getElem? hj))
  have htk : tkOf l js i = some T := by rw [tkOf, hj]; exact hT
  exact ⟨j, T, hj, hT, setOk_at hso hT, ha0, ha1, hn1, hnh, ht0, htl, by rw [critOf, htk], htk⟩
theorem at_mono {l : List Tk} {js : List Jb} (h : jobsOk l js = true) {i k : Nat} (hik : i < k) (hk : k < js.length) : atOf js i ≤ atOf js k := by
  obtain ⟨a, ha⟩ := getSome (l := js) (k := i) (by omega)
  obtain ⟨b, hb⟩ := getSome hk
  have := (jobs_apart h hik ha hb).1
  rw [at_eq ha, at_eq hb]; unfold Lt at this; omega

section
variable {l : List Tk} {js : List Jb} {t : Nat} {s : St}

theorem Inv.low0 {A : Nat → Prop} (h : Inv l js A t s) : Inv l js A t (low0 s) := by
  unfold Go.Proofs.YtaadlgpglfpmpaaDoor.low0
  split
  · rename_i hl
    refine ⟨h.elen, h.dlen, h.sorted, h.lt, fun i j T hj hT => ?_, fun h1 => by simp at h1, h.swlen, h.sw, h.tr⟩
    obtain ⟨e, d, h1, h2, h3⟩ := h.job i j T hj hT
    refine ⟨e, d, h1, h2, ?_⟩
    have hni : ¬ i ∈ s.left := by rw [hl]; simp
    rcases h3 with h3 | ⟨_, h4, _⟩ | h3 | h3
    · exact .inl h3
    · exact absurd h4 hni
    · exact .inr (.inr (.inl h3))
    · exact .inr (.inr (.inr h3))
  · exact h

def Come (js : List Jb) (t m : Nat) (i : Nat) : Prop := atOf js i < t ∨ (atOf js i = t ∧ i < m)
theorem set_oth {α : Type} {l : List α} {i k : Nat} {x : α} (h : i ≠ k) : (l.set i x)[k]? = l[k]? := by simp [h]
theorem set_at {α : Type} {l : List α} {i : Nat} {x : α} (h : i < l.length) : (l.set i x)[i]? = some x := by simp [h]
theorem Inv.come1 (hok : jobsOk l js = true) {m : Nat} (hm : m < js.length) (h : Inv l js (Come js t m) t s) : Inv l js (Come js t (m + 1)) t (come1 l js t m s) := by
  obtain ⟨j, T, hj, hT, hTo, ha0, ha1, hn1, hnh, ht0, htl, hcr, htk⟩ := job_of hok hm
  have hat := at_eq hj
  unfold Go.Proofs.YtaadlgpglfpmpaaDoor.come1
  by_cases hne : atOf js m ≠ t
  · rw [if_pos hne]
    refine h.congr fun i hi => ?_
    unfold Come
    constructor
    · rintro (h1 | ⟨h1, h2⟩)
      · exact .inl h1
      · exact .inr ⟨h1, by omega⟩
    · rintro (h1 | ⟨h1, h2⟩)
      · exact .inl h1
      · refine .inr ⟨h1, ?_⟩
        have : i ≠ m := fun e => hne (by rw [← e]; exact h1)
        omega
  · rw [if_neg hne]
    have hmt : atOf js m = t := by simpa using hne
    have hnA : ¬ Come js t m m := by unfold Come; omega
    obtain ⟨e, d, he, hd, hst⟩ := h.job m j T hj hT
    have hst' : ¬ m ∈ s.left ∧ e = -1 ∧ d = 0 := by
      rcases hst with ⟨_, h2, h3, h4⟩ | ⟨h1, _⟩ | ⟨h1, _⟩ | ⟨h1, _⟩
      · exact ⟨h2, h3, h4⟩
      · exact absurd h1 hnA
      · exact absurd h1 hnA
      · exact absurd h1 hnA
    obtain ⟨hml, rfl, rfl⟩ := hst'
    have hA : ∀ i, i ≠ m → (Come js t m i ↔ Come js t (m + 1) i) := fun i hi => by unfold Come; omega
    have hA2 : Come js t (m + 1) m := by unfold Come; omega
    have hml2 := (List.getElem?_eq_some_iff.1 he).1
    have hk := (Tk.ok_iff _).1 hTo
    by_cases hc : s.high = true ∧ critOf l js m = false
    · rw [if_pos hc]
      refine ⟨by simp [h.elen], h.dlen, h.sorted, h.lt, fun i j' T' hj' hT' => ?_, h.high, h.swlen, h.sw, h.tr⟩
      by_cases hi : i = m
      · subst hi
        rw [hj] at hj'; simp at hj'; subst hj'
        rw [hT] at hT'; simp at hT'; subst hT'
        exact ⟨-2, 0, set_at hml2, hd, .inr (.inr (.inl ⟨hA2, hml, rfl, by rw [← hcr]; exact hc.2, h.high hc.1, Int.le_refl _, by omega, by omega⟩))⟩
      · obtain ⟨e', d', h1, h2, h3⟩ := h.job i j' T' hj' hT'
        exact ⟨e', d', by dsimp only; rw [set_oth (fun e => hi e.symm)]; exact h1, h2, h3.mono (hA i hi) Iff.rfl (Nat.le_refl _)⟩
    · rw [if_neg hc]
      have hcr2 : T.crit = true → s.high = false → (0 : Int) < T.low := fun _ _ => by omega
      refine ⟨h.elen, h.dlen, ?_, ?_, fun i j' T' hj' hT' => ?_, h.high, h.swlen, h.sw, h.tr⟩
      · dsimp only
        rw [List.pairwise_append]
        refine ⟨h.sorted, by simp, fun x hx y hy => ?_⟩
        simp at hy; subst hy
        have hxl := h.lt x hx
        obtain ⟨jx, Tx, hjx, hTx, _⟩ := job_of hok hxl
        obtain ⟨e', d', h1, h2, h3⟩ := h.job x jx Tx hjx hTx
        have hAx : Come js t y x := by
          rcases h3 with ⟨_, h4, _⟩ | ⟨h4, _⟩ | ⟨h4, _⟩ | ⟨h4, _⟩
          · exact absurd hx h4
          · exact h4
          · exact h4
          · exact h4
        rcases hAx with h4 | ⟨_, h4⟩
        · rcases Nat.lt_trichotomy x y with h5 | h5 | h5
          · exact h5
          · subst h5; omega
          · have := at_mono hok h5 hxl; omega
        · exact h4
      · intro x hx
        rcases List.mem_append.1 hx with hx | hx
        · exact h.lt x hx
        · simp at hx; subst hx; exact hm
      · by_cases hi : i = m
        · subst hi
          rw [hj] at hj'; simp at hj'; subst hj'
          rw [hT] at hT'; simp at hT'; subst hT'
          exact ⟨-1, 0, he, hd, .inr (.inl ⟨hA2, by simp, rfl, Int.le_refl _, by omega, by omega, hcr2⟩)⟩
        · obtain ⟨e', d', h1, h2, h3⟩ := h.job i j' T' hj' hT'
          exact ⟨e', d', h1, h2, h3.mono (hA i hi) (by simp [hi]) (Nat.le_refl _)⟩
theorem Inv.comeFrom (hok : jobsOk l js = true) : ∀ (k m : Nat) (s : St), m + k = js.length → Inv l js (Come js t m) t s → Inv l js (Come js t js.length) t (comeFrom l js t k m s)
  | 0, m, s, hm, h => by rw [show js.length = m by omega]; exact h
  | k + 1, m, s, hm, h => Inv.comeFrom hok k (m + 1) _ (by omega) (h.come1 hok (by omega))
def Here (js : List Jb) (t : Nat) (i : Nat) : Prop := atOf js i < t
theorem Inv.comes (hok : jobsOk l js = true) (h : Inv l js (Here js t) t s) : Inv l js (Here js (t + 1)) t (Go.Proofs.YtaadlgpglfpmpaaDoor.comeFrom l js t js.length 0 (Go.Proofs.YtaadlgpglfpmpaaDoor.low0 s)) := by
  have h0 := h.low0.congr (A' := Come js t 0) (fun i _ => by unfold Here Come; omega)
  exact (Inv.comeFrom hok js.length 0 _ (by omega) h0).congr (fun i hi => by unfold Here Come; omega)

/-! ### A job runs -/

theorem bestOf_mem (g : Nat → Nat → Bool) : ∀ (q : List Nat) (r : Nat), bestOf g r q = r ∨ bestOf g r q ∈ q
  | [], r => .inl rfl
  | i :: q, r => by
    rw [bestOf]
    rcases bestOf_mem g q (if g i r = true then i else r) with h | h
    · rw [h]; split
      · exact .inr (by simp)
      · exact .inl rfl
    · exact .inr (by simp [h])
theorem ran_left (l : List Tk) (js : List Jb) (t1 : Int) (r : Nat) (n : Int) (j : Jb) (T : Tk) (s : St) : (ran l js t1 r n j T s).left = s.left := by
  unfold ran; split
  · rfl
  · split <;> rfl
/-- What a tick does when a job is left. -/
theorem work_some (hok : jobsOk l js = true) {A : Nat → Prop} (h : Inv l js A t s) (due : Bool) (x : Fr) (t1 : Int) (hne : s.left ≠ []) : ∃ r j T d, r ∈ s.left ∧ (∃ r0 q, s.left = r0 :: q ∧ r = bestOf (goesB l js due x s.high) r0 q) ∧ js[r]? = some j ∧ l[j.task.toNat]? = some T ∧ tkOf l js r = some T ∧ critOf l js r = T.crit ∧ T.ok = true ∧ s.done[r]? = some d ∧ s.ended[r]? = some (-1) ∧ A r ∧ 0 ≤ d ∧ d < j.need ∧ d ≤ t - j.at_ ∧ (T.crit = true → s.high = false → d < T.low) ∧
    0 ≤ j.task ∧ j.task < l.length ∧
    work l js due x t1 s = { ran l js t1 r (d + 1) j T { s with trace := s.trace ++ [j.task], done := s.done.set r (d + 1) } with left := s.left.filter (still (ran l js t1 r (d + 1) j T { s with trace := s.trace ++ [j.task], done := s.done.set r (d + 1) }).ended) } := by
  cases hl : s.left with
  | nil => exact absurd hl hne
  | cons r0 q =>
    have hr : bestOf (goesB l js due x s.high) r0 q ∈ s.left := by
      rw [hl]
      rcases bestOf_mem (goesB l js due x s.high) q r0 with h | h
      · rw [h]; simp
      · simp [h]
    obtain ⟨r, er⟩ : ∃ r, bestOf (goesB l js due x s.high) r0 q = r := ⟨_, rfl⟩
    rw [er] at hr
    obtain ⟨j, T, hj, hT, hTo, ha0, ha1, hn1, hnh, ht0, htl, hcr, htk⟩ := job_of hok (h.lt r hr)
    obtain ⟨e, d, he, hd, hst⟩ := h.job r j T hj hT
    rcases hst with ⟨_, h2, _⟩ | ⟨h1, _, rfl, h4, h5, h6, h7⟩ | ⟨_, h2, _⟩ | ⟨_, h2, _⟩
    · exact absurd hr h2
    · refine ⟨r, j, T, d, by rw [← hl]; exact hr, ⟨r0, q, rfl, er.symm⟩, hj, hT, htk, hcr, hTo, hd, he, h1, h4, h5, h6, h7, ht0, htl, ?_⟩
      rw [work]
      simp only [hl, er, hj, htk, hd, ran_left]
    · exact absurd hr h2
    · exact absurd hr h2
theorem dropAll_get (hok : jobsOk l js = true) : ∀ (q : List Nat) (e : List Int) (i : Nat), e.length = js.length → i < js.length → (∀ k ∈ q, k < js.length) → (dropAll l js q e)[i]? = if i ∈ q ∧ critOf l js i = false then some (-2) else e[i]?
  | [], e, i, _, _, _ => by simp [dropAll]
  | k :: q, e, i, he, hi, hq => by
    rw [dropAll, dropAll_get hok q _ i (by split <;> simp [he]) hi (fun x hx => hq x (by simp [hx]))]
    have hk := hq k (by simp)
    by_cases h1 : i ∈ q ∧ critOf l js i = false
    · rw [if_pos h1, if_pos ⟨by simp [h1.1], h1.2⟩]
    · rw [if_neg h1]
      by_cases h2 : i = k
      · subst h2
        cases hc : critOf l js i with
        | true => rw [if_pos rfl, if_neg (by simp)]
        | false => rw [if_neg (by simp), if_pos ⟨by simp, rfl⟩, set_at (by omega)]
      · have h3 : ¬ (i ∈ k :: q ∧ critOf l js i = false) := by
          rintro ⟨h4, h5⟩
          rcases List.mem_cons.1 h4 with h4 | h4
          · exact h2 h4
          · exact h1 ⟨h4, h5⟩
        rw [if_neg h3]
        split
        · rfl
        · exact set_oth (fun e => h2 e.symm)
theorem dropAll_len : ∀ (q : List Nat) (e : List Int), (dropAll l js q e).length = e.length
  | [], _ => rfl
  | k :: q, e => by rw [dropAll, dropAll_len q]; split <;> simp
theorem still_at {e : List Int} {i : Nat} {x : Int} (h : e[i]? = some x) : still e i = decide (x = -1) := by simp [still, h]

theorem Inv.work (hok : jobsOk l js = true) (h : Inv l js (Here js (t + 1)) t s) (due : Bool) (x : Fr) : Inv l js (Here js (t + 1)) (t + 1) (work l js due x ((t : Int) + 1) s) := by
  by_cases hne : s.left = []
  · have he : Go.Proofs.YtaadlgpglfpmpaaDoor.work l js due x ((t : Int) + 1) s = { s with trace := s.trace ++ [-1] } := by rw [Go.Proofs.YtaadlgpglfpmpaaDoor.work, hne]
    rw [he]
    refine ⟨h.elen, h.dlen, h.sorted, h.lt, fun i j T hj hT => ?_, h.high, Nat.le_succ_of_le h.swlen, fun y hy => by have := h.sw y hy; omega, fun y hy => ?_⟩
    · obtain ⟨e, d, h1, h2, h3⟩ := h.job i j T hj hT
      exact ⟨e, d, h1, h2, h3.mono Iff.rfl Iff.rfl (Nat.le_succ _)⟩
    · rcases List.mem_append.1 hy with hy | hy
      · exact h.tr y hy
      · simp at hy; subst hy; omega
  · obtain ⟨r, j, T, d, hr, _, hj, hT, htk, hcr, hTo, hd, he, hA, hd0, hdn, hdt, hdl, ht0, htl, hw⟩ := work_some hok h due x ((t : Int) + 1) hne
    have hk := (Tk.ok_iff _).1 hTo
    have hrl := h.lt r hr
    rw [hw]
    clear hw
    have hel := h.elen
    have hdle := h.dlen
    have htr : ∀ y ∈ s.trace ++ [j.task], -1 ≤ y ∧ y < l.length := fun y hy => by
      rcases List.mem_append.1 hy with hy | hy
      · exact h.tr y hy
      · simp at hy; subst hy; omega
    have hsub : ∀ (e' : List Int), (s.left.filter (still e')).Pairwise (· < ·) := fun e' => h.sorted.filter _
    have hflt : ∀ (e' : List Int), ∀ i ∈ s.left.filter (still e'), i < js.length := fun e' i hi => h.lt i (List.mem_filter.1 hi).1
    -- of another job than the one that runs
    by_cases c1 : d + 1 = j.need
    · have hran : ran l js ((t : Int) + 1) r (d + 1) j T { s with trace := s.trace ++ [j.task], done := s.done.set r (d + 1) } = { s with trace := s.trace ++ [j.task], done := s.done.set r (d + 1), ended := s.ended.set r ((t : Int) + 1) } := by rw [ran, if_pos c1]
      rw [hran]
      refine ⟨by simp [hel], by simp [hdle], hsub _, hflt _, fun i j' T' hj' hT' => ?_, h.high, Nat.le_succ_of_le h.swlen, fun y hy => by have := h.sw y hy; omega, htr⟩
      dsimp only
      by_cases hi : i = r
      · subst hi
        rw [hj] at hj'; simp at hj'; subst hj'
        rw [hT] at hT'; simp at hT'; subst hT'
        refine ⟨(t : Int) + 1, d + 1, set_at (by omega), set_at (by omega), .inr (.inr (.inr ⟨hA, ?_, by omega, by omega, by omega⟩))⟩
        rw [List.mem_filter]
        rintro ⟨_, h2⟩
        rw [still_at (set_at (by omega))] at h2
        simp at h2; omega
      · obtain ⟨e', d', h1, h2, h3⟩ := h.job i j' T' hj' hT'
        have hs1 : (s.ended.set r ((t : Int) + 1))[i]? = some e' := by rw [set_oth (fun e => hi e.symm)]; exact h1
        have hs2 : (s.done.set r (d + 1))[i]? = some d' := by rw [set_oth (fun e => hi e.symm)]; exact h2
        refine ⟨e', d', hs1, hs2, h3.mono Iff.rfl ?_ (Nat.le_succ _)⟩
        rw [List.mem_filter, still_at hs1]
        constructor
        · intro h4
          refine ⟨h4, ?_⟩
          rcases h3 with ⟨_, h5, _⟩ | ⟨_, _, h5, _⟩ | ⟨_, h5, _⟩ | ⟨_, h5, _⟩
          · exact absurd h4 h5
          · simp [h5]
          · exact absurd h4 h5
          · exact absurd h4 h5
        · exact fun h4 => h4.1
    · by_cases c2 : s.high = false ∧ T.crit = true ∧ d + 1 = T.low
      · have hran : ran l js ((t : Int) + 1) r (d + 1) j T { s with trace := s.trace ++ [j.task], done := s.done.set r (d + 1) } = { s with trace := s.trace ++ [j.task], done := s.done.set r (d + 1), high := true, switches := s.switches ++ [(t : Int) + 1], ended := dropAll l js s.left s.ended } := by rw [ran, if_neg c1, if_pos c2]
        rw [hran]
        have hswl : (s.switches ++ [(t : Int) + 1]).length ≤ t + 1 := by have := h.swlen; simp; omega
        refine ⟨by simp [dropAll_len, hel], by simp [hdle], hsub _, hflt _, fun i j' T' hj' hT' => ?_, fun _ => by simp, hswl, fun y hy => ?_, htr⟩
        · dsimp only
          have hil := (List.getElem?_eq_some_iff.1 hj').1
          have hdr := dropAll_get hok s.left s.ended i hel hil h.lt
          obtain ⟨e', d', h1, h2, h3⟩ := h.job i j' T' hj' hT'
          have hcr' : critOf l js i = T'.crit := by
            rw [critOf, tkOf, hj']; dsimp only; rw [hT']
          by_cases hi : i = r
          · subst hi
            rw [hj] at hj'; simp at hj'; subst hj'
            rw [hT] at hT'; simp at hT'; subst hT'
            have hs1 : (dropAll l js s.left s.ended)[i]? = some (-1) := by rw [hdr, if_neg (by rw [hcr, c2.2.1]; simp)]; exact he
            refine ⟨-1, d + 1, hs1, set_at (by omega), .inr (.inl ⟨hA, ?_, rfl, by omega, by omega, by omega, fun _ hf => by simp at hf⟩)⟩
            rw [List.mem_filter, still_at hs1]; exact ⟨hr, by simp⟩
          · have hs2 : (s.done.set r (d + 1))[i]? = some d' := by rw [set_oth (fun e => hi e.symm)]; exact h2
            by_cases hd2 : i ∈ s.left ∧ critOf l js i = false
            · rw [if_pos hd2] at hdr
              rcases h3 with ⟨_, h5, _⟩ | ⟨h4, _, h5, h6, h7, h8, _⟩ | ⟨_, h5, _⟩ | ⟨_, h5, _⟩
              · exact absurd hd2.1 h5
              · refine ⟨-2, d', hdr, hs2, .inr (.inr (.inl ⟨h4, ?_, rfl, by rw [← hcr']; exact hd2.2, by simp, h6, h7, by omega⟩))⟩
                rw [List.mem_filter, still_at hdr]; simp
              · exact absurd hd2.1 h5
              · exact absurd hd2.1 h5
            · rw [if_neg hd2] at hdr
              have hs1 := hdr.trans h1
              rcases h3 with ⟨h4, h5, h6⟩ | ⟨h4, h5, h6, h7, h8, h9, _⟩ | ⟨h4, h5, h6, h7, h8, h9, h10, h11⟩ | ⟨h4, h5, h6, h7, h8⟩
              · exact ⟨e', d', hs1, hs2, .inl ⟨h4, fun hm => h5 (List.mem_filter.1 hm).1, h6⟩⟩
              · refine ⟨e', d', hs1, hs2, .inr (.inl ⟨h4, ?_, h6, h7, h8, by omega, fun _ hf => by simp at hf⟩)⟩
                rw [List.mem_filter, still_at hs1]; exact ⟨h5, by simp [h6]⟩
              · exact ⟨e', d', hs1, hs2, .inr (.inr (.inl ⟨h4, fun hm => h5 (List.mem_filter.1 hm).1, h6, h7, by simp, h9, h10, by omega⟩))⟩
              · exact ⟨e', d', hs1, hs2, .inr (.inr (.inr ⟨h4, fun hm => h5 (List.mem_filter.1 hm).1, h6, by omega, h8⟩))⟩
        · rcases List.mem_append.1 hy with hy | hy
          · have := h.sw y hy; omega
          · simp at hy; subst hy; omega
      · have hran : ran l js ((t : Int) + 1) r (d + 1) j T { s with trace := s.trace ++ [j.task], done := s.done.set r (d + 1) } = { s with trace := s.trace ++ [j.task], done := s.done.set r (d + 1) } := by rw [ran, if_neg c1, if_neg c2]
        rw [hran]
        refine ⟨hel, by simp [hdle], hsub _, hflt _, fun i j' T' hj' hT' => ?_, h.high, Nat.le_succ_of_le h.swlen, fun y hy => by have := h.sw y hy; omega, htr⟩
        dsimp only
        obtain ⟨e', d', h1, h2, h3⟩ := h.job i j' T' hj' hT'
        by_cases hi : i = r
        · subst hi
          rw [hj] at hj'; simp at hj'; subst hj'
          rw [hT] at hT'; simp at hT'; subst hT'
          refine ⟨-1, d + 1, he, set_at (by omega), .inr (.inl ⟨hA, ?_, rfl, by omega, by omega, by omega, fun hf1 hf2 => ?_⟩)⟩
          · rw [List.mem_filter, still_at he]; exact ⟨hr, by simp⟩
          · have := hdl hf1 hf2
            have : d + 1 ≠ T.low := fun e => c2 ⟨hf2, hf1, e⟩
            omega
        · have hs2 : (s.done.set r (d + 1))[i]? = some d' := by rw [set_oth (fun e => hi e.symm)]; exact h2
          refine ⟨e', d', h1, hs2, h3.mono Iff.rfl ?_ (Nat.le_succ _)⟩
          rw [List.mem_filter, still_at h1]
          constructor
          · intro h4
            refine ⟨h4, ?_⟩
            rcases h3 with ⟨_, h5, _⟩ | ⟨_, _, h5, _⟩ | ⟨_, h5, _⟩ | ⟨_, h5, _⟩
            · exact absurd h4 h5
            · simp [h5]
            · exact absurd h4 h5
            · exact absurd h4 h5
          · exact fun h4 => h4.1
theorem Inv.tick (hok : jobsOk l js = true) (h : Inv l js (Here js t) t s) (due : Bool) (x : Fr) : Inv l js (Here js (t + 1)) (t + 1) (tick l js due x t s) := (h.comes hok).work hok due x
end
theorem inv_start {l : List Tk} {js : List Jb} (hok : jobsOk l js = true) : Inv l js (Here js 0) 0 (st0 js.length) := by
  refine ⟨by simp [st0], by simp [st0], by simp [st0], by simp [st0], fun i j T hj hT => ?_, by simp [st0], by simp [st0], by simp [st0], by simp [st0]⟩
  have hi := (List.getElem?_eq_some_iff.1 hj).1
  obtain ⟨j', T', hj', _, _, h0, _⟩ := job_of hok hi
  rw [hj] at hj'; simp at hj'; subst hj'
  exact ⟨-1, 0, by simp [st0, hi], by simp [st0, hi], .inl ⟨by unfold Here; rw [at_eq hj]; omega, by simp [st0], rfl, rfl⟩⟩
theorem tick_trace (l : List Tk) (js : List Jb) (due : Bool) (x : Fr) (t : Nat) (s : St) {A : Nat → Prop} (hok : jobsOk l js = true) (h : Inv l js A t (comeFrom l js t js.length 0 (low0 s))) : ∃ y, (tick l js due x t s).trace = (comeFrom l js t js.length 0 (low0 s)).trace ++ [y] := by
  unfold tick
  obtain ⟨s1, e1⟩ : ∃ s1, comeFrom l js t js.length 0 (low0 s) = s1 := ⟨_, rfl⟩
  rw [e1] at h ⊢
  by_cases hne : s1.left = []
  · exact ⟨-1, by rw [work, hne]⟩
  · obtain ⟨r, j, T, d, _, _, _, _, _, _, _, _, _, _, _, _, _, _, _, _, hw⟩ := work_some hok h due x ((t : Int) + 1) hne
    rw [hw]
    refine ⟨j.task, ?_⟩
    unfold ran; split
    · rfl
    · split <;> rfl
theorem come1_keep (l : List Tk) (js : List Jb) (t : Int) (i : Nat) (s : St) : (come1 l js t i s).trace = s.trace ∧ (come1 l js t i s).switches = s.switches ∧ (come1 l js t i s).done = s.done ∧ (come1 l js t i s).high = s.high := by
  unfold come1
  split
  · exact ⟨rfl, rfl, rfl, rfl⟩
  · split <;> exact ⟨rfl, rfl, rfl, rfl⟩
theorem comeFrom_keep (l : List Tk) (js : List Jb) (t : Int) : ∀ (m i : Nat) (s : St), (comeFrom l js t m i s).trace = s.trace ∧ (comeFrom l js t m i s).switches = s.switches ∧ (comeFrom l js t m i s).done = s.done ∧ (comeFrom l js t m i s).high = s.high
  | 0, _, _ => ⟨rfl, rfl, rfl, rfl⟩
  | m + 1, i, s => by
    obtain ⟨h1, h2, h3, h4⟩ := comeFrom_keep l js t m (i + 1) (come1 l js t i s)
    obtain ⟨k1, k2, k3, k4⟩ := come1_keep l js t i s
    rw [comeFrom]; exact ⟨h1.trans k1, h2.trans k2, h3.trans k3, h4.trans k4⟩
theorem low0_keep (s : St) : (low0 s).trace = s.trace ∧ (low0 s).switches = s.switches ∧ (low0 s).done = s.done ∧ (low0 s).ended = s.ended ∧ (low0 s).left = s.left := by
  unfold low0; split <;> exact ⟨rfl, rfl, rfl, rfl, rfl⟩
end Go.Proofs.YtaadlgpglfpmpaaDoor

/-
  What the reference's machine keeps, said by the state of a run: the jobs that are left with what was done of them, and the next job. No program in sight.
-/

namespace Go.Proofs.YtaadlgpglfpmpaaDoor
open Go.RowKit

def NX (js : List Jb) (k n : Nat) : Prop := n ≤ js.length ∧ (∀ i, i < n → atOf js i < k) ∧ (∀ i, n ≤ i → i < js.length → (k : Int) ≤ atOf js i)
/-- The jobs that are left, with what was done of them. -/
def wk (d : List Int) (q : List Nat) : List (Nat × Int) := q.map fun i => (i, d[i]?.getD 0)
theorem wk_len (d : List Int) (q : List Nat) : (wk d q).length = q.length := by simp [wk]
theorem wk_append (d : List Int) (q : List Nat) (m : Nat) : wk d (q ++ [m]) = wk d q ++ [(m, d[m]?.getD 0)] := by simp [wk]
theorem wk_get {d : List Int} {q : List Nat} {p i : Nat} {x : Int} (h : q[p]? = some i) (hd : d[i]? = some x) : (wk d q)[p]? = some (i, x) := by simp [wk, h, hd]
theorem wk_set {d : List Int} {q : List Nat} {b r : Nat} (hq : q.Pairwise (· < ·)) (hb : q[b]? = some r) (hr : r < d.length) (x : Int) : wk (d.set r x) q = (wk d q).set b (r, x) := by
  apply List.ext_getElem?
  intro p
  rw [List.getElem?_set]
  have hbl := (List.getElem?_eq_some_iff.1 hb).1
  by_cases hp : b = p
  · subst hp
    rw [if_pos rfl, if_pos (by rw [wk_len]; exact hbl), wk_get hb (set_at hr)]
  · rw [if_neg hp]
    simp only [wk, List.getElem?_map]
    cases hi : q[p]? with
    | none => rfl
    | some i =>
      have hne : r ≠ i := by
        rcases Nat.lt_or_gt_of_ne hp with h | h
        · have := pair_at hq h hb hi; omega
        · have := pair_at hq h hi hb; omega
      simp [set_oth hne]
theorem filter_all {α : Type} {f : α → Bool} : ∀ {q : List α}, (∀ i ∈ q, f i = true) → q.filter f = q
  | [], _ => rfl
  | a :: q, h => by rw [List.filter_cons, if_pos (h a (by simp)), filter_all (fun i hi => h i (by simp [hi]))]
theorem filter_one {f : Nat → Bool} : ∀ {q : List Nat} {b r : Nat}, q[b]? = some r → f r = false → (∀ p i, q[p]? = some i → p ≠ b → f i = true) → q.filter f = q.take b ++ q.drop (b + 1)
  | [], _, _, h, _, _ => by simp at h
  | a :: q, 0, r, h, hr, ho => by
    simp at h; subst h
    rw [List.filter_cons, if_neg (by simp [hr])]
    simp only [List.take_zero, List.nil_append, Nat.zero_add, List.drop_succ_cons, List.drop_zero]
    exact filter_all fun i hi => by
      obtain ⟨p, hp⟩ := List.mem_iff_getElem?.1 hi
      exact ho (p + 1) i (by simpa using hp) (by omega)
  | a :: q, b + 1, r, h, hr, ho => by
    rw [List.filter_cons, if_pos (ho 0 a rfl (by omega))]
    simp only [List.take_succ_cons, List.cons_append, List.drop_succ_cons]
    rw [filter_one (b := b) (by simpa using h) hr (fun p i hp hne => ho (p + 1) i (by simpa using hp) (by omega))]
theorem still_erase {q : List Nat} {e : List Int} {b r : Nat} {y : Int} (hq : q.Pairwise (· < ·)) (hb : q[b]? = some r) (hr : r < e.length) (he : ∀ i ∈ q, e[i]? = some (-1)) (hy : y ≠ -1) : q.filter (still (e.set r y)) = q.take b ++ q.drop (b + 1) := by
  refine filter_one hb (by rw [still_at (set_at hr)]; simp [hy]) fun p i hp hne => ?_
  have hri : r ≠ i := by
    rcases Nat.lt_or_gt_of_ne hne with h | h
    · have := pair_at hq h hp hb; omega
    · have := pair_at hq h hb hp; omega
  rw [still_at (by rw [set_oth hri]; exact he i (List.mem_of_getElem? hp))]; rfl
theorem still_none {q : List Nat} {e : List Int} (he : ∀ i ∈ q, e[i]? = some (-1)) : q.filter (still e) = q := filter_all fun i hi => by rw [still_at (he i hi)]; rfl
theorem still_drop {l : List Tk} {js : List Jb} (hok : jobsOk l js = true) {q : List Nat} {e : List Int} (hel : e.length = js.length) (hq : ∀ i ∈ q, i < js.length) (he : ∀ i ∈ q, e[i]? = some (-1)) : q.filter (still (dropAll l js q e)) = q.filter (critOf l js) := by
  apply List.filter_congr
  intro i hi
  have h := dropAll_get hok q e i hel (hq i hi) hq
  cases hc : critOf l js i with
  | true => rw [if_neg (by rw [hc]; simp)] at h; rw [still_at (h.trans (he i hi))]; rfl
  | false => rw [if_pos ⟨hi, hc⟩] at h; rw [still_at h]; rfl
theorem Inv.left_e {l : List Tk} {js : List Jb} {A : Nat → Prop} {t : Nat} {s : St} (h : Inv l js A t s) (hok : jobsOk l js = true) : ∀ i ∈ s.left, s.ended[i]? = some (-1) := by
  intro i hi
  obtain ⟨j, T, hj, hT, _⟩ := job_of hok (h.lt i hi)
  obtain ⟨e, d, he, hd, hst⟩ := h.job i j T hj hT
  rcases hst with ⟨_, h2, _⟩ | ⟨_, _, rfl, _⟩ | ⟨_, h2, _⟩ | ⟨_, h2, _⟩
  · exact absurd hi h2
  · exact he
  · exact absurd hi h2
  · exact absurd hi h2
theorem Inv.left_d {l : List Tk} {js : List Jb} {A : Nat → Prop} {t : Nat} {s : St} (h : Inv l js A t s) : ∀ i ∈ s.left, ∃ d, s.done[i]? = some d := by
  intro i hi
  have hi2 := h.lt i hi
  rw [← h.dlen] at hi2
  exact getSome hi2
/-- A job that has not come. -/
theorem Inv.fresh {l : List Tk} {js : List Jb} {t m : Nat} {s : St} (h : Inv l js (Come js t m) t s) (hok : jobsOk l js = true) (hm : m < js.length) (hat : atOf js m = t) : s.done[m]? = some 0 := by
  obtain ⟨j, T, hj, hT, _⟩ := job_of hok hm
  obtain ⟨e, d, he, hd, hst⟩ := h.job m j T hj hT
  have hnA : ¬ Come js t m m := by unfold Come; omega
  rcases hst with ⟨_, _, _, rfl⟩ | ⟨h1, _⟩ | ⟨h1, _⟩ | ⟨h1, _⟩
  · exact hd
  · exact absurd h1 hnA
  · exact absurd h1 hnA
  · exact absurd h1 hnA
theorem come_skip (l : List Tk) (js : List Jb) (t : Int) : ∀ (m i : Nat) (s : St), (∀ x, i ≤ x → x < i + m → atOf js x ≠ t) → comeFrom l js t m i s = s
  | 0, _, _, _ => rfl
  | m + 1, i, s, h => by
    rw [comeFrom, come1, if_pos (h i (Nat.le_refl _) (by omega)), come_skip l js t m (i + 1) s (fun x h1 h2 => h x (by omega) (by omega))]
theorem come_split (l : List Tk) (js : List Jb) (t : Int) : ∀ (a b i : Nat) (s : St), comeFrom l js t (a + b) i s = comeFrom l js t b (i + a) (comeFrom l js t a i s)
  | 0, b, i, s => by rw [Nat.zero_add]; rfl
  | a + 1, b, i, s => by
    rw [show a + 1 + b = (a + b) + 1 by omega, comeFrom, come_split l js t a b (i + 1), comeFrom, show i + 1 + a = i + (a + 1) by omega]
theorem come_from {js : List Jb} {k n : Nat} (l : List Tk) (h : NX js k n) (s : St) : comeFrom l js k js.length 0 s = comeFrom l js k (js.length - n) n s := by
  have h1 := come_split l js k n (js.length - n) 0 s
  rw [show n + (js.length - n) = js.length from by have := h.1; omega, Nat.zero_add] at h1
  rw [h1, come_skip l js k n 0 s (fun x _ hx => by have := h.2.1 x (by omega); omega)]
/-- The jobs that come at a tick, up to m. -/
def NY (js : List Jb) (k m : Nat) : Prop := m ≤ js.length ∧ (∀ i, i < m → atOf js i ≤ k) ∧ (∀ i, m ≤ i → i < js.length → (k : Int) ≤ atOf js i)
theorem NX.ny {js : List Jb} {k n : Nat} (h : NX js k n) : NY js k n := ⟨h.1, fun i hi => by have := h.2.1 i hi; omega, h.2.2⟩
theorem NY.next {js : List Jb} {k m : Nat} (h : NY js k m) (hm : m < js.length) (hat : atOf js m = k) : NY js k (m + 1) :=
  ⟨by omega, fun i hi => by
    by_cases e : i = m
    · subst e; omega
    · exact h.2.1 i (by omega), fun i hi hl => h.2.2 i (by omega) hl⟩
theorem NY.done {l : List Tk} {js : List Jb} {k m : Nat} (h : NY js k m) (hok : jobsOk l js = true) (hat : m < js.length → atOf js m ≠ k) : NX js (k + 1) m ∧ (∀ s, comeFrom l js k (js.length - m) m s = s) := by
  have hgt : ∀ i, m ≤ i → i < js.length → (k : Int) < atOf js i := fun i hi hl => by
    have h1 := hat (by omega)
    have h2 := h.2.2 m (Nat.le_refl _) (by omega)
    rcases Nat.eq_or_lt_of_le hi with e | e
    · subst e; omega
    · have := at_mono hok e hl; omega
  refine ⟨⟨h.1, fun i hi => by have := h.2.1 i hi; omega, fun i hi hl => by have := hgt i hi hl; omega⟩, fun s => come_skip l js k _ _ s fun x h1 h2 => ?_⟩
  have := hgt x h1 (by have := h.1; omega)
  omega
theorem NX.zero {l : List Tk} {js : List Jb} (hok : jobsOk l js = true) : NX js 0 0 :=
  ⟨Nat.zero_le _, fun i hi => by omega, fun i _ hl => by
    obtain ⟨j, T, hj, _, _, h0, _⟩ := job_of hok hl
    rw [at_eq hj]; omega⟩
/-- The keys do not matter by place. -/
theorem goes_place_any (l : List Tk) (js : List Jb) (x y : Fr) (g h : Bool) (a b : Nat) : goesB l js false x g a b = goesB l js false y h a b := by simp [goesB]
end Go.Proofs.YtaadlgpglfpmpaaDoor

/-
  What a tick does, case by case, and what stays as it is once it is told. No program in sight.
-/

namespace Go.Proofs.YtaadlgpglfpmpaaDoor
open Go.RowKit

/-- What ended does not turn again; what has not ended is dropped or ends later than t. -/
def Em (t : Nat) (e e' : List Int) : Prop := ∀ (i : Nat) (x : Int), e[i]? = some x → ∃ y, e'[i]? = some y ∧ (y = x ∨ (x = -1 ∧ (y = -2 ∨ (t : Int) < y)))
theorem Em.refl (t : Nat) (e : List Int) : Em t e e := fun _ x h => ⟨x, h, .inl rfl⟩
theorem Em.trans {t t' : Nat} {a b c : List Int} (h : Em t a b) (h' : Em t' b c) (ht : t ≤ t') : Em t a c := fun i x hx => by
  obtain ⟨y, hy, h1⟩ := h i x hx
  obtain ⟨z, hz, h2⟩ := h' i y hy
  exact ⟨z, hz, by omega⟩
theorem Em.set {t : Nat} {e : List Int} {r : Nat} {y : Int} (hr : e[r]? = some (-1)) (hy : y = -2 ∨ (t : Int) < y) : Em t e (e.set r y) := fun i x hx => by
  by_cases hi : r = i
  · subst hi
    rw [hr] at hx; simp at hx; subst hx
    exact ⟨y, set_at (List.getElem?_eq_some_iff.1 hr).1, .inr ⟨rfl, hy⟩⟩
  · exact ⟨x, by rw [set_oth hi]; exact hx, .inl rfl⟩
section
variable {l : List Tk} {js : List Jb} {t : Nat} {s : St}
theorem Inv.fresh_e {m : Nat} (h : Inv l js (Come js t m) t s) (hok : jobsOk l js = true) (hm : m < js.length) (hat : atOf js m = t) : s.ended[m]? = some (-1) := by
  obtain ⟨j, T, hj, hT, _⟩ := job_of hok hm
  obtain ⟨e, d, he, hd, hst⟩ := h.job m j T hj hT
  have hnA : ¬ Come js t m m := by unfold Come; omega
  rcases hst with ⟨_, _, rfl, _⟩ | ⟨h1, _⟩ | ⟨h1, _⟩ | ⟨h1, _⟩
  · exact he
  · exact absurd h1 hnA
  · exact absurd h1 hnA
  · exact absurd h1 hnA
theorem come1_em (hok : jobsOk l js = true) {m : Nat} (hm : m < js.length) (h : Inv l js (Come js t m) t s) : Em t s.ended (come1 l js t m s).ended := by
  unfold come1
  split
  · exact Em.refl _ _
  · rename_i hne
    split
    · exact Em.set (h.fresh_e hok hm (by simpa using hne)) (.inl rfl)
    · exact Em.refl _ _
theorem come_em (hok : jobsOk l js = true) : ∀ (k m : Nat) (s : St), m + k = js.length → Inv l js (Come js t m) t s → Em t s.ended (comeFrom l js t k m s).ended
  | 0, _, _, _, _ => Em.refl _ _
  | k + 1, m, s, hm, h => (come1_em hok (by omega) h).trans (come_em hok k (m + 1) _ (by omega) (h.come1 hok (by omega))) (Nat.le_refl _)

/-- How job r runs in the tick t. -/
def Ran (l : List Tk) (js : List Jb) (t r : Nat) (j : Jb) (T : Tk) (d : Int) (s s' : St) : Prop :=
  (d + 1 = j.need ∧ s' = { s with trace := s.trace ++ [j.task], done := s.done.set r (d + 1), ended := s.ended.set r ((t : Int) + 1), left := s.left.filter (still (s.ended.set r ((t : Int) + 1))) }) ∨
  (d + 1 ≠ j.need ∧ s.high = false ∧ T.crit = true ∧ d + 1 = T.low ∧ s' = { s with trace := s.trace ++ [j.task], done := s.done.set r (d + 1), high := true, switches := s.switches ++ [(t : Int) + 1], ended := dropAll l js s.left s.ended, left := s.left.filter (critOf l js) }) ∨
  (d + 1 ≠ j.need ∧ ¬ (s.high = false ∧ T.crit = true ∧ d + 1 = T.low) ∧ s' = { s with trace := s.trace ++ [j.task], done := s.done.set r (d + 1) })
theorem work_cases (hok : jobsOk l js = true) (h : Inv l js (Here js (t + 1)) t s) (due : Bool) (x : Fr) (hne : s.left ≠ []) : ∃ r j T d, r ∈ s.left ∧ (∃ r0 q, s.left = r0 :: q ∧ r = bestOf (goesB l js due x s.high) r0 q) ∧ js[r]? = some j ∧ l[j.task.toNat]? = some T ∧ tkOf l js r = some T ∧ critOf l js r = T.crit ∧ T.ok = true ∧ s.done[r]? = some d ∧ s.ended[r]? = some (-1) ∧ Here js (t + 1) r ∧ 0 ≤ d ∧ d < j.need ∧ d ≤ t - j.at_ ∧ (T.crit = true → s.high = false → d < T.low) ∧ 0 ≤ j.task ∧ j.task < l.length ∧ Ran l js t r j T d s (work l js due x ((t : Int) + 1) s) := by
  obtain ⟨r, j, T, d, h1, h2, h3, h4, h5, h6, h7, h8, h9, h10, h11, h12, h13, h14, h15, h16, hw⟩ := work_some hok h due x ((t : Int) + 1) hne
  refine ⟨r, j, T, d, h1, h2, h3, h4, h5, h6, h7, h8, h9, h10, h11, h12, h13, h14, h15, h16, ?_⟩
  rw [hw]
  have he := h.left_e hok
  by_cases c1 : d + 1 = j.need
  · refine .inl ⟨c1, ?_⟩
    rw [ran, if_pos c1]
  · by_cases c2 : s.high = false ∧ T.crit = true ∧ d + 1 = T.low
    · refine .inr (.inl ⟨c1, c2.1, c2.2.1, c2.2.2, ?_⟩)
      rw [ran, if_neg c1, if_pos c2]
      dsimp only
      rw [still_drop hok h.elen h.lt he]
    · refine .inr (.inr ⟨c1, c2, ?_⟩)
      rw [ran, if_neg c1, if_neg c2]
      dsimp only
      rw [still_none he]
theorem work_idle (due : Bool) (x : Fr) (t1 : Int) (h : s.left = []) : work l js due x t1 s = { s with trace := s.trace ++ [-1] } := by rw [work, h]
theorem dropAll_em (hok : jobsOk l js = true) (h : Inv l js (Here js (t + 1)) t s) : Em t s.ended (dropAll l js s.left s.ended) := fun i x hx => by
  have hil : i < js.length := by rw [← h.elen]; exact (List.getElem?_eq_some_iff.1 hx).1
  have hd := dropAll_get hok s.left s.ended i h.elen hil h.lt
  by_cases c : i ∈ s.left ∧ critOf l js i = false
  · rw [if_pos c] at hd
    have := h.left_e hok i c.1
    rw [this] at hx; simp at hx; subst hx
    exact ⟨-2, hd, .inr ⟨rfl, .inl rfl⟩⟩
  · rw [if_neg c] at hd; exact ⟨x, hd.trans hx, .inl rfl⟩
theorem work_em (hok : jobsOk l js = true) (h : Inv l js (Here js (t + 1)) t s) (due : Bool) (x : Fr) : Em t s.ended (work l js due x ((t : Int) + 1) s).ended := by
  by_cases hne : s.left = []
  · rw [work_idle due x _ hne]; exact Em.refl _ _
  · obtain ⟨r, j, T, d, _, _, _, _, _, _, _, _, he, _, _, _, _, _, _, _, hR⟩ := work_cases hok h due x hne
    rcases hR with ⟨_, e⟩ | ⟨_, _, _, _, e⟩ | ⟨_, _, e⟩
    · rw [e]; exact Em.set he (.inr (by omega))
    · rw [e]; exact dropAll_em hok h
    · rw [e]; exact Em.refl _ _
theorem tick_em (hok : jobsOk l js = true) (h : Inv l js (Here js t) t s) (due : Bool) (x : Fr) : Em t s.ended (tick l js due x t s).ended := by
  have h0 := h.low0.congr (A' := Come js t 0) (fun i _ => by unfold Here Come; omega)
  have h1 := come_em hok js.length 0 _ (by omega) h0
  rw [(low0_keep s).2.2.2.1] at h1
  exact h1.trans (work_em hok (h.comes hok) due x) (Nat.le_refl _)
end
/-- What holds from tick to tick. -/
theorem ticks_ind {l : List Tk} {js : List Jb} {due : Bool} {x : Fr} (hok : jobsOk l js = true) {P : Nat → St → Prop} (hstep : ∀ t s, Inv l js (Here js t) t s → P t s → P (t + 1) (tick l js due x t s)) : ∀ (m t : Nat) (s : St), Inv l js (Here js t) t s → P t s → Inv l js (Here js (t + m)) (t + m) (ticks l js due x m t s) ∧ P (t + m) (ticks l js due x m t s)
  | 0, t, s, h, hP => ⟨h, hP⟩
  | m + 1, t, s, h, hP => by
    have := ticks_ind hok hstep m (t + 1) _ (h.tick hok due x) (hstep t s h hP)
    rw [show t + 1 + m = t + (m + 1) by omega] at this
    exact this
theorem ticks_inv {l : List Tk} {js : List Jb} (due : Bool) (x : Fr) (hok : jobsOk l js = true) (n : Nat) : Inv l js (Here js n) n (ticks l js due x n 0 (st0 js.length)) := by
  have := (ticks_ind (P := fun _ _ => True) (due := due) (x := x) hok (fun _ _ _ _ => trivial) n 0 (st0 js.length) (inv_start hok) trivial).1
  rwa [Nat.zero_add] at this
theorem ticks_all {l : List Tk} {js : List Jb} {due : Bool} {x : Fr} (hok : jobsOk l js = true) {P : Nat → St → Prop} (h0 : P 0 (st0 js.length)) (hstep : ∀ t s, Inv l js (Here js t) t s → P t s → P (t + 1) (tick l js due x t s)) (n : Nat) : P n (ticks l js due x n 0 (st0 js.length)) := by
  have := (ticks_ind hok hstep n 0 (st0 js.length) (inv_start hok) h0).2
  rwa [Nat.zero_add] at this
theorem ticks_split (l : List Tk) (js : List Jb) (due : Bool) (x : Fr) : ∀ (a b t : Nat) (s : St), ticks l js due x (a + b) t s = ticks l js due x b (t + a) (ticks l js due x a t s)
  | 0, b, t, s => by rw [Nat.zero_add]; rfl
  | a + 1, b, t, s => by
    rw [show a + 1 + b = (a + b) + 1 by omega, ticks, ticks_split l js due x a b (t + 1), ticks, show t + 1 + a = t + (a + 1) by omega]
/-- Of the state in which a tick works: what comes leaves trace, switches and what is done. -/
theorem come_keep (l : List Tk) (js : List Jb) (t : Nat) (s : St) : (comeFrom l js t js.length 0 (low0 s)).trace = s.trace ∧ (comeFrom l js t js.length 0 (low0 s)).switches = s.switches ∧ (comeFrom l js t js.length 0 (low0 s)).done = s.done ∧ (comeFrom l js t js.length 0 (low0 s)).high = (low0 s).high := by
  obtain ⟨h1, h2, h3, h4⟩ := comeFrom_keep l js t js.length 0 (low0 s)
  obtain ⟨k1, k2, k3, _, _⟩ := low0_keep s
  exact ⟨h1.trans k1, h2.trans k2, h3.trans k3, h4⟩
theorem come_em0 {l : List Tk} {js : List Jb} {t : Nat} {s : St} (hok : jobsOk l js = true) (h : Inv l js (Here js t) t s) : Em t s.ended (comeFrom l js t js.length 0 (low0 s)).ended := by
  have h0 := h.low0.congr (A' := Come js t 0) (fun i _ => by unfold Here Come; omega)
  have h1 := come_em hok js.length 0 _ (by omega) h0
  rw [(low0_keep s).2.2.2.1] at h1
  exact h1
theorem trace_len {l : List Tk} {js : List Jb} {due : Bool} {x : Fr} (hok : jobsOk l js = true) (n : Nat) : (ticks l js due x n 0 (st0 js.length)).trace.length = n :=
  ticks_all (P := fun n s => s.trace.length = n) hok rfl (fun t s h hs => by
    obtain ⟨y, hy⟩ := tick_trace l js due x t s hok (h.comes hok)
    rw [hy, (come_keep l js t s).1]; simp [hs]) n
end Go.Proofs.YtaadlgpglfpmpaaDoor

/-
  Of the run that both give back: bounds, and the facts behind the laws of runs. No program in sight.
-/

namespace Go.Proofs.YtaadlgpglfpmpaaDoor
open Go.RowKit

theorem runJ_ok {l : List Tk} {js : List Jb} {P N : Int} {r : Rn} (h : runJ l js P N = (r, true)) : jobsOk l js = true ∧ 0 ≤ N ∧ N ≤ 200 ∧ (P = 0 ∨ (P = 1 ∧ (factor l).2 = true)) ∧ r = (ticks l js (decide (P = 1)) (factor l).1 N.toNat 0 (st0 js.length)).run := by
  unfold runJ at h
  split at h
  · rename_i hg
    simp only [goB, Bool.and_eq_true, Bool.or_eq_true, decide_eq_true_eq] at hg
    simp only [Prod.mk.injEq, and_true] at h
    exact ⟨hg.1.1, hg.2.1, hg.2.2, hg.1.2, h.symm⟩
  · simp at h
theorem jobs_set {l : List Tk} {js : List Jb} (h : jobsOk l js = true) : setOk l = true := ((jobsOk_iff l js).1 h).1
/-- The bounds of a run. -/
structure RunB (r : Rn) : Prop where
  n1 : r.ended.length ≤ 60
  n2 : r.trace.length ≤ 200
  n3 : r.switches.length ≤ 200
  e : ∀ x ∈ r.ended, -2 ≤ x ∧ x ≤ 200
  t : ∀ x ∈ r.trace, -1 ≤ x ∧ x ≤ 10
  s : ∀ x ∈ r.switches, 0 ≤ x ∧ x ≤ 200
theorem Inv.runB {l : List Tk} {js : List Jb} {A : Nat → Prop} {t : Nat} {s : St} (h : Inv l js A t s) (hok : jobsOk l js = true) (ht : t ≤ 200) (hl : s.trace.length ≤ 200) : RunB s.run := by
  have h60 := jobs_len hok
  have hl5 := setOk_len (jobs_set hok)
  refine ⟨by have := h.elen; simp only [St.run]; omega, hl, by have := h.swlen; simp only [St.run]; omega, fun x hx => ?_, fun x hx => ?_, fun x hx => ?_⟩
  · obtain ⟨i, hi⟩ := List.mem_iff_getElem?.1 hx
    have hil : i < js.length := by rw [← h.elen]; exact (List.getElem?_eq_some_iff.1 hi).1
    obtain ⟨j, T, hj, hT, _, h0, _, hn, _⟩ := job_of hok hil
    obtain ⟨e, d, he, _, hst⟩ := h.job i j T hj hT
    have hi' : s.ended[i]? = some x := hi
    rw [he] at hi'; simp at hi'; subst hi'
    rcases hst with ⟨_, _, rfl, _⟩ | ⟨_, _, rfl, _⟩ | ⟨_, _, rfl, _⟩ | ⟨_, _, h1, h2, _⟩ <;> omega
  · have := h.tr x hx; omega
  · have := h.sw x hx; omega
theorem runJ_bd (l : List Tk) (js : List Jb) (P N : Int) : RunB (runJ l js P N).1 := by
  cases ho : (runJ l js P N).2 with
  | false =>
    have h : (runJ l js P N).1 = none0 := by
      unfold runJ at *; split
      · rename_i h; rw [if_pos h] at ho; simp at ho
      · rfl
    rw [h]
    exact ⟨by simp [none0], by simp [none0], by simp [none0], by simp [none0], by simp [none0], by simp [none0]⟩
  | true =>
    obtain ⟨hok, h0, h2, _, hr⟩ := runJ_ok (r := (runJ l js P N).1) (by rw [← ho])
    rw [hr]
    have hI := ticks_inv (decide (P = 1)) (factor l).1 hok N.toNat
    exact hI.runB hok (by omega) (by rw [trace_len hok]; omega)
theorem runJ_same {l : List Tk} {js : List Jb} {P N : Int} {r : Rn} {o : Bool} (h1 : (runJ l js P N).1 = r) (h2 : (runJ l js P N).2 = o) : runJ l js P N = (r, o) := by rw [← h1, ← h2]

/-! ### The laws -/

section
variable {l : List Tk} {js : List Jb} {P N : Int} {r : Rn}
theorem run_elen (h : runJ l js P N = (r, true)) : r.ended.length = js.length := by
  obtain ⟨hok, h0, h2, _, rfl⟩ := runJ_ok h
  exact (ticks_inv _ _ hok _).elen
theorem run_tlen (h : runJ l js P N = (r, true)) : (r.trace.length : Int) = N := by
  obtain ⟨hok, h0, h2, _, rfl⟩ := runJ_ok h
  have : (ticks l js (decide (P = 1)) (factor l).1 N.toNat 0 (st0 js.length)).run.trace.length = N.toNat := trace_len hok _
  omega
/-- How a job stands at the end. -/
theorem run_job (h : runJ l js P N = (r, true)) {i : Nat} {j : Jb} {T : Tk} (hj : js[i]? = some j) (hT : l[j.task.toNat]? = some T) : ∃ e, r.ended[i]? = some e ∧ (e = -1 ∨ (e = -2 ∧ T.crit = false ∧ r.switches ≠ []) ∨ (j.at_ + j.need ≤ e ∧ e ≤ N)) := by
  obtain ⟨hok, h0, h2, _, rfl⟩ := runJ_ok h
  obtain ⟨e, d, he, _, hst⟩ := (ticks_inv (decide (P = 1)) (factor l).1 hok N.toNat).job i j T hj hT
  refine ⟨e, he, ?_⟩
  rcases hst with ⟨_, _, rfl, _⟩ | ⟨_, _, rfl, _⟩ | ⟨_, _, rfl, hc, hs, _⟩ | ⟨_, _, h1, h3, _⟩
  · exact .inl rfl
  · exact .inl rfl
  · exact .inr (.inl ⟨rfl, hc, hs⟩)
  · exact .inr (.inr ⟨h1, by omega⟩)
end
end Go.Proofs.YtaadlgpglfpmpaaDoor
