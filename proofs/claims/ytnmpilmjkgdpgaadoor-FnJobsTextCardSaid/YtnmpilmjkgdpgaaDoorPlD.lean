/-
  Worst jobs make demands, said plainly.
-/
import Derived.Test.YtnmpilmjkgdpgaaDoorPlW
import Derived.Test.YtnmpilmjkgdpgaaDoorNeed

namespace Go.Proofs.YtnmpilmjkgdpgaaDoor
open Go.RowKit

/-- A window over a period, rounded up. -/
def ce (n : Int) (e : Int) : Int := (n + e - 1).tdiv e
theorem ce_step (n : Nat) {e : Int} (he : 1 ≤ e) : ce ((n : Int) + 1) e = ce n e + if (n : Int).tmod e = 0 then 1 else 0 := by
  unfold ce
  rw [Int.tdiv_eq_ediv_of_nonneg (by omega), Int.tdiv_eq_ediv_of_nonneg (by omega), Int.tmod_eq_emod_of_nonneg (by omega)]
  have h1 := Int.mul_ediv_add_emod (n : Int) e
  have h2 := Int.emod_nonneg (n : Int) (show e ≠ 0 by omega)
  have h3 := Int.emod_lt_of_pos (n : Int) (show 0 < e by omega)
  generalize (n : Int) / e = q at *
  generalize (n : Int) % e = r at *
  have hn : (n : Int) = r + e * q := by omega
  rw [hn, show r + e * q + 1 + e - 1 = (r + e) + e * q by omega, show r + e * q + e - 1 = (r + e - 1) + e * q by omega, Int.add_mul_ediv_left _ _ (by omega), Int.add_mul_ediv_left _ _ (by omega)]
  have h4 : (r + e) / e = 1 := by rw [Int.add_ediv_of_dvd_right (Int.dvd_refl e), Int.ediv_eq_zero_of_lt h2 h3, Int.ediv_self (by omega)]; rfl
  rw [h4]
  by_cases h : r = 0
  · rw [if_pos h, h, Int.ediv_eq_zero_of_lt (by omega) (by omega)]; omega
  · rw [if_neg h]
    have h5 : (r + e - 1) / e = 1 := by
      rw [show r + e - 1 = (r - 1) + e by omega, Int.add_ediv_of_dvd_right (Int.dvd_refl e), Int.ediv_eq_zero_of_lt (by omega) (by omega), Int.ediv_self (by omega)]; rfl
    rw [h5]; omega
theorem ce_zero {e : Int} (he : 1 ≤ e) : ce 0 e = 0 := by
  unfold ce
  rw [Int.tdiv_eq_ediv_of_nonneg (by omega), Int.ediv_eq_zero_of_lt (by omega) (by omega)]
theorem ce_bd (n : Nat) {e : Int} (he : 1 ≤ e) : 0 ≤ ce n e ∧ ce n e ≤ n := by
  induction n with
  | zero => rw [show ((0 : Nat) : Int) = 0 from rfl, ce_zero he]; omega
  | succ n ih => rw [show ((n + 1 : Nat) : Int) = (n : Int) + 1 by omega, ce_step n he]; split <;> omega

def atSel (hi : Bool) (t : Nat) (x : Tk) : Int := if (t : Int).tmod x.every = 0 then selW hi x else 0
theorem sumN_fullIn (hi : Bool) (t : Nat) (i : Nat) : ∀ (l : List Tk) (s : Nat), sumN (i : Int) (fullIn hi t s l) = if i < s then 0 else match l[i - s]? with | some x => atSel hi t x | none => 0
  | [], s => by simp [fullIn, sumN]
  | x :: l, s => by
    have ih := sumN_fullIn hi t i l (s + 1)
    have hs : ∀ (h : s < i), (x :: l)[i - s]? = l[i - (s + 1)]? := fun h => by rw [show i - s = (i - (s + 1)) + 1 by omega]; rfl
    simp only [fullIn]
    by_cases h0 : (t : Int).tmod x.every = 0
    · rw [if_neg (by simp [h0])]
      simp only [sumN, ih]
      rcases Nat.lt_trichotomy i s with h | h | h
      · rw [if_neg (show ¬ (s : Int) = i by omega), if_pos (show i < s + 1 by omega), if_pos h]; rfl
      · subst h
        rw [if_pos rfl, if_pos (show i < i + 1 by omega), if_neg (Nat.lt_irrefl i), Nat.sub_self]
        simp [atSel, h0]
      · rw [if_neg (show ¬ (s : Int) = i by omega), if_neg (show ¬ i < s + 1 by omega), if_neg (show ¬ i < s by omega), hs h, Int.zero_add]
    · rw [if_pos h0, ih]
      rcases Nat.lt_trichotomy i s with h | h | h
      · rw [if_pos (show i < s + 1 by omega), if_pos h]
      · subst h
        rw [if_pos (show i < i + 1 by omega), if_neg (Nat.lt_irrefl i), Nat.sub_self]
        simp [atSel, h0]
      · rw [if_neg (show ¬ i < s + 1 by omega), if_neg (show ¬ i < s by omega), hs h]
theorem fullOut_snoc (hi : Bool) (l : List Tk) : ∀ m t : Nat, fullOut hi l (m + 1) t = fullOut hi l m t ++ fullIn hi (t + m) 0 l
  | 0, t => by simp [fullOut]
  | m + 1, t => by
    rw [fullOut, fullOut_snoc hi l m (t + 1), fullOut, List.append_assoc, show t + 1 + m = t + (m + 1) by omega]
theorem sumN_fullOut {hi : Bool} {l : List Tk} {i : Nat} {x : Tk} (hx : l[i]? = some x) (he : 1 ≤ x.every) : ∀ n : Nat, sumN (i : Int) (fullOut hi l n 0) = ce n x.every * selW hi x
  | 0 => by rw [show ((0 : Nat) : Int) = 0 from rfl, ce_zero he, Int.zero_mul]; rfl
  | n + 1 => by
    rw [fullOut_snoc, sumN_append, sumN_fullOut hx he n, Nat.zero_add, sumN_fullIn, if_neg (Nat.not_lt_zero i), Nat.sub_zero, hx, show ((n + 1 : Nat) : Int) = (n : Int) + 1 by omega, ce_step n he]
    simp only [atSel]
    split
    · rw [Int.add_mul, Int.one_mul]
    · rw [Int.add_mul, Int.zero_mul]
def sumCe (n : Int) : List Tk → Int
  | [] => 0
  | x :: l => ce n x.every + sumCe n l
def cntD (t : Nat) : List Tk → Int
  | [] => 0
  | x :: l => (if (t : Int).tmod x.every = 0 then 1 else 0) + cntD t l
theorem fullIn_cnt (hi : Bool) (t : Nat) : ∀ (l : List Tk) (s : Nat), ((fullIn hi t s l).length : Int) = cntD t l
  | [], _ => rfl
  | x :: l, s => by
    have ih := fullIn_cnt hi t l (s + 1)
    simp only [fullIn, cntD]
    by_cases h0 : (t : Int).tmod x.every = 0
    · rw [if_neg (by simp [h0]), if_pos h0, List.length_cons]; omega
    · rw [if_pos h0, if_neg h0]; omega
theorem sumCe_step (n : Nat) : ∀ l : List Tk, (∀ x ∈ l, 1 ≤ x.every) → sumCe ((n : Int) + 1) l = sumCe n l + cntD n l
  | [], _ => rfl
  | x :: l, h => by
    have := sumCe_step n l (fun y hy => h y (by simp [hy]))
    have := ce_step n (h x (by simp))
    simp only [sumCe, cntD]; omega
theorem sumCe_zero : ∀ l : List Tk, (∀ x ∈ l, 1 ≤ x.every) → sumCe 0 l = 0
  | [], _ => rfl
  | x :: l, h => by
    have := sumCe_zero l (fun y hy => h y (by simp [hy]))
    have := ce_zero (h x (by simp))
    simp only [sumCe]; omega
theorem fullOut_cnt {hi : Bool} {l : List Tk} (h : ∀ x ∈ l, 1 ≤ x.every) : ∀ n : Nat, ((fullOut hi l n 0).length : Int) = sumCe n l
  | 0 => by rw [show ((0 : Nat) : Int) = 0 from rfl, sumCe_zero l h]; rfl
  | n + 1 => by
    have := fullOut_cnt (hi := hi) h n
    have := fullIn_cnt hi (0 + n) l 0
    have := sumCe_step n l h
    rw [Nat.zero_add] at *
    rw [fullOut_snoc, List.length_append, Nat.zero_add, show ((n + 1 : Nat) : Int) = (n : Int) + 1 by omega]; omega
theorem sumCe_snoc (n : Int) : ∀ (l : List Tk) (k : Nat) (x : Tk), l[k]? = some x → sumCe n (l.take (k + 1)) = sumCe n (l.take k) + ce n x.every
  | [], _, _, h => by simp at h
  | y :: l, 0, x, h => by simp at h; subst h; simp [sumCe]
  | y :: l, k + 1, x, h => by
    have := sumCe_snoc n l k x (by simpa using h)
    simp only [List.take_succ_cons, sumCe]; omega
theorem sumCe_bd (n : Nat) : ∀ l : List Tk, (∀ x ∈ l, 1 ≤ x.every) → 0 ≤ sumCe n l ∧ sumCe n l ≤ n * l.length
  | [], _ => by simp [sumCe]
  | x :: l, h => by
    have := sumCe_bd n l (fun y hy => h y (by simp [hy]))
    have := ce_bd n (h x (by simp))
    simp only [sumCe, List.length_cons]
    rw [show ((n : Int) * ((l.length + 1 : Nat) : Int)) = n * l.length + n by rw [show ((l.length + 1 : Nat) : Int) = (l.length : Int) + 1 by omega, Int.mul_add]; omega]
    omega
/-- The demand of a task in a window. -/
def dem (x : Tk) (n : Int) (hi : Bool) : Int := ce n x.every * selW hi x
theorem ok_told {l : List Tk} {js : List Jb} (h : jobsOk l js = true) : toldB js = true := by
  obtain ⟨h1, h2, h3, _⟩ := (jobsOk_iff l js).1 h
  simp only [toldB, Bool.and_eq_true, List.all_eq_true, decide_eq_true_eq]
  refine ⟨fun j hj => ?_, h2⟩
  obtain ⟨hso, ht0, htl, ha0, ha1, hn1, t, htk, hnh⟩ := jobIn_spec (h3 j hj)
  have hok := (Tk.ok_iff _).1 (setOk_at hso htk)
  have := setOk_len hso
  simp only [tellB, decide_eq_true_eq]; omega
theorem worst_plain {l : List Tk} {u : Int} {hi : Bool} (h : (worst l u hi).2 = true) : ∃ js, worst l u hi = (js, true) ∧ jobsOk l js = true ∧ (js.length : Int) = sumCe u l ∧ 0 ≤ u ∧ u ≤ 200 ∧ ∀ (i : Nat) (x : Tk), l[i]? = some x → needOf js i = dem x u hi := by
  obtain ⟨⟨hs, h0, h2⟩, h3, he⟩ := worst_yes h
  obtain ⟨n, rfl⟩ : ∃ n : Nat, u = n := ⟨u.toNat, by omega⟩
  rw [show ((n : Int)).toNat = n by omega] at he h3
  have hev : ∀ x ∈ l, 1 ≤ x.every := fun x hx => by have := (Tk.ok_iff x).1 (setOk_all hs x hx); omega
  have hok := fullOut_ok (hi := hi) hs (by omega) h3
  refine ⟨_, he, hok, fullOut_cnt hev n, h0, h2, fun i x hx => ?_⟩
  rw [needOf, if_pos (ok_told hok), sumN_fullOut hx (hev x (List.mem_of_getElem? hx))]; rfl
end Go.Proofs.YtnmpilmjkgdpgaaDoor
