/-
  Worst jobs, said plainly: all of them in order, if they are at most sixty. No program in sight.
-/
import Derived.Test.YtnmpilmjkgdpgaaDoorPut
namespace Go.Proofs.YtnmpilmjkgdpgaaDoor
open Go.RowKit

def selW (hi : Bool) (x : Tk) : Int := if hi then x.high else x.low
def fullIn (hi : Bool) (t : Nat) : Nat → List Tk → List Jb
  | _, [] => []
  | i, x :: l => if (t : Int).tmod x.every ≠ 0 then fullIn hi t (i + 1) l else ⟨i, t, selW hi x⟩ :: fullIn hi t (i + 1) l
def fullOut (hi : Bool) (l : List Tk) : Nat → Nat → List Jb
  | 0, _ => []
  | m + 1, t => fullIn hi t 0 l ++ fullOut hi l m (t + 1)

theorem wjIn_full (hi : Bool) (t : Nat) : ∀ (l : List Tk) (i : Nat) (acc : List Jb), acc.length ≤ 60 → wjIn hi t i l acc = if acc.length + (fullIn hi t i l).length ≤ 60 then some (acc ++ fullIn hi t i l) else none
  | [], i, acc, h => by simp [wjIn, fullIn, h]
  | x :: l, i, acc, h => by
    simp only [wjIn, fullIn]
    by_cases h0 : (t : Int).tmod x.every ≠ 0
    · simp only [if_pos h0]; exact wjIn_full hi t l (i + 1) acc h
    · simp only [if_neg h0]
      by_cases h60 : acc.length = 60
      · rw [if_pos h60, if_neg]
        simp; omega
      · rw [if_neg h60, wjIn_full hi t l (i + 1) _ (by simp; omega)]
        simp only [List.length_append, List.length_cons, List.length_nil, List.append_assoc, List.singleton_append, selW]
        rw [show acc.length + (0 + 1) + (fullIn hi t (i + 1) l).length = acc.length + ((fullIn hi t (i + 1) l).length + 1) by omega]
theorem wjOut_full (hi : Bool) (l : List Tk) : ∀ (m t : Nat) (acc : List Jb), acc.length ≤ 60 → wjOut hi l m t acc = if acc.length + (fullOut hi l m t).length ≤ 60 then some (acc ++ fullOut hi l m t) else none
  | 0, t, acc, h => by simp [wjOut, fullOut, h]
  | m + 1, t, acc, h => by
    simp only [wjOut, fullOut, wjIn_full hi t l 0 acc h]
    by_cases h1 : acc.length + (fullIn hi t 0 l).length ≤ 60
    · rw [if_pos h1]
      show wjOut hi l m (t + 1) (acc ++ fullIn hi t 0 l) = _
      rw [wjOut_full hi l m (t + 1) _ (by simp; omega)]
      simp only [List.length_append, List.append_assoc]
      rw [Nat.add_assoc]
    · rw [if_neg h1]; exact (if_neg (by simp; omega)).symm
theorem worst_full (l : List Tk) (u : Int) (hi : Bool) : worst l u hi = if (setOk l = true ∧ 0 ≤ u ∧ u ≤ 200) ∧ (fullOut hi l u.toNat 0).length ≤ 60 then (fullOut hi l u.toNat 0, true) else ([], false) := by
  unfold worst
  by_cases h : setOk l = true ∧ 0 ≤ u ∧ u ≤ 200
  · rw [if_pos h, wjOut_full hi l _ _ _ (by simp)]
    by_cases h2 : (fullOut hi l u.toNat 0).length ≤ 60
    · rw [if_pos (by simpa using h2), if_pos ⟨h, h2⟩]; rfl
    · rw [if_neg (by simpa using h2), if_neg (fun k => h2 k.2)]; rfl
  · rw [if_neg h, if_neg (fun k => h k.1)]
theorem worst_yes {l : List Tk} {u : Int} {hi : Bool} (h : (worst l u hi).2 = true) : (setOk l = true ∧ 0 ≤ u ∧ u ≤ 200) ∧ (fullOut hi l u.toNat 0).length ≤ 60 ∧ worst l u hi = (fullOut hi l u.toNat 0, true) := by
  rw [worst_full] at h
  split at h
  · rename_i k; exact ⟨k.1, k.2, by rw [worst_full, if_pos k]⟩
  · cases h
theorem worst_off {l : List Tk} {u : Int} {hi : Bool} (h : (worst l u hi).2 = false) : worst l u hi = ([], false) := by
  rw [worst_full] at h ⊢
  split at h
  · cases h
  · rename_i k; rw [if_neg k]

/-- The same jobs, of no less need. -/
def Rel2 : List Jb → List Jb → Prop
  | [], [] => True
  | a :: l, b :: m => (a.task = b.task ∧ a.at_ = b.at_ ∧ a.need ≤ b.need) ∧ Rel2 l m
  | _, _ => False
theorem Rel2.append : ∀ {a b c d : List Jb}, Rel2 a b → Rel2 c d → Rel2 (a ++ c) (b ++ d)
  | [], [], _, _, _, k => k
  | _ :: _, _ :: _, _, _, h, k => ⟨h.1, Rel2.append h.2 k⟩
  | [], _ :: _, _, _, h, _ => h.elim
  | _ :: _, [], _, _, h, _ => h.elim
theorem Rel2.len : ∀ {a b : List Jb}, Rel2 a b → a.length = b.length
  | [], [], _ => rfl
  | _ :: _, _ :: _, h => by simp [Rel2.len h.2]
  | [], _ :: _, h => h.elim
  | _ :: _, [], h => h.elim
theorem Rel2.get : ∀ {a b : List Jb}, Rel2 a b → ∀ {k : Nat} {x y : Jb}, a[k]? = some x → b[k]? = some y → x.task = y.task ∧ x.at_ = y.at_ ∧ x.need ≤ y.need
  | [], [], _, _, _, _, h, _ => by simp at h
  | a :: l, b :: m, h, 0, x, y, h1, h2 => by simp at h1 h2; subst h1 h2; exact h.1
  | a :: l, b :: m, h, k + 1, x, y, h1, h2 => h.2.get (k := k) (by simpa using h1) (by simpa using h2)
  | [], _ :: _, h, _, _, _, _, _ => h.elim
  | _ :: _, [], h, _, _, _, _, _ => h.elim
theorem fullIn_rel (t : Nat) : ∀ (l : List Tk) (i : Nat), (∀ x ∈ l, x.ok = true) → Rel2 (fullIn false t i l) (fullIn true t i l)
  | [], _, _ => trivial
  | x :: l, i, h => by
    have ih := fullIn_rel t l (i + 1) (fun y hy => h y (by simp [hy]))
    have hx := (Tk.ok_iff x).1 (h x (by simp))
    simp only [fullIn]
    split
    · exact ih
    · exact ⟨⟨rfl, rfl, by simp [selW]; omega⟩, ih⟩
theorem fullOut_rel (l : List Tk) (h : ∀ x ∈ l, x.ok = true) : ∀ m t : Nat, Rel2 (fullOut false l m t) (fullOut true l m t)
  | 0, _ => trivial
  | m + 1, t => (fullIn_rel t l 0 h).append (fullOut_rel l h m (t + 1))
/-- One of the jobs that come: of a task whose period divides its tick. -/
def Comes (hi : Bool) (l : List Tk) (t0 t1 : Nat) (j : Jb) : Prop := ∃ (i t : Nat) (x : Tk), l[i]? = some x ∧ j = ⟨i, t, selW hi x⟩ ∧ t0 ≤ t ∧ t < t1 ∧ (t : Int).tmod x.every = 0
theorem fullIn_mem (hi : Bool) (t : Nat) : ∀ (l : List Tk) (i : Nat) (j : Jb), j ∈ fullIn hi t i l → ∃ (k : Nat) (x : Tk), l[k]? = some x ∧ j = ⟨(i + k : Nat), t, selW hi x⟩ ∧ (t : Int).tmod x.every = 0
  | [], _, _, h => by simp [fullIn] at h
  | x :: l, i, j, h => by
    simp only [fullIn] at h
    split at h
    · obtain ⟨k, y, h1, h2, h3⟩ := fullIn_mem hi t l (i + 1) j h
      exact ⟨k + 1, y, by simpa using h1, by rw [h2, show i + 1 + k = i + (k + 1) by omega], h3⟩
    · rename_i h0
      rcases List.mem_cons.1 h with rfl | h
      · exact ⟨0, x, by simp, by simp, by simpa using h0⟩
      · obtain ⟨k, y, h1, h2, h3⟩ := fullIn_mem hi t l (i + 1) j h
        exact ⟨k + 1, y, by simpa using h1, by rw [h2, show i + 1 + k = i + (k + 1) by omega], h3⟩
theorem fullOut_mem (hi : Bool) (l : List Tk) : ∀ (m t : Nat) (j : Jb), j ∈ fullOut hi l m t → Comes hi l t (t + m) j
  | 0, _, _, h => by simp [fullOut] at h
  | m + 1, t, j, h => by
    simp only [fullOut] at h
    rcases List.mem_append.1 h with h | h
    · obtain ⟨k, x, h1, h2, h3⟩ := fullIn_mem hi t l 0 j h
      exact ⟨k, t, x, h1, by simpa using h2, by omega, by omega, h3⟩
    · obtain ⟨i, s, x, h1, h2, h3, h4, h5⟩ := fullOut_mem hi l m (t + 1) j h
      exact ⟨i, s, x, h1, h2, by omega, by omega, h5⟩
theorem pick_none (p : Nat → Bool) : ∀ m i, (∀ k, i ≤ k → k < i + m → p k = false) → pickFrom p m i = []
  | 0, _, _ => rfl
  | m + 1, i, h => by
    simp only [pickFrom, h i (by omega) (by omega)]
    exact pick_none p m (i + 1) (fun k h1 h2 => h k (by omega) (by omega))
theorem worst_nohigh {l : List Tk} {u : Int} (h : (worst l u false).2 = true) : highs l (worst l u false).1 = [] := by
  obtain ⟨⟨hs, _, _⟩, _, he⟩ := worst_yes h
  rw [he]
  unfold highs
  split
  · refine pick_none _ _ _ fun k _ hk => ?_
    have hk' : k < (fullOut false l u.toNat 0).length := by simpa using hk
    obtain ⟨j, hj⟩ := getSome hk'
    obtain ⟨i, t, x, h1, rfl, _⟩ := fullOut_mem false l _ _ j (List.mem_of_getElem? hj)
    simp [highP, hj, h1, selW]
  · rfl
theorem worst_both {l : List Tk} {u : Int} {hi : Bool} (h : (worst l u hi).2 = true) : (worst l u false).2 = true ∧ (worst l u true).2 = true ∧ Rel2 (worst l u false).1 (worst l u true).1 ∧ highs l (worst l u false).1 = [] := by
  obtain ⟨hs, hlen, _⟩ := worst_yes h
  have hr := fullOut_rel l (setOk_all hs.1) u.toNat 0
  have hl := hr.len
  have ha : (fullOut false l u.toNat 0).length ≤ 60 := by cases hi <;> omega
  have hb : (fullOut true l u.toNat 0).length ≤ 60 := by omega
  have ea : worst l u false = _ := (worst_full l u false).trans (if_pos ⟨hs, ha⟩)
  have eb : worst l u true = _ := (worst_full l u true).trans (if_pos ⟨hs, hb⟩)
  have e2 : (worst l u false).2 = true := by rw [ea]
  exact ⟨e2, by rw [eb], by rw [ea, eb]; exact hr, worst_nohigh e2⟩

/-! ### They are valid -/

theorem tmod_gap {a b e : Int} (he : 1 ≤ e) (ha : 0 ≤ a) (hb : a < b) (h1 : a.tmod e = 0) (h2 : b.tmod e = 0) : e ≤ b - a := by
  rw [Int.tmod_eq_emod_of_nonneg (by omega)] at h1 h2
  obtain ⟨x, rfl⟩ := Int.dvd_of_emod_eq_zero h1
  obtain ⟨y, rfl⟩ := Int.dvd_of_emod_eq_zero h2
  have hxy : x < y := by
    rcases Int.lt_or_le x y with h | h
    · exact h
    · have := Int.mul_le_mul_of_nonneg_left h (show 0 ≤ e by omega); omega
  have : e * (x + 1) ≤ e * y := Int.mul_le_mul_of_nonneg_left (by omega) (by omega)
  rw [Int.mul_add] at this; omega
theorem fullIn_sorted (hi : Bool) (t : Nat) : ∀ (l : List Tk) (i : Nat), (fullIn hi t i l).Pairwise Lt ∧ ∀ j ∈ fullIn hi t i l, j.at_ = t ∧ (i : Int) ≤ j.task
  | [], _ => ⟨List.Pairwise.nil, fun j h => by simp [fullIn] at h⟩
  | x :: l, i => by
    obtain ⟨h1, h2⟩ := fullIn_sorted hi t l (i + 1)
    simp only [fullIn]
    split
    · exact ⟨h1, fun j hj => ⟨(h2 j hj).1, by have := (h2 j hj).2; omega⟩⟩
    · refine ⟨List.pairwise_cons.2 ⟨fun b hb => .inr ⟨(h2 b hb).1.symm, by have := (h2 b hb).2; dsimp only; omega⟩, h1⟩, fun j hj => ?_⟩
      rcases List.mem_cons.1 hj with rfl | hj
      · exact ⟨rfl, Int.le_refl _⟩
      · exact ⟨(h2 j hj).1, by have := (h2 j hj).2; omega⟩
theorem fullOut_sorted (hi : Bool) (l : List Tk) : ∀ m t : Nat, (fullOut hi l m t).Pairwise Lt
  | 0, _ => List.Pairwise.nil
  | m + 1, t => by
    simp only [fullOut]
    rw [List.pairwise_append]
    refine ⟨(fullIn_sorted hi t l 0).1, fullOut_sorted hi l m (t + 1), fun a ha b hb => .inl ?_⟩
    obtain ⟨i, s, x, _, rfl, h3, _⟩ := fullOut_mem hi l m (t + 1) b hb
    rw [((fullIn_sorted hi t l 0).2 a ha).1]
    dsimp only; omega
theorem fullOut_ok {hi : Bool} {l : List Tk} {n : Nat} (hs : setOk l = true) (hn : n ≤ 200) (hl : (fullOut hi l n 0).length ≤ 60) : jobsOk l (fullOut hi l n 0) = true := by
  refine (jobsOk_iff l _).2 ⟨hs, hl, fun j hj => ?_, (fullOut_sorted hi l n 0).imp_of_mem (fun {a b} ha hb h => ⟨h, fun e => ?_⟩)⟩
  · obtain ⟨i, t, x, h1, rfl, _, h4, h5⟩ := fullOut_mem hi l _ _ j hj
    have hx := (Tk.ok_iff x).1 (setOk_at hs h1)
    have hil := (List.getElem?_eq_some_iff.1 h1).1
    rw [jobIn, hs, l6In_at (t := x) (by simpa using h1) (by cases hi <;> simp [selW] <;> omega)]
    cases hi <;> simp [selW] <;> omega
  · obtain ⟨i, t, x, h1, rfl, _, h4, h5⟩ := fullOut_mem hi l _ _ a ha
    obtain ⟨i', t', x', h1', rfl, _, h4', h5'⟩ := fullOut_mem hi l _ _ b hb
    dsimp only at e
    obtain rfl : i = i' := by omega
    rw [h1] at h1'; cases h1'
    have hx := (Tk.ok_iff x).1 (setOk_at hs h1)
    have : evAt l ⟨i, t', selW hi x⟩ = x.every := by simp [evAt, h1]
    rw [this]
    dsimp only [Lt] at h ⊢
    exact tmod_gap (by omega) (by omega) (by omega) h5 h5'
end Go.Proofs.YtnmpilmjkgdpgaaDoor
