/-
  The plain law of a job's text: a text that tells jobs is read back, by the program and by the specification, and what one reads the other reads.
-/
import Derived.Test.YtnmpilmjkgdpgaaDoorFj
import Derived.Lib.SplitLaws
import Derived.Lib.ItoaMem
import Derived.Lib.ItoaLen
import Derived.Lib.Join
import Derived.Lib.AtoiAllCases
import Derived.Lib.Atoi






namespace Go.Proofs.YtnmpilmjkgdpgaaDoor
open Go.RowKit

theorem dec_more {m : Nat} (h : ¬ m < 10) : Lib.decDigits m = Lib.decDigits (m / 10) ++ [UInt8.ofNat (48 + m % 10)] := by
  rw [Lib.decDigits, dif_neg h]
theorem from_le : ∀ (l : List UInt8) (acc u : Nat), Lib.decFrom acc l = some u → acc ≤ u
  | [], acc, u, h => by simp only [Lib.decFrom, Option.some.injEq] at h; omega
  | a :: l, acc, u, h => by
    simp only [Lib.decFrom] at h
    cases ha : Lib.digitVal a with
    | none => rw [ha] at h; cases h
    | some e =>
      rw [ha] at h
      have := from_le l _ u h
      omega
/-- A text cut at every byte c. -/
def cutC (c : UInt8) : List UInt8 → List (List UInt8)
  | [] => [[]]
  | b :: r => if b = c then [] :: cutC c r else match cutC c r with
    | [] => [[b]]
    | x :: t => (b :: x) :: t
theorem cutC_ne (c : UInt8) : ∀ s, cutC c s ≠ []
  | [] => by simp [cutC]
  | b :: r => by
    unfold cutC
    split
    · simp
    · split <;> simp
theorem cutC_hd (c : UInt8) (b : UInt8) (r : List UInt8) (h : b ≠ c) : ∃ x t, cutC c r = x :: t ∧ cutC c (b :: r) = (b :: x) :: t := by
  cases hq : cutC c r with
  | nil => exact absurd hq (cutC_ne c r)
  | cons x t => exact ⟨x, t, rfl, by rw [cutC, if_neg h, hq]⟩
theorem cutC_eq (c : UInt8) (r : List UInt8) : cutC c (c :: r) = [] :: cutC c r := by rw [cutC, if_pos rfl]
theorem cutC_app (c : UInt8) (r : List UInt8) : ∀ (x : List UInt8), c ∉ x → cutC c (x ++ c :: r) = x :: cutC c r
  | [], _ => by rw [List.nil_append, cutC_eq]
  | b :: x, h => by
    simp only [List.mem_cons, not_or] at h
    have ih := cutC_app c r x h.2
    obtain ⟨y, t, h1, h2⟩ := cutC_hd c b (x ++ c :: r) (Ne.symm h.1)
    rw [ih] at h1
    injection h1 with h3 h4
    rw [List.cons_append, h2, ← h3, ← h4]
theorem cutC_one (c : UInt8) : ∀ (x : List UInt8), c ∉ x → cutC c x = [x]
  | [], _ => rfl
  | b :: x, h => by
    simp only [List.mem_cons, not_or] at h
    have ih := cutC_one c x h.2
    obtain ⟨y, t, h1, h2⟩ := cutC_hd c b x (Ne.symm h.1)
    rw [ih] at h1
    injection h1 with h3 h4
    rw [h2, ← h3, ← h4]
theorem cutC_join (c : UInt8) : ∀ (l : List (List UInt8)), l ≠ [] → (∀ x ∈ l, c ∉ x) → cutC c (Lib.join l [c]) = l
  | [], h, _ => absurd rfl h
  | [x], _, h => by rw [Lib.join_one]; exact cutC_one c x (h x (List.mem_cons_self ..))
  | x :: y :: l, _, h => by
    have e : Lib.join (x :: y :: l) [c] = x ++ c :: Lib.join (y :: l) [c] := by
      rw [Lib.join_cons, Lib.join_cons]; simp [Lib.joinTail]
    rw [e, cutC_app c _ x (h x (List.mem_cons_self ..)), cutC_join c (y :: l) (by simp) (fun z hz => h z (List.mem_cons_of_mem _ hz))]
theorem idx_ne (b c : UInt8) (l : List UInt8) (h : b ≠ c) : Lib.index (b :: l) [c] = if Lib.index l [c] == -1 then -1 else Lib.index l [c] + 1 := by
  have hp : ([c] : List UInt8).isPrefixOf (b :: l) = false := by simp [List.isPrefixOf, Ne.symm h]
  rw [Lib.index, hp]; simp
theorem idx_eq (c : UInt8) (l : List UInt8) : Lib.index (c :: l) [c] = 0 := by rw [Lib.index]; simp [List.isPrefixOf]
theorem idx_app (c : UInt8) (r : List UInt8) : ∀ (x : List UInt8), c ∉ x → Lib.index (x ++ c :: r) [c] = (x.length : Int)
  | [], _ => by rw [List.nil_append, idx_eq]; rfl
  | b :: x, h => by
    simp only [List.mem_cons, not_or] at h
    have ih := idx_app c r x h.2
    rw [List.cons_append, idx_ne b c _ (Ne.symm h.1), ih, if_neg (by simp)]
    simp
theorem cut_app (c : UInt8) (x r : List UInt8) (h : c ∉ x) : Lib.cut (x ++ c :: r) [c] = (x, r, true) := by
  have := idx_app c r x h
  unfold Lib.cut
  rw [this, if_pos (by omega)]
  have e1 : ((x.length : Int)).toNat = x.length := by omega
  rw [e1]
  refine Prod.ext ?_ (Prod.ext ?_ rfl)
  · simp
  · show List.drop (x.length + 1) (x ++ c :: r) = r
    rw [List.drop_append]; simp
theorem split_cut (c : UInt8) : ∀ (s : List UInt8), Lib.split s [c] = cutC c s
  | [] => by
    have : Lib.count [] [c] = 0 := Lib.count_miss (by simp [Lib.index])
    rw [Lib.split, this]; rfl
  | b :: l => by
    have ih := split_cut c l
    by_cases h : b = c
    · subst h
      rw [Lib.split, Lib.count_cons_eq, Nat.add_comm, Lib.splitK, idx_eq, if_neg (by decide), cutC_eq, ← ih]
      rfl
    · obtain ⟨x, t, h1, h2⟩ := cutC_hd c b l h
      rw [h2, Lib.split, Lib.count_cons_ne b c l h]
      rw [h1, Lib.split] at ih
      by_cases hm : Lib.index l [c] = -1
      · have h0 : Lib.count l [c] = 0 := Lib.count_miss hm
        rw [h0] at ih ⊢
        simp only [Lib.splitK] at ih ⊢
        injection ih with i1 i2
        rw [i1, i2]
      · have hge := Lib.index_ge l [c]
        obtain ⟨j, hj⟩ : ∃ j : Nat, Lib.index l [c] = j := ⟨(Lib.index l [c]).toNat, by omega⟩
        have hc := Lib.count_hit (by simp) hj
        rw [hc, Nat.add_comm, Lib.splitK, hj, if_neg (by simp)] at ih
        rw [hc, Nat.add_comm, Lib.splitK, idx_ne b c l h, hj]
        rw [if_neg (by simp; omega), if_neg (by simp)]
        injection ih with i1 i2
        have e : ((j : Int) + 1).toNat = j + 1 := by omega
        have e2 : ((j : Int)).toNat = j := by omega
        rw [e2] at i1 i2
        rw [e, Nat.add_zero, List.take_succ_cons, ← i1, Nat.add_zero]
        have e3 : j + 1 + [c].length = (j + [c].length) + 1 := by omega
        rw [e3, List.drop_succ_cons, i2, Nat.add_zero]
/- Numbers. -/
theorem dec_all : ∀ (n : Nat), ∀ b ∈ Lib.decDigits n, 48 ≤ b.toNat ∧ b.toNat ≤ 57 := by
  intro n
  induction n using Nat.strongRecOn with
  | _ n ih =>
    by_cases h : n < 10
    · rw [Lib.decDigits_one h]
      intro b hb
      simp only [List.mem_singleton] at hb
      subst hb
      rw [UInt8.toNat_ofNat']; omega
    · rw [dec_more h]
      intro b hb
      rcases List.mem_append.1 hb with hb | hb
      · exact ih (n / 10) (by omega) b hb
      · simp only [List.mem_singleton] at hb
        subst hb
        rw [UInt8.toNat_ofNat']; omega
theorem dec_ne (n : Nat) : Lib.decDigits n ≠ [] := by
  by_cases h : n < 10
  · rw [Lib.decDigits_one h]; simp
  · rw [dec_more h]; simp
theorem dec_head : ∀ (n : Nat), 1 ≤ n → ∀ b r, Lib.decDigits n = b :: r → b ≠ 48 := by
  intro n
  induction n using Nat.strongRecOn with
  | _ n ih =>
    intro h1 b r hb
    by_cases h : n < 10
    · rw [Lib.decDigits_one h] at hb
      injection hb with hb _
      intro e
      rw [e] at hb
      have := congrArg UInt8.toNat hb
      rw [UInt8.toNat_ofNat'] at this
      simp at this; omega
    · rw [dec_more h] at hb
      cases hq : Lib.decDigits (n / 10) with
      | nil => exact absurd hq (dec_ne _)
      | cons x t =>
        rw [hq] at hb
        injection hb with hb _
        subst hb
        exact ih (n / 10) (by omega) (by omega) x t hq
theorem from_snoc (d : UInt8) (hd : 48 ≤ d.toNat ∧ d.toNat ≤ 57) : ∀ (l : List UInt8) (acc u : Nat), Lib.decFrom acc l = some u → Lib.decFrom acc (l ++ [d]) = some (u * 10 + (d.toNat - 48))
  | [], acc, u, h => by
    simp only [Lib.decFrom, Option.some.injEq] at h
    subst h
    simp [Lib.decFrom, Lib.digitVal, hd]
  | a :: l, acc, u, h => by
    simp only [Lib.decFrom, List.cons_append] at h ⊢
    cases ha : Lib.digitVal a with
    | none => rw [ha] at h; cases h
    | some e =>
      rw [ha] at h
      exact from_snoc d hd l _ u h
theorem from_dec : ∀ (n : Nat), Lib.decFrom 0 (Lib.decDigits n) = some n := by
  intro n
  induction n using Nat.strongRecOn with
  | _ n ih =>
    by_cases h : n < 10
    · have e : (UInt8.ofNat (48 + n)).toNat = 48 + n := by rw [UInt8.toNat_ofNat']; omega
      rw [Lib.decDigits_one h]
      simp only [Lib.decFrom, Lib.digitVal, e]
      rw [if_pos (by omega)]
      simp
    · have e : (UInt8.ofNat (48 + n % 10)).toNat = 48 + n % 10 := by rw [UInt8.toNat_ofNat']; omega
      rw [dec_more h, from_snoc _ (by omega) _ _ _ (ih (n / 10) (by omega)), e]
      congr 1; omega
theorem uint_from : ∀ (l : List UInt8) (acc u : Nat), Lib.decFrom acc l = some u → u < 1000000000 → Lib.parseUint10 acc l = .ok u
  | [], acc, u, h, _ => by simp only [Lib.decFrom, Option.some.injEq] at h; subst h; rfl
  | a :: l, acc, u, h, hu => by
    simp only [Lib.decFrom] at h
    cases ha : Lib.digitVal a with
    | none => rw [ha] at h; cases h
    | some e =>
      rw [ha] at h
      obtain ⟨h1, h2, h3⟩ := Lib.digitVal_eq ha
      have hle := from_le l _ u h
      simp only [Lib.parseUint10]
      rw [if_pos ⟨h1, h2⟩, if_neg (by omega), if_neg (by omega)]
      exact uint_from l _ u (by rw [← h3]; exact h) hu
theorem atoi_itoa (n : Nat) (hn : n < 1000000000) : Lib.atoiAll (Lib.itoa (n : Int)) = .ok (n : Int) := by
  rw [Lib.itoa_nonneg]
  cases hq : Lib.decDigits n with
  | nil => exact absurd hq (dec_ne n)
  | cons b r =>
    have hb := dec_all n b (by rw [hq]; exact List.mem_cons_self ..)
    have hp : Lib.parseUint10 0 (b :: r) = .ok n := uint_from _ 0 n (by rw [← hq]; exact from_dec n) hn
    have hm : Lib.parseMag (b :: r) = .ok n := by rw [Lib.parseMag, if_neg (by simp), hp]
    have h1 : ¬ (b.toNat = 43 ∨ b.toNat = 45) := by omega
    have h2 : ¬ b.toNat = 45 := by omega
    rw [Lib.atoiAll_plain b r (by omega) (by omega), hm]
    simp only [Lib.signless]
    rw [if_neg (by omega)]
theorem dec_len3 (n : Nat) (h : n < 1000) : (Lib.decDigits n).length ≤ 3 := by
  by_cases h1 : n < 10
  · rw [Lib.decDigits_one h1]; simp
  · by_cases h2 : n < 100
    · rw [Lib.decDigits_two h1 h2]; simp
    · rw [dec_more h1, Lib.decDigits_two (by omega) (by omega)]; simp
/-- What Atoi hands back beside its error. -/
def atv (l : List UInt8) : Int := match Lib.atoiAll l with
  | .ok v => v
  | .range => Lib.atoiSat l
  | _ => 0
theorem atv_itoa (n : Int) (h : 0 ≤ n ∧ n < 1000000000) : atv (Lib.itoa n) = n := by
  obtain ⟨m, rfl⟩ := Int.eq_ofNat_of_zero_le h.1
  rw [atv, atoi_itoa m (by omega)]
/-- The specification's number. -/
def numB (l : List UInt8) : Int × Bool :=
  let neg := l.head? == some 45
  let s := if neg then l.tail else l
  if s = [] ∨ 17 < s.length ∨ (s.head? = some 48 ∧ (1 < s.length ∨ neg = true)) then (0, false)
  else match Lib.decFrom 0 s with
    | none => (0, false)
    | some n => (if neg then -(n : Int) else n, true)
theorem numB_itoa (n : Int) (h : 0 ≤ n ∧ n < 1000) : numB (Lib.itoa n) = (n, true) := by
  obtain ⟨m, rfl⟩ := Int.eq_ofNat_of_zero_le h.1
  rw [Lib.itoa_nonneg]
  have hl := dec_len3 m (by omega)
  have hf := from_dec m
  have hall := dec_all m
  cases hq : Lib.decDigits m with
  | nil => exact absurd hq (dec_ne m)
  | cons b r =>
    rw [hq] at hl hf hall
    have hb := hall b (List.mem_cons_self ..)
    have hn : (b == (45 : UInt8)) = false := by
      rw [beq_eq_false_iff_ne]
      intro e; rw [e] at hb; simp at hb
    have hneg : ((b :: r).head? == some (45 : UInt8)) = false := by simpa using hn
    simp only [numB, hneg]
    have hc : ¬ ((b :: r) = [] ∨ 17 < (b :: r).length ∨ ((b :: r).head? = some 48 ∧ (1 < (b :: r).length ∨ false = true))) := by
      rintro (h1 | h1 | ⟨h1, h2⟩)
      · cases h1
      · simp only [List.length_cons] at h1 hl; omega
      · simp only [List.head?_cons, Option.some.injEq] at h1
        rcases h2 with h2 | h2
        · by_cases hm : m < 10
          · rw [Lib.decDigits_one hm] at hq
            injection hq with _ hq
            rw [← hq] at h2; simp at h2
          · exact dec_head m (by omega) b r hq h1
        · cases h2
    rw [if_neg (by simpa using hc)]
    simp only [Bool.false_eq_true, if_false, hf]
/-- What the program makes of a job's text. -/
def pjB (x : List UInt8) : Jb :=
  let a := Lib.cut x [64]
  let b := Lib.cut a.2.1 [58]
  ⟨atv a.1, atv b.1, atv b.2.1⟩
/-- What the specification makes of it. -/
def spB (x : List UInt8) : Option Jb :=
  match cutC 64 x with
  | [t, r] => match cutC 58 r with
    | [a, n] => if (numB t).2 = true ∧ (numB a).2 = true ∧ (numB n).2 = true ∧ tellB ⟨(numB t).1, (numB a).1, (numB n).1⟩ = true then some ⟨(numB t).1, (numB a).1, (numB n).1⟩ else none
    | _ => none
  | _ => none
theorem itoa_digs (n : Int) (h : 0 ≤ n) : ∀ b ∈ Lib.itoa n, 48 ≤ b.toNat ∧ b.toNat ≤ 57 := by
  obtain ⟨m, rfl⟩ := Int.eq_ofNat_of_zero_le h
  rw [Lib.itoa_nonneg]
  exact dec_all m
theorem itoa_no (n : Int) (h : 0 ≤ n) (c : UInt8) (hc : c.toNat < 48 ∨ 57 < c.toNat) : c ∉ Lib.itoa n := fun hm => by
  have := itoa_digs n h c hm; omega
theorem jobT_form (j : Jb) : jobT j = Lib.itoa j.task ++ 64 :: (Lib.itoa j.at_ ++ 58 :: Lib.itoa j.need) := by simp [jobT]
theorem jobT_no {j : Jb} (h : tellB j = true) (c : UInt8) (hc : c.toNat < 48 ∨ 57 < c.toNat) (h1 : c ≠ 64) (h2 : c ≠ 58) : c ∉ jobT j := by
  simp only [tellB, decide_eq_true_eq] at h
  rw [jobT_form]
  simp only [List.mem_append, List.mem_cons, not_or]
  exact ⟨itoa_no _ h.1 c hc, h1, itoa_no _ h.2.2.1 c hc, h2, itoa_no _ (by omega) c hc⟩
theorem pj_job {j : Jb} (h : tellB j = true) : pjB (jobT j) = j := by
  simp only [tellB, decide_eq_true_eq] at h
  rw [jobT_form, pjB, cut_app 64 _ _ (itoa_no _ h.1 64 (by decide)), cut_app 58 _ _ (itoa_no _ h.2.2.1 58 (by decide))]
  simp only
  rw [atv_itoa _ (by omega), atv_itoa _ (by omega), atv_itoa _ (by omega)]
theorem sp_job {j : Jb} (h : tellB j = true) : spB (jobT j) = some j := by
  have ht := h
  simp only [tellB, decide_eq_true_eq] at h
  have n1 : (64 : UInt8) ∉ Lib.itoa j.at_ ++ 58 :: Lib.itoa j.need := by
    simp only [List.mem_append, List.mem_cons, not_or]
    exact ⟨itoa_no _ h.2.2.1 64 (by decide), by decide, itoa_no _ (by omega) 64 (by decide)⟩
  rw [jobT_form, spB, cutC_app 64 _ _ (itoa_no _ h.1 64 (by decide)), cutC_one 64 _ n1]
  simp only
  rw [cutC_app 58 _ _ (itoa_no _ h.2.2.1 58 (by decide)), cutC_one 58 _ (itoa_no _ (by omega) 58 (by decide))]
  simp only
  rw [numB_itoa _ (by omega), numB_itoa _ (by omega), numB_itoa _ (by omega)]
  rw [if_pos ⟨rfl, rfl, rfl, ht⟩]
/-- The program's answer, and the specification's. -/
def ipB (s : List UInt8) : Option (List Jb) := if s = [] then some [] else if fjB ((cutC 32 s).map pjB) = s then some ((cutC 32 s).map pjB) else none
def allSp : List (List UInt8) → Option (List Jb)
  | [] => some []
  | x :: r => match spB x with
    | none => none
    | some j => match allSp r with
      | none => none
      | some t => some (j :: t)
def qpB (s : List UInt8) : Option (List Jb) := if s = [] then some [] else if 60 < (cutC 32 s).length then none else match allSp (cutC 32 s) with
  | none => none
  | some js => if fjB js = s then some js else none
theorem fj_parts {js : List Jb} {s : List UInt8} (h : fjB js = s) (hs : s ≠ []) : toldB js = true ∧ cutC 32 s = js.map jobT := by
  have ht : toldB js = true := by
    cases hq : toldB js with
    | true => rfl
    | false => rw [fjB, hq] at h; exact absurd h.symm hs
  rw [fjB, if_pos ht] at h
  refine ⟨ht, ?_⟩
  have hne : js.map jobT ≠ [] := fun e => by rw [e, Lib.join_nil] at h; exact hs h.symm
  rw [← h]
  refine cutC_join 32 _ hne fun x hx => ?_
  obtain ⟨j, hj, rfl⟩ := List.mem_map.1 hx
  exact jobT_no (told_all ht j hj) 32 (by decide) (by decide) (by decide)
theorem map_pj {js : List Jb} (h : ∀ j ∈ js, tellB j = true) : (js.map jobT).map pjB = js := by
  rw [List.map_map]
  conv => rhs; rw [← List.map_id js]
  exact List.map_congr_left fun j hj => pj_job (h j hj)
theorem all_sp : ∀ {js : List Jb}, (∀ j ∈ js, tellB j = true) → allSp (js.map jobT) = some js
  | [], _ => rfl
  | j :: js, h => by
    have ih := all_sp (js := js) fun x hx => h x (List.mem_cons_of_mem _ hx)
    rw [List.map_cons, allSp, sp_job (h j (List.mem_cons_self ..)), ih]
/-- A text that tells jobs is read back. -/
theorem ip_told {js : List Jb} {s : List UInt8} (h : fjB js = s) (hs : s ≠ []) : ipB s = some js := by
  obtain ⟨ht, hc⟩ := fj_parts h hs
  rw [ipB, if_neg hs, hc, map_pj (told_all ht), if_pos h]
theorem qp_told {js : List Jb} {s : List UInt8} (h : fjB js = s) (hs : s ≠ []) : qpB s = some js := by
  obtain ⟨ht, hc⟩ := fj_parts h hs
  have hl := told_len ht
  rw [qpB, if_neg hs, hc, if_neg (by rw [List.length_map]; omega), all_sp (told_all ht)]
  simp only
  rw [if_pos h]
/-- The two answers are one. -/
theorem ip_qp (s : List UInt8) : qpB s = ipB s := by
  by_cases hs : s = []
  · rw [ipB, qpB, if_pos hs, if_pos hs]
  · by_cases h : fjB ((cutC 32 s).map pjB) = s
    · rw [ip_told h hs, qp_told h hs]
    · have e1 : ipB s = none := by rw [ipB, if_neg hs, if_neg h]
      rw [e1, qpB, if_neg hs]
      split
      · rfl
      · split
        · rfl
        · rename_i js hjs
          by_cases h2 : fjB js = s
          · have := ip_told h2 hs
            rw [e1] at this; cases this
          · rw [if_neg h2]
theorem ip_some {s : List UInt8} {js : List Jb} (h : ipB s = some js) : fjB js = s := by
  unfold ipB at h
  by_cases hs : s = []
  · rw [if_pos hs] at h
    injection h with h
    rw [← h, hs]; rfl
  · rw [if_neg hs] at h
    by_cases h2 : fjB ((cutC 32 s).map pjB) = s
    · rw [if_pos h2] at h
      injection h with h
      rw [← h, h2]
    · rw [if_neg h2] at h; cases h
theorem fj_ne {js : List Jb} (h : toldB js = true) (hn : js ≠ []) : fjB js ≠ [] := by
  rw [fjB, if_pos h]
  cases js with
  | nil => exact absurd rfl hn
  | cons j r =>
    rw [List.map_cons, Lib.join_cons, jobT_form]
    simp
theorem ip_fj {js : List Jb} (h : toldB js = true) : ipB (fjB js) = some js := by
  by_cases hn : js = []
  · subst hn; rfl
  · exact ip_told rfl (fj_ne h hn)
end Go.Proofs.YtnmpilmjkgdpgaaDoor
