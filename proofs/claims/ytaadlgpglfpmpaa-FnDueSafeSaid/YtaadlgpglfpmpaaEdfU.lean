/-
  Shares over one common divisor, and counts of jobs that are apart. No program in sight.
-/
import Derived.Test.YtaadlgpglfpmpaaGC
import Derived.Test.YtaadlgpglfpmpaaGJ
import Derived.Test.YtaadlgpglfpmpaaRsp


namespace Go.Proofs.Ytaadlgpglfpmpaa
open Go.RowKit

/-- The product of the periods. -/
def prodE : List Tk → Nat
  | [] => 1
  | t :: l => t.every.toNat * prodE l
theorem prodE_pos : ∀ {l : List Tk}, (∀ t ∈ l, t.ok = true) → 0 < prodE l
  | [], _ => Nat.one_pos
  | t :: l, h => by
    have hk := (Tk.ok_iff t).1 (h t (by simp))
    exact Nat.mul_pos (by omega) (prodE_pos fun u hu => h u (by simp [hu]))
theorem prodE_dvd : ∀ {l : List Tk} {t : Tk}, t ∈ l → t.every.toNat ∣ prodE l
  | u :: l, t, h => by
    rcases List.mem_cons.1 h with rfl | h
    · exact Nat.dvd_mul_right _ _
    · exact Nat.dvd_trans (prodE_dvd h) (Nat.dvd_mul_left _ _)
/-- The needs of these tasks over their periods, times N. -/
def utilF (f : Tk → Option Nat) (N : Nat) : List Tk → Nat
  | [] => 0
  | t :: l => (match f t with | none => 0 | some n => n * (N / t.every.toNat)) + utilF f N l
theorem sumF_util (f : Tk → Option Nat) {N : Nat} : ∀ (l : List Tk) (a : Fr) (u : Nat), (∀ t ∈ l, t.ok = true ∧ t.every.toNat ∣ N) → 0 < a.q → a.p * N = a.q * u → 0 < (sumF f l a).q ∧ (sumF f l a).p * N = (sumF f l a).q * (u + utilF f N l)
  | [], a, u, _, hq, h => ⟨hq, by simpa [sumF, utilF] using h⟩
  | t :: l, a, u, hl, hq, h => by
    obtain ⟨hok, hdv⟩ := hl t (by simp)
    have hk := (Tk.ok_iff t).1 hok
    have he : 0 < t.every.toNat := by omega
    simp only [sumF, utilF]
    cases hf : f t with
    | none =>
      dsimp only
      rw [Nat.zero_add]
      exact sumF_util f l a u (fun x hx => hl x (by simp [hx])) hq h
    | some n =>
      dsimp only
      obtain ⟨k, hk2⟩ := hdv
      have hdiv : N / t.every.toNat = k := by rw [hk2]; exact Nat.mul_div_cancel_left k he
      have hq2 := Nat.mul_pos hq he
      have hc := red_cross (p := a.p * t.every.toNat + n * a.q) hq2
      have hb := red_pos (p := a.p * t.every.toNat + n * a.q) hq2
      have hN : (a.p * t.every.toNat + n * a.q) * N = (a.q * t.every.toNat) * (u + n * k) := by
        rw [Nat.add_mul, Nat.mul_add]
        rw [show a.p * t.every.toNat * N = (a.p * N) * t.every.toNat by ac_rfl, h]
        rw [show n * a.q * N = n * a.q * (t.every.toNat * k) by rw [← hk2]]
        rw [show a.q * u * t.every.toNat = a.q * t.every.toNat * u by ac_rfl, show n * a.q * (t.every.toNat * k) = a.q * t.every.toNat * (n * k) by ac_rfl]
      have := sumF_util f l (red (a.p * t.every.toNat + n * a.q) (a.q * t.every.toNat)) (u + n * k) (fun x hx => hl x (by simp [hx])) hb (by
        refine Nat.eq_of_mul_eq_mul_right hq2 ?_
        generalize red (a.p * t.every.toNat + n * a.q) (a.q * t.every.toNat) = r at *
        calc r.p * N * (a.q * t.every.toNat) = (r.p * (a.q * t.every.toNat)) * N := by ac_rfl
          _ = (a.p * t.every.toNat + n * a.q) * r.q * N := by rw [hc]
          _ = ((a.p * t.every.toNat + n * a.q) * N) * r.q := by ac_rfl
          _ = r.q * (u + n * k) * (a.q * t.every.toNat) := by rw [hN]; ac_rfl)
      rw [hdiv, ← Nat.add_assoc]
      exact this
def util (l : List Tk) (crit high : Bool) : Nat := utilF (needF crit high) (prodE l) l
theorem share_util {l : List Tk} (h : setOk l = true) (crit high : Bool) : 0 < (share l crit high).q ∧ (share l crit high).p * prodE l = (share l crit high).q * util l crit high := by
  have := sumF_util (needF crit high) (N := prodE l) l ⟨0, 1⟩ 0 (fun t ht => ⟨setOk_all h t ht, prodE_dvd ht⟩) Nat.one_pos (by simp)
  rw [Nat.zero_add] at this
  exact this
theorem red_fit {p q : Nat} (hq : 0 < q) (h : fitsF (red p q) = true) : p ≤ q := by
  have hc := red_cross (p := p) hq
  have hp := red_pos (p := p) hq
  simp only [fitsF, decide_eq_true_eq] at h
  refine Nat.le_of_mul_le_mul_right ?_ hp
  rw [← hc, Nat.mul_comm q]
  exact Nat.mul_le_mul_right _ h
/-- The sum of two shares fits. -/
theorem add_fit {a b : Fr} {N A B : Nat} (ha : 0 < a.q) (hb : 0 < b.q) (hA : a.p * N = a.q * A) (hB : b.p * N = b.q * B) (h : fitsF (addF a b) = true) : A + B ≤ N := by
  have h1 := red_fit (Nat.mul_pos ha hb) h
  have hq := Nat.mul_pos ha hb
  refine Nat.le_of_mul_le_mul_left ?_ hq
  have h2 := Nat.mul_le_mul_right N h1
  rw [Nat.add_mul, show a.p * b.q * N = (a.p * N) * b.q by ac_rfl, show b.p * a.q * N = (b.p * N) * a.q by ac_rfl, hA, hB] at h2
  rw [Nat.mul_add]
  calc a.q * b.q * A + a.q * b.q * B = a.q * A * b.q + b.q * B * a.q := by ac_rfl
    _ ≤ a.q * b.q * N := h2
def mulF (a b : Fr) : Fr := red (a.p * b.p) (a.q * b.q)
def virtB (l : List Tk) : Bool := (factor l).2 && (plainB l || fitsF (addF (mulF (factor l).1 (share l false false)) (share l true true)))
/-- What the factor and the test of virtual deadlines say of the shares. -/
structure Virt (l : List Tk) (x : Fr) (N A B H : Nat) : Prop where
  q : 0 < x.q
  le : x.p ≤ x.q
  n : 0 < N
  a : A ≤ N
  h : H ≤ N
  low : x.p * A + x.q * B ≤ x.p * N
  high : x.p * A + x.q * H ≤ x.q * N
  pos : 0 < B → 0 < x.p
theorem util_mono {l : List Tk} (h : setOk l = true) : util l true false ≤ util l true true := by
  have : ∀ (N : Nat) (l : List Tk), (∀ t ∈ l, t.ok = true) → utilF (needF true false) N l ≤ utilF (needF true true) N l := by
    intro N l
    induction l with
    | nil => intro _; exact Nat.le_refl _
    | cons t l ih =>
      intro h
      have h1 := ih fun u hu => h u (by simp [hu])
      have hk := (Tk.ok_iff t).1 (h t (by simp))
      simp only [utilF, needF]
      refine Nat.add_le_add ?_ h1
      by_cases hc : t.crit = true
      · rw [if_pos hc, if_pos hc]
        dsimp only
        exact Nat.mul_le_mul_right _ (by simp; omega)
      · rw [if_neg hc, if_neg hc]; exact Nat.le_refl _
  exact this _ l (setOk_all h)
theorem virt_of {l : List Tk} (hv : virtB l = true) : setOk l = true ∧ (∀ t ∈ l, t.due = t.every) ∧ (factor l).2 = true ∧ Virt l (factor l).1 (prodE l) (util l false false) (util l true false) (util l true true) := by
  simp only [virtB, Bool.and_eq_true, Bool.or_eq_true] at hv
  obtain ⟨hf, hv⟩ := hv
  have himp : implB l = true := by
    cases hi : implB l with
    | true => rfl
    | false => simp [factor, hi] at hf
  have hs : setOk l = true := by simp only [implB, Bool.and_eq_true] at himp; exact himp.1
  have hd : ∀ t ∈ l, t.due = t.every := by
    simp only [implB, Bool.and_eq_true, List.all_eq_true, decide_eq_true_eq] at himp; exact himp.2
  obtain ⟨qa, ea⟩ := share_util hs false false
  obtain ⟨qb, eb⟩ := share_util hs true false
  obtain ⟨qh, eh⟩ := share_util hs true true
  have hN := prodE_pos (setOk_all hs)
  have hBH := util_mono hs
  refine ⟨hs, hd, hf, ?_⟩
  by_cases hp : plainB l = true
  · have hx : (factor l).1 = ⟨1, 1⟩ := by simp [factor, himp, hp]
    have h1 := add_fit qa qh ea eh (by simp only [plainB, Bool.and_eq_true] at hp; exact hp.2)
    rw [hx]
    exact ⟨Nat.one_pos, Nat.le_refl _, hN, by omega, by omega, by dsimp only; omega, by dsimp only; omega, fun _ => Nat.one_pos⟩
  · have hpf : plainB l = false := by simpa using hp
    have hnot : ¬ (fitsF (addF (share l false false) (share l true false)) = false ∨ (share l false false).p = (share l false false).q) := fun h => by
      simp [factor, himp, hpf, h] at hf
    have hx : (factor l).1 = red ((share l true false).p * (share l false false).q) ((share l true false).q * ((share l false false).q - (share l false false).p)) := by
      simp only [factor, himp, hpf]
      rw [if_neg (by simp), if_neg (by simp), if_neg hnot]
    have hn1 : fitsF (addF (share l false false) (share l true false)) = true := by
      cases h : fitsF (addF (share l false false) (share l true false)) with
      | true => rfl
      | false => exact absurd (.inl h) hnot
    have hn2 : (share l false false).p ≠ (share l false false).q := fun h => hnot (.inr h)
    have hab := add_fit qa qb ea eb hn1
    have hfit : fitsF (addF (mulF (factor l).1 (share l false false)) (share l true true)) = true := hv.resolve_left hp
    generalize share l false false = a at *
    generalize share l true false = b at *
    generalize share l true true = h at *
    generalize util l false false = A at *
    generalize util l true false = B at *
    generalize util l true true = H at *
    generalize prodE l = N at *
    generalize factor l = F at *
    obtain ⟨x, o⟩ := F
    dsimp only at *
    subst hx
    have hap : a.p < a.q := by
      have : a.p * N ≤ a.q * N := by rw [ea]; exact Nat.mul_le_mul_left _ (by omega)
      have := Nat.le_of_mul_le_mul_right this hN
      omega
    have hden : 0 < b.q * (a.q - a.p) := Nat.mul_pos qb (by omega)
    have hc := red_cross (p := b.p * a.q) hden
    have hxq := red_pos (p := b.p * a.q) hden
    generalize red (b.p * a.q) (b.q * (a.q - a.p)) = x at *
    -- p (N - A) = q B
    have hE : x.p * (N - A) = x.q * B := by
      have e1 : (a.q - a.p) * N = a.q * (N - A) := by rw [Nat.sub_mul, ea, Nat.mul_sub]
      have h1 : x.p * (b.q * (a.q - a.p)) * N = b.p * a.q * x.q * N := by rw [hc]
      rw [show x.p * (b.q * (a.q - a.p)) * N = x.p * b.q * ((a.q - a.p) * N) by ac_rfl, e1, show b.p * a.q * x.q * N = (b.p * N) * (a.q * x.q) by ac_rfl, eb] at h1
      refine Nat.eq_of_mul_eq_mul_left (Nat.mul_pos qb qa) ?_
      calc b.q * a.q * (x.p * (N - A)) = x.p * b.q * (a.q * (N - A)) := by ac_rfl
        _ = b.q * B * (a.q * x.q) := h1
        _ = b.q * a.q * (x.q * B) := by ac_rfl
    have hNA : 0 < N - A := by
      have : a.p * N < a.q * N := Nat.mul_lt_mul_of_pos_right hap hN
      rw [ea] at this
      have := Nat.lt_of_mul_lt_mul_left this
      omega
    have hle : x.p ≤ x.q := by
      have : x.p * (N - A) ≤ x.q * (N - A) := by rw [hE]; exact Nat.mul_le_mul_left _ (by omega)
      exact Nat.le_of_mul_le_mul_right this hNA
    -- the test
    have hm : (mulF x a).p * (x.q * a.q) = x.p * a.p * (mulF x a).q := red_cross (Nat.mul_pos hxq qa)
    have hmq : 0 < (mulF x a).q := red_pos (Nat.mul_pos hxq qa)
    have h2 := red_fit (Nat.mul_pos hmq qh) hfit
    have h3 : x.p * A + x.q * H ≤ x.q * N := by
      generalize mulF x a = m at *
      refine Nat.le_of_mul_le_mul_left ?_ (Nat.mul_pos (Nat.mul_pos hmq qh) qa)
      have h4 := Nat.mul_le_mul_right (N * x.q * a.q) h2
      have e1 : m.p * h.q * (N * x.q * a.q) = m.q * h.q * a.q * (x.p * A) := by
        calc m.p * h.q * (N * x.q * a.q) = (m.p * (x.q * a.q)) * (h.q * N) := by ac_rfl
          _ = x.p * a.p * m.q * (h.q * N) := by rw [hm]
          _ = (a.p * N) * (x.p * m.q * h.q) := by ac_rfl
          _ = m.q * h.q * a.q * (x.p * A) := by rw [ea]; ac_rfl
      have e2 : h.p * m.q * (N * x.q * a.q) = m.q * h.q * a.q * (x.q * H) := by
        calc h.p * m.q * (N * x.q * a.q) = (h.p * N) * (m.q * x.q * a.q) := by ac_rfl
          _ = m.q * h.q * a.q * (x.q * H) := by rw [eh]; ac_rfl
      rw [Nat.add_mul, e1, e2] at h4
      rw [Nat.mul_add]
      refine Nat.le_trans h4 (Nat.le_of_eq ?_)
      ac_rfl
    have hHN : H ≤ N := Nat.le_of_mul_le_mul_left (by omega : x.q * H ≤ x.q * N) hxq
    refine ⟨hxq, hle, hN, by omega, hHN, ?_, h3, fun hB => ?_⟩
    · rw [← hE, ← Nat.mul_add]
      exact Nat.mul_le_mul_left _ (by omega)
    · have : 0 < x.p * (N - A) := by rw [hE]; exact Nat.mul_pos hxq hB
      exact Nat.pos_of_mul_pos_right this
end Go.Proofs.Ytaadlgpglfpmpaa
