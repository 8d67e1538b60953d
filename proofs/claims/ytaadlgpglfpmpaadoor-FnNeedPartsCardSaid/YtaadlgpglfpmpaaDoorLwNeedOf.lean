/-
  The walk of the law FnNeedOf. The laid table of powers of ten is read.
-/
import Derived.Test.YtaadlgpglfpmpaaDoorFj
import Derived.Test.YtaadlgpglfpmpaaDoorGE
import Derived.Test.YtaadlgpglfpmpaaDoorDm



namespace Go.Proofs.YtaadlgpglfpmpaaDoor
open Go.RowKit

def sumA : List Jb → Int
  | [] => 0
  | j :: l => j.need + sumA l
theorem sumA_append (a b : List Jb) : sumA (a ++ b) = sumA a + sumA b := by
  induction a with
  | nil => simp [sumA]
  | cons x l ih => simp only [List.cons_append, sumA, ih]; omega
theorem sum5 : ∀ (l : List Jb), (∀ j ∈ l, tellB j = true) → sumN 0 l + sumN 1 l + sumN 2 l + sumN 3 l + sumN 4 l = sumA l ∧ 0 ≤ sumA l ∧ sumA l ≤ 20 * l.length
  | [], _ => by simp [sumN, sumA]
  | j :: l, h => by
    obtain ⟨h1, h2, h3⟩ := sum5 l (fun x hx => h x (List.mem_cons_of_mem _ hx))
    have hj := h j (List.mem_cons_self ..)
    simp only [tellB, decide_eq_true_eq] at hj
    simp only [sumN, sumA, List.length_cons]
    rcases (show j.task = 0 ∨ j.task = 1 ∨ j.task = 2 ∨ j.task = 3 ∨ j.task = 4 by omega) with h | h | h | h | h <;> simp [h] <;> omega
theorem sumN_leA (t : Int) : ∀ (l : List Jb), (∀ j ∈ l, tellB j = true) → sumN t l ≤ sumA l
  | [], _ => by simp [sumN, sumA]
  | j :: l, h => by
    have h1 := sumN_leA t l (fun x hx => h x (List.mem_cons_of_mem _ hx))
    have hj := h j (List.mem_cons_self ..)
    simp only [tellB, decide_eq_true_eq] at hj
    simp only [sumN, sumA]
    split <;> omega
theorem jobT_ne (j : Jb) : jobT j ≠ [] := by simp [jobT]
theorem fj_nil {js : List Jb} (h : fjB js = []) (t : Int) : needOf js t = 0 := by
  cases ht : toldB js with
  | false => rw [needOf, ht]; rfl
  | true =>
    rw [fjB, if_pos ht] at h
    cases js with
    | nil => rw [needOf, if_pos ht]; rfl
    | cons j l =>
      rw [List.map_cons, Lib.join_cons] at h
      exact absurd (List.append_eq_nil_iff.1 h).1 (jobT_ne j)
theorem fj_told {js : List Jb} (h : fjB js ≠ []) : toldB js = true := by
  cases ht : toldB js with
  | false => rw [fjB, ht] at h; exact absurd rfl h
  | true => rfl
/-- The sum of the first needs. -/
def sumT (js : List Jb) : Nat → Int
  | 0 => 0
  | m + 1 => sumT js m + needOf js m
theorem sumT_bd (js : List Jb) : ∀ m : Nat, 0 ≤ sumT js m ∧ sumT js m ≤ 1200 * m
  | 0 => by simp [sumT]
  | m + 1 => by
    have h1 := sumT_bd js m
    have h2 := needOf_bd js m
    simp only [sumT]; omega

set_option maxRecDepth 100000 in
set_option maxHeartbeats 1600000 in
theorem law_FnNeedOf (v : Value) (w : World) (hv : RawB w v) (hp : Pow10 w) : Calls Tryd.prog 10 #[v] w fun e w' => e = .returned (.bool true) ∧ Bw w w' := by
  have HP := Lib.hid hp
  clear hp
  have HV := Lib.hid hv
  obtain ⟨⟨bo, n, cc, rfl, hc, hm, _⟩⟩ := hv
  unfold maxLen at hm
  by_cases hn : 1048576 < n
  · go_enter Tryd.func10, Tryd.ntmps10
    go_wp2
    go_ret
    exact ⟨rfl, Bw.refl _⟩
  have hnd : decide (1048576 < (n : Int)) = false := decide_eq_false (by omega)
  go_enter Tryd.func10, Tryd.ntmps10
  go_wp2_with fail
  refine (DrawNeedOf_any HV.out (Bw.refl _)).mono ?_
  clear hnd
  rintro e w1 ⟨bj, d, js, t, rfl, ⟨hjow, hj61, _, hb1⟩⟩
  have hj : js.length ≤ 1048576 := by omega
  have HJ := Lib.hid (sj_row hjow hj)
  have HK := Lib.hid (Own.ofRow hjow).rj
  clear hjow
  go_wp2_with fail
  refine (NeedOf_impl _ _ _ js t hj HK.out).mono ?_
  rintro e w2 ⟨rfl, hb2⟩
  go_wp2_with fail
  refine (NeedOf_spec _ _ _ js t hj (HK.out.bw hb2)).mono ?_
  rintro e w3 ⟨rfl, hb3⟩
  have h13 := bw_trans hb2 hb3
  have hfn := fun h => fj_nil (js := js) h t
  have hft := fun h => fj_told (js := js) h
  have hle := sumN_leA t js
  have hnt : toldB js = true → needOf js t = sumN t js := fun h => by rw [needOf, if_pos h]
  obtain ⟨N, hN⟩ : ∃ N, needOf js t = N := ⟨_, rfl⟩
  rw [hN] at hfn hnt
  rw [hN]
  have hnn : (N != N) = false := bne_self_eq_false _
  have HFN := Lib.hid hfn
  have HFT := Lib.hid hft
  have HLE := Lib.hid hle
  have HNT := Lib.hid hnt
  clear hfn hft hle hnt
  go_wp2_with fail
  refine (fj_impl (HJ.out.bw h13) (pow_bw HP.out (bw_trans hb1 h13))).mono ?_
  obtain ⟨B, hB⟩ : ∃ B, fjB js = B := ⟨_, rfl⟩
  have HBE := Lib.hid hB
  rw [hB]
  rintro e w4 ⟨rfl, hb4⟩
  have h14 := bw_trans h13 hb4
  have hw4 := bw_trans hb1 h14
  cases B with
  | nil =>
    have hN0 : N = 0 := HFN.out HBE.out
    subst hN0
    go_wp2_with fail
    refine (NeedOf_spec _ _ _ js t hj (HK.out.bw h14)).mono ?_
    rw [hN]
    rintro e w5 ⟨rfl, hb5⟩
    go_wp2
    go_ret
    exact ⟨rfl, bw_trans hw4 hb5⟩
  | cons b0 B0 =>
    have hto : toldB js = true := HFT.out (by rw [HBE.out]; simp)
    obtain ⟨s1, s2, s3⟩ := sum5 js (told_all hto)
    have hNA : N ≤ sumA js := by rw [HNT.out hto]; exact HLE.out (told_all hto)
    have hN0 := (needOf_bd js t).1
    rw [hN] at hN0
    have h60 := told_len hto
    have hne : (b0 :: B0).isEmpty = false := rfl
    have ht5 : sumT js 5 = sumA js := by
      simp only [sumT, needOf, if_pos hto]
      rw [← s1]; simp
    obtain ⟨B, hBB⟩ : ∃ B, b0 :: B0 = B := ⟨_, rfl⟩
    rw [hBB] at hne ⊢
    have HTO := Lib.hid hto
    have S1 := Lib.hid s1
    clear hto s1
    clear hB hBB
    go_wp2_with fail
    go_loopw [6, 7] (fun u i wr => ∃ k : Nat, k ≤ 5 ∧ i = .int .i64 k ∧ u = .int .i64 (sumT js k) ∧ Bw w4 wr) (fun _ i _ => 5 - (intOf i).toNat)
    case atStart => exact ⟨0, by omega, rfl, rfl, Bw.refl _⟩
    case round =>
      obtain ⟨k, hk, rfl, rfl, hbw⟩ := hrel
      by_cases hlt : k < 5
      · have hbd := sumT_bd js (k + 1)
        have hst : sumT js (k + 1) = sumT js k + needOf js k := rfl
        go_wp2_with fail
        refine (NeedOf_impl _ _ _ js k hj (HK.out.bw (bw_trans h14 hbw))).mono ?_
        obtain ⟨x, hx⟩ : ∃ x, needOf js (k : Int) = x := ⟨_, rfl⟩
        obtain ⟨y, hy⟩ : ∃ y, sumT js k = y := ⟨_, rfl⟩
        rw [hx, hy] at hst
        rw [hx, hy]
        rintro e w5 ⟨rfl, hb5⟩
        have hwr := IntWalk.i64_in (y + x) (by omega)
        have HST := Lib.hid hst
        have HBD := Lib.hid hbd
        have HX := Lib.hid hx
        have HY := Lib.hid hy
        clear hst hbd hx hy
        go_wp2
        go_roundw
        case rel => exact ⟨k + 1, by omega, by go_num, by rw [HST.out], bw_trans hbw hb5⟩
        case measure => simp [intOf]; omega
      · obtain rfl : k = 5 := by omega
        rw [ht5]
        go_wp2
        obtain ⟨w5, rfl⟩ : ∃ w5 : World, w5 = wr := ⟨_, rfl⟩
        have h15 := bw_trans h14 hbw
        have hw5 := bw_trans hw4 hbw
        go_loopw [8, 9] (fun u i wr => ∃ (k : Nat) (q : Int), k ≤ js.length ∧ i = .int .i64 k ∧ u = .int .i64 q ∧ 0 ≤ q ∧ q ≤ 20 * k ∧ Hid (q + sumA (js.drop k) = sumA js) ∧ Bw w5 wr) (fun _ i _ => js.length - (intOf i).toNat)
        case atStart => exact ⟨0, 0, Nat.zero_le _, rfl, rfl, Int.le_refl _, by omega, by show _ = _; simp, Bw.refl _⟩
        case round =>
          obtain ⟨k, q, hk, rfl, rfl, hq0, hq1, hqs, hbw2⟩ := hrel
          by_cases hlt : k < js.length
          · obtain ⟨⟨x, y, z⟩, bj', oj, hjk, hbo, hbsj, c0, c1', c2'⟩ := HK.out.get (bw_trans h15 hbw2) hlt
            subst hbo
            dsimp only at c0 c1' c2'
            have htl := told_all HTO.out _ (List.mem_of_getElem? hjk)
            simp only [tellB, decide_eq_true_eq] at htl
            have hst : q + z + sumA (js.drop (k + 1)) = sumA js := by have := hqs.out; rw [drop_cons hjk] at this; simp only [sumA] at this; omega
            have hwr := IntWalk.i64_in (q + z) (by omega)
            have HST := Lib.hid hst
            have HJK := Lib.hid hjk
            clear hst hjk
            go_wp2
            go_roundw
            case rel => exact ⟨k + 1, q + z, by omega, by go_num, rfl, by omega, by omega, HST.out, hbw2⟩
            case measure => simp [intOf]; omega
          · have hge : decide ((k : Int) < (js.length : Int)) = false := decide_eq_false (by omega)
            have hqA : q = sumA js := by have := hqs.out; rw [show js.drop k = [] from List.drop_of_length_le (by omega)] at this; simp [sumA] at this; exact this
            subst hqA
            have hd1 : decide (N ≤ sumA js) = true := decide_eq_true hNA
            go_wp2
            go_ret
            exact ⟨rfl, bw_trans hw5 hbw2⟩
end Go.Proofs.YtaadlgpglfpmpaaDoor
