/-
  The walk of the law FnJobsSize. The laid table of powers of ten is read.
-/
import Derived.Test.YtaadlgpglfpmpaaDoorFs
import Derived.Test.YtaadlgpglfpmpaaDoorGE


namespace Go.Proofs.YtaadlgpglfpmpaaDoor
open Go.RowKit

theorem str_idx2 {B : List UInt8} {i : Nat} {b : UInt8} (h : B[i]? = some b) (W : World) : (Instr.index 9 (.string ⟨B.toArray⟩) (.int .i64 (i : Int))).run Tryd.prog W = .ok (.int .u8 (b.toNat : Int)) W := by
  obtain ⟨hi, hb⟩ := List.getElem?_eq_some_iff.1 h
  have hs : (⟨B.toArray⟩ : ByteArray).size = B.length := by show B.toArray.size = _; simp
  rw [run_index_string _ _ _ _ _ Tryd.underlying9, dif_pos ⟨by omega, by omega⟩]
  have : ((⟨B.toArray⟩ : ByteArray)[((i : Int)).toNat]'(by omega)) = b := by
    show B.toArray[((i : Int)).toNat]'(by simp; omega) = b
    simpa using hb
  rw [this]
theorem cnt_dec (n : Nat) : (Lib.decDigits n).count 58 = 0 := by
  induction n using Nat.strongRecOn with
  | _ n ih =>
    have one : ∀ r : Nat, r < 10 → ([UInt8.ofNat (48 + r)] : List UInt8).count 58 = 0 := fun r hr => by
      rcases (show r = 0 ∨ r = 1 ∨ r = 2 ∨ r = 3 ∨ r = 4 ∨ r = 5 ∨ r = 6 ∨ r = 7 ∨ r = 8 ∨ r = 9 by omega) with rfl | rfl | rfl | rfl | rfl | rfl | rfl | rfl | rfl | rfl <;> decide
    by_cases h : n < 10
    · rw [Lib.decDigits_one h]; exact one n h
    · rw [dec_step h, List.count_append, ih (n / 10) (by omega), one _ (by omega)]
theorem cnt_jobT {j : Jb} (h : tellB j = true) : (jobT j).count 58 = 1 := by
  obtain ⟨x, y, z⟩ := j
  simp only [tellB, decide_eq_true_eq] at h
  obtain ⟨x', rfl⟩ := Int.eq_ofNat_of_zero_le (show 0 ≤ x by omega)
  obtain ⟨y', rfl⟩ := Int.eq_ofNat_of_zero_le (show 0 ≤ y by omega)
  obtain ⟨z', rfl⟩ := Int.eq_ofNat_of_zero_le (show 0 ≤ z by omega)
  have h1 : (Lib.itoa (x' : Int)).count 58 = 0 := by rw [Lib.itoa_nonneg]; exact cnt_dec x'
  have h2 : (Lib.itoa (y' : Int)).count 58 = 0 := by rw [Lib.itoa_nonneg]; exact cnt_dec y'
  have h3 : (Lib.itoa (z' : Int)).count 58 = 0 := by rw [Lib.itoa_nonneg]; exact cnt_dec z'
  unfold jobT
  simp only [List.count_append, h1, h2, h3]
  decide
theorem cnt_tail : ∀ (l : List Jb), (∀ j ∈ l, tellB j = true) → (Lib.joinTail [32] (l.map jobT)).count 58 = l.length
  | [], _ => rfl
  | j :: l, h => by
    have h1 := cnt_tail l (fun x hx => h x (List.mem_cons_of_mem _ hx))
    have h2 : Lib.joinTail [32] ((j :: l).map jobT) = [32] ++ jobT j ++ Lib.joinTail [32] (l.map jobT) := by simp [Lib.joinTail]
    rw [h2, List.count_append, List.count_append, cnt_jobT (h j (List.mem_cons_self ..)), h1]
    have h3 : ([32] : List UInt8).count 58 = 0 := by decide
    rw [h3, List.length_cons]; omega
theorem fj_told2 {js : List Jb} (h : fjB js ≠ []) : toldB js = true := by
  cases ht : toldB js with
  | false => rw [fjB, ht] at h; exact absurd rfl h
  | true => rfl
theorem cnt_fj {js : List Jb} (h : fjB js ≠ []) : (fjB js).count 58 = js.length := by
  have ht := fj_told2 h
  rw [fjB, if_pos ht]
  cases js with
  | nil => rfl
  | cons j l =>
    have ha := told_all ht
    rw [List.map_cons, Lib.join_cons, List.count_append, cnt_jobT (ha j (List.mem_cons_self ..)), cnt_tail l (fun x hx => ha x (List.mem_cons_of_mem _ hx)), List.length_cons]; omega

set_option maxHeartbeats 1600000 in
theorem DrawFormatJobs_any {w0 w : World} {v : Value} (hv : RawB w0 v) (hb : Bw w0 w) : Calls Tryd.prog 34 #[v] w (fun e w' => ∃ (bo : Option Addr) (d : Nat) (js : List Jb), e = .returned (.slice bo js.length d) ∧ Js w w' bo d js) := by
  have HV := Lib.hid hv
  clear hv
  go_enter Tryd.func34, Tryd.ntmps34
  go_wp2_with fail
  refine (l6Case_any HV.out hb).mono ?_
  rintro e w1 ⟨ao, c, l, bj, d, js, rfl, ⟨_, _, _, hj, hj61, hsj, hb1⟩⟩
  have HJ := Lib.hid hj
  have HSJ := Lib.hid hsj
  clear hj hsj
  go_wp2
  go_ret
  exact ⟨bj, d, js, rfl, HJ.out, hj61, HSJ.out, hb1⟩
set_option maxRecDepth 100000 in
set_option maxHeartbeats 1600000 in
theorem law_FnJobsSize (v : Value) (w : World) (hv : RawB w v) (hp : Pow10 w) : Calls Tryd.prog 9 #[v] w fun e w' => e = .returned (.bool true) ∧ Bw w w' := by
  have HP := Lib.hid hp
  clear hp
  have HV := Lib.hid hv
  obtain ⟨⟨bo, n, cc, rfl, hc, hm, _⟩⟩ := hv
  unfold maxLen at hm
  by_cases hn : 1048576 < n
  · go_enter Tryd.func9, Tryd.ntmps9
    go_wp2
    go_ret
    exact ⟨rfl, Bw.refl _⟩
  have hnd : decide (1048576 < (n : Int)) = false := decide_eq_false (by omega)
  go_enter Tryd.func9, Tryd.ntmps9
  go_wp2_with fail
  refine (DrawFormatJobs_any HV.out (Bw.refl _)).mono ?_
  clear hnd
  rintro e w1 ⟨bj, d, js, rfl, ⟨hjow, hj61, _, hb1⟩⟩
  have hj : js.length ≤ 1048576 := by omega
  have HJ := Lib.hid (sj_row hjow hj)
  clear hjow
  go_wp2_with fail
  refine (fj_impl HJ.out (pow_bw HP.out hb1)).mono ?_
  have hcn := fun h => cnt_fj (js := js) h
  have hbl : (fjB js).length ≤ 140737488355328 := by
    by_cases h : toldB js = true
    · rw [fjB, if_pos h]; exact fj_len (told_all h) (told_len h)
    · rw [fjB, if_neg h]; simp
  obtain ⟨B, hB⟩ : ∃ B, fjB js = B := ⟨_, rfl⟩
  have HBE := Lib.hid hB
  rw [hB] at hcn hbl ⊢
  have HCN := Lib.hid hcn
  clear hcn
  rintro e w2 ⟨rfl, hb2⟩
  go_wp2_with fail
  refine (fj_spec (HJ.out.bw hb2)).mono ?_
  rw [HBE.out]
  rintro e w3 ⟨rfl, hb3⟩
  have h13 := bw_trans hb2 hb3
  have hw3 := bw_trans hb1 h13
  cases B with
  | nil =>
    go_wp2_with fail
    refine (fj_spec (HJ.out.bw h13)).mono ?_
    rw [HBE.out]
    rintro e w4 ⟨rfl, hb4⟩
    go_wp2
    go_ret
    exact ⟨rfl, bw_trans hw3 hb4⟩
  | cons b0 B0 =>
    have hc := HCN.out (by simp)
    have hne : (b0 :: B0).isEmpty = false := rfl
    obtain ⟨B, hBB⟩ : ∃ B, b0 :: B0 = B := ⟨_, rfl⟩
    rw [hBB] at hne hc hbl ⊢
    have hs0 : (⟨B.toArray⟩ : ByteArray).size = B.length := by show B.toArray.size = _; simp
    have hs1 : B.toArray.size = B.length := by simp
    have HC := Lib.hid hc
    clear hc
    clear hB hBB HBE HCN
    go_wp2
    go_loopw [5, 6] (fun q i wr => ∃ k q' : Nat, k ≤ B.length ∧ i = .int .i64 k ∧ q = .int .i64 q' ∧ q' ≤ k ∧ Hid (q' + (B.drop k).count 58 = js.length) ∧ Bw w3 wr) (fun _ i _ => B.length - (intOf i).toNat)
    case atStart => exact ⟨0, 0, Nat.zero_le _, rfl, rfl, Nat.le_refl _, by show _ = _; simp; exact HC.out, Bw.refl _⟩
    case round =>
      obtain ⟨k, q', hk, rfl, rfl, hqk, hq, hbw⟩ := hrel
      by_cases hlt : k < B.length
      · obtain ⟨b, hbk⟩ := getSome hlt
        have hix := str_idx2 hbk
        have hdr : (B.drop k).count 58 = (B.drop (k + 1)).count 58 + if b = 58 then 1 else 0 := by rw [drop_cons hbk, List.count_cons]; simp
        by_cases hb58 : b = 58
        · subst hb58
          have hst : q' + 1 + (B.drop (k + 1)).count 58 = js.length := by have := hq.out; rw [hdr] at this; simp at this; omega
          have hd : (((58 : UInt8).toNat : Int) == 58) = true := by decide
          have hix2 : ∀ W : World, (Instr.index 9 (.string ⟨B.toArray⟩) (.int .i64 (k : Int))).run Tryd.prog W = .ok (.int .u8 58) W := hix
          have HST := Lib.hid hst
          have HDR := Lib.hid hdr
          have HBK := Lib.hid hbk
          clear hst hdr hbk
          clear hix hd
          go_wp2
          go_roundw
          case rel => exact ⟨k + 1, q' + 1, by omega, by go_num, by go_num, by omega, HST.out, hbw⟩
          case measure => simp [intOf]; omega
        · have hst : q' + (B.drop (k + 1)).count 58 = js.length := by have := hq.out; rw [hdr, if_neg hb58] at this; omega
          have hbn : b.toNat ≠ 58 := fun h => hb58 (by apply UInt8.toNat_inj.1; rw [h]; rfl)
          obtain ⟨n, hn⟩ : ∃ n, b.toNat = n := ⟨_, rfl⟩
          rw [hn] at hix hbn
          have hd : ((n : Int) == 58) = false := by simp; omega
          have HST := Lib.hid hst
          have HDR := Lib.hid hdr
          have HBK := Lib.hid hbk
          have HN := Lib.hid hn
          clear hst hdr hbk hn
          go_wp2
          go_roundw
          case rel => exact ⟨k + 1, q', by omega, by go_num, rfl, by omega, HST.out, hbw⟩
          case measure => simp [intOf]; omega
      · have hge : decide ((k : Int) < (B.length : Int)) = false := decide_eq_false (by omega)
        have hqj : q' = js.length := by have := hq.out; rw [List.drop_of_length_le (by omega)] at this; simpa using this
        subst hqj
        go_wp2
        go_ret
        exact ⟨by simp, bw_trans hw3 hbw⟩
end Go.Proofs.YtaadlgpglfpmpaaDoor
