/-
  The walk of the law FnDroppedOf.
-/
import Derived.Test.YtchpfpekkgbehaaGH
import Derived.Test.YtchpfpekkgbehaaDr9

namespace Go.Proofs.Ytchpfpekkgbehaa
open Go.RowKit

theorem dropFrom_has : ∀ (l : List Int) (i k : Nat) (y : Int), (dropFrom l i)[k]? = some y → ∃ a : Nat, y = ((i + a : Nat) : Int) ∧ l[a]? = some (-2)
  | [], _, _, _, h => by simp [dropFrom] at h
  | x :: l, i, k, y, h => by
    simp only [dropFrom] at h
    have up : ∀ k, (dropFrom l (i + 1))[k]? = some y → ∃ a : Nat, y = ((i + a : Nat) : Int) ∧ (x :: l)[a]? = some (-2) := fun k h => by
      obtain ⟨a, rfl, h2⟩ := dropFrom_has l (i + 1) k y h
      exact ⟨a + 1, by congr 1; omega, by simpa using h2⟩
    split at h
    · rename_i hx
      match k, h with
      | 0, h => simp at h; exact ⟨0, h.symm, by simp [hx]⟩
      | k + 1, h => exact up k (by simpa using h)
    · exact up k h

set_option maxRecDepth 100000 in
set_option maxHeartbeats 3200000 in
theorem law_FnDroppedOf (v : Value) (w : World) (hv : RawB w v) : Calls Try.prog 9 #[v] w fun e w' => e = .returned (.bool true) ∧ Bw w w' := by
  have HV := Lib.hid hv
  obtain ⟨⟨bo, n, cc, rfl, hc, hm, _⟩⟩ := hv
  unfold maxLen at hm
  by_cases hn : 1048576 < n
  · go_enter Try.func9, Try.ntmps9
    go_wp2
    go_ret
    exact ⟨rfl, Bw.refl _⟩
  have hnd : decide (1048576 < (n : Int)) = false := decide_eq_false (by omega)
  go_enter Try.func9, Try.ntmps9
  go_wp2_with fail
  refine (DrawDroppedOf_any HV.out (Bw.refl _)).mono ?_
  clear hnd
  rintro e w1 ⟨r, a1, c1, a2, c2, a3, c3, rfl, o1, o2, o3, hrb, hb1⟩
  have HRR := Lib.hid (rr_mk2 (c1 := c1) (c2 := c2) (c3 := c3) o1.ri o2.ri o3.ri hrb)
  have HE := Lib.hid o1.ri
  have hel := hrb.n1
  clear o1 o2 o3 hrb
  have hbA := bw_alloc w1 (.cells #[.slice a1 r.ended.length c1, .slice a2 r.trace.length c2, .slice a3 r.switches.length c3, .bool r.high] 29)
  have HB := Lib.hid (heap_alloc_new w1 (.cells #[.slice a1 r.ended.length c1, .slice a2 r.trace.length c2, .slice a3 r.switches.length c3, .bool r.high] 29))
  go_wp2_with fail
  refine (dropped_impl (HRR.out.bw hbA)).mono ?_
  have hdl : (dropped r.ended).length ≤ r.ended.length := dropFrom_len r.ended 0
  have hhas : ∀ (k : Nat) (y : Int), (dropped r.ended)[k]? = some y → ∃ a : Nat, y = ((0 + a : Nat) : Int) ∧ r.ended[a]? = some (-2) := dropFrom_has r.ended 0
  obtain ⟨A, hA⟩ : ∃ A, dropped r.ended = A := ⟨_, rfl⟩
  rw [hA] at hdl hhas ⊢
  rintro e w2 ⟨aa, ca, rfl, hoa, hb2⟩
  have hbB := bw_trans hbA hb2
  have s0 := blk_cell (blk_bw hb2 HB.out) 0 rfl
  have s1 := blk_cell (blk_bw hb2 HB.out) 1 rfl
  have s2 := blk_cell (blk_bw hb2 HB.out) 2 rfl
  have s3 := blk_cell (blk_bw hb2 HB.out) 3 rfl
  have sl := blk_lt (blk_bw hb2 HB.out)
  go_wp2_with fail
  refine (dropped_spec (HRR.out.bw hbB)).mono ?_
  rw [hA]
  rintro e w3 ⟨ab, cb, rfl, hob, hb3⟩
  go_wp2_with fail
  refine (dmInts_any _ _ _ _ _ _ _ (hoa.bw hb3).ri hob.ri (by omega) (by omega)).mono ?_
  rw [decide_eq_true rfl]
  rintro e w4 ⟨rfl, hb4⟩
  have HAR := Lib.hid (hoa.bw (bw_trans hb3 hb4)).ri
  have h14 := bw_trans hbB (bw_trans hb3 hb4)
  have hw4 := bw_trans hb1 h14
  have HE4 := Lib.hid (HE.out.bw h14)
  have HB4 := Lib.hid (blk_bw (bw_trans hb2 (bw_trans hb3 hb4)) HB.out)
  have HHAS := Lib.hid hhas
  have HA := Lib.hid hA
  clear hoa hob s0 s1 s2 s3 sl hhas hA
  have s0 := blk_cell HB4.out 0 rfl
  have sl := blk_lt HB4.out
  go_wp2_with fail
  clear s0 sl
  go_loopw [5, 6] (fun q i wr => ∃ k q' : Nat, k ≤ r.ended.length ∧ i = .int .i64 k ∧ q = .int .i64 q' ∧ q' ≤ k ∧ Hid (q' + (dropFrom (r.ended.drop k) k).length = A.length) ∧ Bw w4 wr) (fun _ i _ => r.ended.length - (intOf i).toNat)
  case atStart => exact ⟨0, 0, Nat.zero_le _, rfl, rfl, Nat.le_refl _, by show _ = _; rw [← HA.out]; simp [dropped], Bw.refl _⟩
  case round =>
    obtain ⟨k, q', hk, rfl, rfl, hqk, hq, hbw⟩ := hrel
    have s0 := blk_cell (blk_bw hbw HB4.out) 0 rfl
    have sl := blk_lt (blk_bw hbw HB4.out)
    by_cases hlt : k < r.ended.length
    · obtain ⟨e, be, oe, he, heo, hbe, hec⟩ := HE4.out.get hbw hlt
      subst heo
      have hst : dropFrom (r.ended.drop k) k = if e = -2 then (k : Int) :: dropFrom (r.ended.drop (k + 1)) (k + 1) else dropFrom (r.ended.drop (k + 1)) (k + 1) := by rw [drop_cons he]; rfl
      by_cases hd : e = -2
      · subst hd
        have hst2 : q' + 1 + (dropFrom (r.ended.drop (k + 1)) (k + 1)).length = A.length := by have := hq.out; rw [hst] at this; simp at this; omega
        have d0 : ((-2 : Int) == -2) = true := by simp
        have HST2 := Lib.hid hst2
        clear hst2
        clear hst he
        go_wp2
        go_roundw
        case rel => exact ⟨k + 1, q' + 1, by omega, by go_num, by go_num, by omega, HST2.out, hbw⟩
        case measure => simp [intOf]; omega
      · have hst2 : q' + (dropFrom (r.ended.drop (k + 1)) (k + 1)).length = A.length := by have := hq.out; rw [hst, if_neg hd] at this; omega
        have d0 : (e == -2) = false := by simp [hd]
        have HST2 := Lib.hid hst2
        have HD := Lib.hid hd
        clear hst2 hd
        clear hst he
        go_wp2
        go_roundw
        case rel => exact ⟨k + 1, q', by omega, by go_num, rfl, by omega, HST2.out, hbw⟩
        case measure => simp [intOf]; omega
    · have hge : decide ((k : Int) < (r.ended.length : Int)) = false := decide_eq_false (by omega)
      have hkE : k = r.ended.length := by omega
      subst hkE
      have hqA : q' = A.length := by have := hq.out; simp [dropFrom] at this; omega
      subst hqA
      go_wp2
      clear s0 sl hge
      obtain ⟨w5, rfl⟩ : ∃ w5 : World, w5 = wr := ⟨_, rfl⟩
      have hw5 := bw_trans hw4 hbw
      have HE5 := Lib.hid (HE4.out.bw hbw)
      have HAR5 := Lib.hid (HAR.out.bw hbw)
      have HB5 := Lib.hid (blk_bw hbw HB4.out)
      go_loopw [7] (fun i wr => ∃ k : Nat, k ≤ A.length ∧ i = .int .i64 k ∧ Bw w5 wr) (fun i _ => A.length - (intOf i).toNat)
      case atStart => exact ⟨0, Nat.zero_le _, rfl, Bw.refl _⟩
      case round =>
        obtain ⟨k, hk, rfl, hbw2⟩ := hrel
        have s0 := blk_cell (blk_bw hbw2 HB5.out) 0 rfl
        have sl := blk_lt (blk_bw hbw2 HB5.out)
        by_cases hlt : k < A.length
        · obtain ⟨y, bd, od, hyk, hdo, hbd', hdc⟩ := HAR5.out.get hbw2 hlt
          obtain ⟨a, hya, hst⟩ := HHAS.out k y hyk
          rw [Nat.zero_add] at hya
          subst hya
          have hal := (List.getElem?_eq_some_iff.1 hst).1
          obtain ⟨be, oe, heo, hbe, hec⟩ := (HE5.out.bw hbw2) a _ hst
          subst hdo heo
          have HYK := Lib.hid hyk
          have HST := Lib.hid hst
          clear hyk hst
          go_wp2_with fail
          go_quiet (fail)
          go_wp2
          go_roundw
          case rel => exact ⟨k + 1, by omega, by go_num, bw_trans hbw2 (bw_drewN _ _)⟩
          case measure => simp [intOf]; omega
        · have hge : decide ((k : Int) < (A.length : Int)) = false := decide_eq_false (by omega)
          have hke : k = A.length := by omega
          go_wp2
          go_ret
          exact ⟨by simp, bw_trans hw5 hbw2⟩
end Go.Proofs.Ytchpfpekkgbehaa
