/-
  The walk of the law FnMissesOf.
-/
import Derived.Test.YtchpfpekkgbehaaLongL
import Derived.Test.YtchpfpekkgbehaaDm
import Derived.BigQuiet


namespace Go.Proofs.Ytchpfpekkgbehaa
open Go.RowKit

theorem pick_ge (p : Nat → Bool) : ∀ (m i k : Nat) (y : Int), (pickFrom p m i)[k]? = some y → ∃ a : Nat, y = a ∧ i ≤ a ∧ a < i + m ∧ p a = true
  | 0, _, _, _, h => by simp [pickFrom] at h
  | m + 1, i, k, y, h => by
    simp only [pickFrom] at h
    split at h
    · rename_i hp
      match k, h with
      | 0, h => simp at h; exact ⟨i, h.symm, Nat.le_refl _, by omega, hp⟩
      | k + 1, h =>
        obtain ⟨a, h1, h2, h3, h4⟩ := pick_ge p m (i + 1) k y (by simpa using h)
        exact ⟨a, h1, by omega, by omega, h4⟩
    · obtain ⟨a, h1, h2, h3, h4⟩ := pick_ge p m (i + 1) k y h
      exact ⟨a, h1, by omega, by omega, h4⟩
theorem pick_inc (p : Nat → Bool) : ∀ (m i k : Nat) (y z : Int), (pickFrom p m i)[k]? = some y → (pickFrom p m i)[k + 1]? = some z → y < z
  | 0, _, _, _, _, h, _ => by simp [pickFrom] at h
  | m + 1, i, k, y, z, h, g => by
    simp only [pickFrom] at h g
    split at h
    · rename_i hp
      rw [if_pos hp] at g
      match k, h, g with
      | 0, h, g =>
        simp at h
        obtain ⟨a, h1, h2, _, _⟩ := pick_ge p m (i + 1) 0 z (by simpa using g)
        omega
      | k + 1, h, g => exact pick_inc p m (i + 1) k y z (by simpa using h) (by simpa using g)
    · rename_i hp
      rw [if_neg hp] at g
      exact pick_inc p m (i + 1) k y z h g
/-- What the law says of a job that is told as late. -/
theorem misses_has {l : List Tk} {js : List Jb} {es : List Int} {n k : Nat} {y : Int} (h : (misses l js es n)[k]? = some y) : ∃ (a : Nat) (j : Jb) (e : Int), y = a ∧ a < js.length ∧ js[a]? = some j ∧ es[a]? = some e ∧ jobIn l j = true ∧ e ≠ -2 ∧ (0 ≤ e → dueV l j < e) := by
  unfold misses at h
  split at h
  · rename_i hc
    obtain ⟨a, h1, _, h3, h4⟩ := pick_ge _ _ _ _ _ h
    rw [Nat.zero_add] at h3
    obtain ⟨q, y', z, T, hj, hT, hTo, hy, _, hz1, hzh, _⟩ := job_task hc.1 h3
    have hji := jobs_in hc.1 hj
    obtain ⟨e, he⟩ := getSome (show a < es.length by omega)
    unfold missP at h4
    rw [hj, he] at h4
    dsimp only at h4
    have hd : dueV l ⟨(q : Int), y', z⟩ = y' + T.due := due_val hji (by simpa using hT)
    have hkT := (Tk.ok_iff _).1 hTo
    refine ⟨a, _, e, h1, h3, hj, he, hji, ?_, fun h0 => ?_⟩
    · simp at h4; rw [hd] at h4; omega
    · simp at h4; omega
  · simp at h
theorem misses_inc {l : List Tk} {js : List Jb} {es : List Int} {n k : Nat} {y z : Int} (h : (misses l js es n)[k]? = some y) (g : (misses l js es n)[k + 1]? = some z) : y < z := by
  unfold misses at h g
  split at h
  · rename_i hc
    rw [if_pos hc] at g
    exact pick_inc _ _ _ _ _ _ h g
  · simp at h

set_option maxRecDepth 100000 in
set_option maxHeartbeats 3200000 in
theorem law_FnMissesOf (v : Value) (w : World) (hv : RawB w v) : Calls Try.prog 10 #[v] w fun e w' => e = .returned (.bool true) ∧ Bw w w' := by
  have HV := Lib.hid hv
  obtain ⟨⟨bo, n, cc, rfl, hc, hm, _⟩⟩ := hv
  unfold maxLen at hm
  by_cases hn : 1048576 < n
  · go_enter Try.func10, Try.ntmps10
    go_wp2
    go_ret
    exact ⟨rfl, Bw.refl _⟩
  have hnd : decide (1048576 < (n : Int)) = false := decide_eq_false (by omega)
  go_enter Try.func10, Try.ntmps10
  go_wp2_with fail
  refine (DrawMissesOf_any HV.out (Bw.refl _)).mono ?_
  clear hnd
  rintro e w1 ⟨ao, c, l, bj, d, js, r, a1, c1, a2, c2, a3, c3, rfl, ⟨hown, hl6, _, hjow, hj61, hsj, hb1⟩, o1, o2, o3, hrb, _⟩
  have hj : js.length ≤ 1048576 := by omega
  have hl : l.length ≤ 1048576 := by omega
  have HS := Lib.hid (st_row hown (by omega))
  have HT := Lib.hid (Own.ofRow hown).rt
  have HJ := Lib.hid (sj_row hjow hj)
  have HK := Lib.hid (Own.ofRow hjow).rj
  have HRR := Lib.hid (rr_mk2 (c1 := c1) (c2 := c2) (c3 := c3) o1.ri o2.ri o3.ri hrb)
  have HE := Lib.hid o1.ri
  have hel := hrb.n1
  have htl := hrb.n2
  clear o1 o2 o3 hrb hjow hown
  have hbA := bw_alloc w1 (.cells #[.slice a1 r.ended.length c1, .slice a2 r.trace.length c2, .slice a3 r.switches.length c3, .bool r.high] 29)
  have HB := Lib.hid (heap_alloc_new w1 (.cells #[.slice a1 r.ended.length c1, .slice a2 r.trace.length c2, .slice a3 r.switches.length c3, .bool r.high] 29))
  have HSJ := Lib.hid hsj
  clear hsj
  go_wp2_with fail
  refine (misses_impl (HS.out.bw hbA) (HJ.out.bw hbA) (HRR.out.bw hbA)).mono ?_
  have hAl := misses_len l js r.ended r.trace.length
  have hhas := fun (k : Nat) (y : Int) h => misses_has (l := l) (js := js) (es := r.ended) (n := r.trace.length) (k := k) (y := y) h
  have hinc := fun (k : Nat) (y z : Int) h g => misses_inc (l := l) (js := js) (es := r.ended) (n := r.trace.length) (k := k) (y := y) (z := z) h g
  obtain ⟨A, hA⟩ : ∃ A, misses l js r.ended r.trace.length = A := ⟨_, rfl⟩
  rw [hA] at hAl hhas hinc ⊢
  have HA := Lib.hid hA
  have HHAS := Lib.hid hhas
  have HINC := Lib.hid hinc
  clear hA hhas hinc
  rintro e w2 ⟨aa, ca, rfl, hoa, hb2⟩
  have hbB := bw_trans hbA hb2
  have s0 := blk_cell (blk_bw hb2 HB.out) 0 rfl
  have s1 := blk_cell (blk_bw hb2 HB.out) 1 rfl
  have s2 := blk_cell (blk_bw hb2 HB.out) 2 rfl
  have s3 := blk_cell (blk_bw hb2 HB.out) 3 rfl
  have sl := blk_lt (blk_bw hb2 HB.out)
  have HOA := Lib.hid hoa
  clear hoa
  go_wp2_with fail
  refine (misses_spec (HS.out.bw hbB) (HJ.out.bw hbB) (HRR.out.bw hbB)).mono ?_
  rw [HA.out]
  rintro e w3 ⟨ab, cb, rfl, hob, hb3⟩
  go_wp2_with fail
  refine (dmInts_any _ _ _ _ _ _ _ (HOA.out.bw hb3).ri hob.ri (by omega) (by omega)).mono ?_
  rw [decide_eq_true rfl]
  rintro e w4 ⟨rfl, hb4⟩
  have h14 := bw_trans hbB (bw_trans hb3 hb4)
  have hw4 := bw_trans hb1 h14
  have HAR := Lib.hid (HOA.out.bw (bw_trans hb3 hb4)).ri
  have HB4 := Lib.hid (blk_bw (bw_trans hb2 (bw_trans hb3 hb4)) HB.out)
  have HE4 := Lib.hid (HE.out.bw h14)
  have HK4 := Lib.hid (HK.out.bw h14)
  have HT4 := Lib.hid (HT.out.bw h14)
  clear hob s0 s1 s2 s3 sl
  go_wp2_with fail
  go_loopw [7] (fun i wr => ∃ k : Nat, k ≤ A.length ∧ i = .int .i64 k ∧ Bw w4 wr) (fun i _ => A.length - (intOf i).toNat)
  case atStart => exact ⟨0, Nat.zero_le _, rfl, Bw.refl _⟩
  case round =>
    obtain ⟨k, hk, rfl, hbw⟩ := hrel
    by_cases hlt : k < A.length
    · obtain ⟨y, bd, od, hyk, hdo, hbd', hdc⟩ := HAR.out.get hbw hlt
      obtain ⟨a, ⟨x, y', z⟩, e, rfl, hal, hja, hea, hji, he2, hdue⟩ := HHAS.out k y hyk
      obtain ⟨bj', oj, hbo, hbsj, c0, c1', c2'⟩ := (HK4.out.bw hbw) a _ hja
      have hie := (List.getElem?_eq_some_iff.1 hea).1
      subst hbo hdo
      dsimp only at c0 c1' c2'
      have hinc : 0 < k → ∃ p : Int, A[k - 1]? = some p ∧ p < (a : Int) := fun hk0 => by
        obtain ⟨p, hp⟩ := getSome (show k - 1 < A.length by omega)
        exact ⟨p, hp, HINC.out (k - 1) p a hp (by rw [show k - 1 + 1 = k by omega]; exact hyk)⟩
      have HINC := Lib.hid hinc
      have HJA := Lib.hid hja
      have HEA := Lib.hid hea
      have HYK := Lib.hid hyk
      clear hinc hja hea hyk
      go_wp2_with fail
      refine (DueAt_impl _ _ _ l x y' z hl (HT4.out.bw hbw)).mono ?_
      obtain ⟨D, hD⟩ : ∃ D, dueV l ⟨x, y', z⟩ = D := ⟨_, rfl⟩
      rw [hji]
      rw [hD] at hdue ⊢
      have HJI := Lib.hid hji
      have HD := Lib.hid hD
      clear hji hD
      rintro e5 w5 ⟨rfl, hb5⟩
      have hbw5 := bw_trans hbw hb5
      obtain ⟨bd2, od2, hdo2, hbd2, hdc2⟩ := (HAR.out.bw hbw5) k _ HYK.out
      simp only [Option.some.injEq, Addr.mk.injEq, and_true] at hdo2
      obtain ⟨rfl, rfl⟩ := hdo2
      obtain ⟨be, oe, heo, hbe, hec⟩ := (HE4.out.bw hbw5) a _ HEA.out
      subst heo
      clear c0 c1' c2' hdc hbd' hbsj
      have s0 := blk_cell (blk_bw hbw5 HB4.out) 0 rfl
      have sl := blk_lt (blk_bw hbw5 HB4.out)
      have d0 : (e == -2) = false := by simp [he2]
      by_cases he0 : 0 ≤ e
      · have d1 : decide (0 ≤ e) = true := decide_eq_true he0
        have d2 : decide (e ≤ D) = false := decide_eq_false (by have := hdue he0; omega)
        by_cases hk0 : 0 < k
        · obtain ⟨p, hp, hpl⟩ := HINC.out hk0
          obtain ⟨bp, op, hpo, hbp, hpc⟩ := (HAR.out.bw hbw5) (k - 1) _ hp
          simp only [Option.some.injEq, Addr.mk.injEq, and_true] at hpo
          obtain ⟨rfl, rfl⟩ := hpo
          have d3 : decide (0 < (k : Int)) = true := decide_eq_true (by omega)
          have d4 : decide ((a : Int) ≤ p) = false := decide_eq_false (by omega)
          have hwk : IntKind.i64.wrap ((k : Int) - 1) = ((k - 1 : Nat) : Int) := by rw [IntWalk.i64_in _ (by omega)]; omega
          have HDUE := Lib.hid hdue
          have HP := Lib.hid hp
          have HPL := Lib.hid hpl
          have HE2 := Lib.hid he2
          have HE0 := Lib.hid he0
          clear hdue hp hpl he2 he0
          go_wp2_with fail
          go_quiet (fail)
          go_wp2_with fail
          go_quiet (fail)
          go_wp2
          go_roundw
          case rel => exact ⟨k + 1, by omega, by go_num, bw_trans (bw_trans hbw hb5) (bw_drewN _ _)⟩
          case measure => simp [intOf]; omega
        · have d3 : decide (0 < (k : Int)) = false := decide_eq_false (by omega)
          have HDUE := Lib.hid hdue
          have HE2 := Lib.hid he2
          have HE0 := Lib.hid he0
          clear hdue he2 he0
          go_wp2_with fail
          go_quiet (fail)
          go_wp2_with fail
          go_quiet (fail)
          go_wp2
          go_roundw
          case rel => exact ⟨k + 1, by omega, by go_num, bw_trans (bw_trans hbw hb5) (bw_drewN _ _)⟩
          case measure => simp [intOf]; omega
      · have d1 : decide (0 ≤ e) = false := decide_eq_false he0
        by_cases hk0 : 0 < k
        · obtain ⟨p, hp, hpl⟩ := HINC.out hk0
          obtain ⟨bp, op, hpo, hbp, hpc⟩ := (HAR.out.bw hbw5) (k - 1) _ hp
          simp only [Option.some.injEq, Addr.mk.injEq, and_true] at hpo
          obtain ⟨rfl, rfl⟩ := hpo
          have d3 : decide (0 < (k : Int)) = true := decide_eq_true (by omega)
          have d4 : decide ((a : Int) ≤ p) = false := decide_eq_false (by omega)
          have hwk : IntKind.i64.wrap ((k : Int) - 1) = ((k - 1 : Nat) : Int) := by rw [IntWalk.i64_in _ (by omega)]; omega
          have HDUE := Lib.hid hdue
          have HP := Lib.hid hp
          have HPL := Lib.hid hpl
          have HE2 := Lib.hid he2
          have HE0 := Lib.hid he0
          clear hdue hp hpl he2 he0
          go_wp2_with fail
          go_quiet (fail)
          go_wp2_with fail
          go_quiet (fail)
          go_wp2
          go_roundw
          case rel => exact ⟨k + 1, by omega, by go_num, bw_trans (bw_trans hbw hb5) (bw_drewN _ _)⟩
          case measure => simp [intOf]; omega
        · have d3 : decide (0 < (k : Int)) = false := decide_eq_false (by omega)
          have HDUE := Lib.hid hdue
          have HE2 := Lib.hid he2
          have HE0 := Lib.hid he0
          clear hdue he2 he0
          go_wp2_with fail
          go_quiet (fail)
          go_wp2_with fail
          go_quiet (fail)
          go_wp2
          go_roundw
          case rel => exact ⟨k + 1, by omega, by go_num, bw_trans (bw_trans hbw hb5) (bw_drewN _ _)⟩
          case measure => simp [intOf]; omega
    · have hge : decide ((k : Int) < (A.length : Int)) = false := decide_eq_false (by omega)
      have hle : decide ((A.length : Int) ≤ (js.length : Int)) = true := decide_eq_true (by omega)
      go_wp2
      go_ret
      exact ⟨rfl, bw_trans hw4 hbw⟩
end Go.Proofs.Ytchpfpekkgbehaa
