/-
  The walk of the law FnFormatTrace.
-/
import Derived.Test.YtaadlgpglfpmpaaDoorGH
import Derived.Test.YtaadlgpglfpmpaaDoorFt
import Derived.Test.YtaadlgpglfpmpaaDoorDr9
import Derived.Test.YtaadlgpglfpmpaaDoorGJ
import Derived.BigQuiet




namespace Go.Proofs.YtaadlgpglfpmpaaDoor
open Go.RowKit

theorem str_idx {B : List UInt8} {i : Nat} {b : UInt8} (h : B[i]? = some b) (W : World) : (Instr.index 9 (.string ⟨B.toArray⟩) (.int .i64 (i : Int))).run Tryd.prog W = .ok (.int .u8 (b.toNat : Int)) W := by
  obtain ⟨hi, hb⟩ := List.getElem?_eq_some_iff.1 h
  have hs : (⟨B.toArray⟩ : ByteArray).size = B.length := by show B.toArray.size = _; simp
  rw [run_index_string _ _ _ _ _ Tryd.underlying9, dif_pos ⟨by omega, by omega⟩]
  have : ((⟨B.toArray⟩ : ByteArray)[((i : Int)).toNat]'(by omega)) = b := by
    show B.toArray[((i : Int)).toNat]'(by simp; omega) = b
    simpa using hb
  rw [this]
theorem ft_len {l : List Int} (h : ftB l ≠ []) : l.length ≤ 200 ∧ ftGood l ∧ ftB l = l.map ftByte := by
  by_cases hc : l.length ≤ 200 ∧ ftGood l
  · exact ⟨hc.1, hc.2, if_pos hc⟩
  · rw [ftB, if_neg hc] at h; exact absurd rfl h
theorem cnt_drop {l : List Int} {k : Nat} {x y : Int} (h : l[k]? = some x) : cntI y (l.drop k) = (if x = y then 1 else 0) + cntI y (l.drop (k + 1)) := by
  rw [drop_cons h]; rfl
set_option maxRecDepth 100000 in
set_option maxHeartbeats 3200000 in
theorem law_FnFormatTrace (v : Value) (w : World) (hv : RawB w v) : Calls Tryd.prog 4 #[v] w fun e w' => e = .returned (.bool true) ∧ Bw w w' := by
  have HV := Lib.hid hv
  obtain ⟨⟨bo, n, cc, rfl, hc, hm, _⟩⟩ := hv
  unfold maxLen at hm
  by_cases hn : 1048576 < n
  · go_enter Tryd.func4, Tryd.ntmps4
    go_wp2
    go_ret
    exact ⟨rfl, Bw.refl _⟩
  have hnd : decide (1048576 < (n : Int)) = false := decide_eq_false (by omega)
  go_enter Tryd.func4, Tryd.ntmps4
  go_wp2_with fail
  refine (DrawFormatTrace_any HV.out (Bw.refl _)).mono ?_
  clear hnd
  rintro e w1 ⟨r, a1, c1, a2, c2, a3, c3, rfl, o1, o2, o3, hrb, hb1⟩
  have HRR := Lib.hid (rr_mk2 (c1 := c1) (c2 := c2) (c3 := c3) o1.ri o2.ri o3.ri hrb)
  have HTR := Lib.hid o2.ri
  clear o1 o2 o3 hrb
  have hbA := bw_alloc w1 (.cells #[.slice a1 r.ended.length c1, .slice a2 r.trace.length c2, .slice a3 r.switches.length c3, .bool r.high] 25)
  have HB := Lib.hid (heap_alloc_new w1 (.cells #[.slice a1 r.ended.length c1, .slice a2 r.trace.length c2, .slice a3 r.switches.length c3, .bool r.high] 25))
  go_wp2_with fail
  refine (ft_impl (HRR.out.bw hbA)).mono ?_
  have hgd := ft_len (l := r.trace)
  obtain ⟨B, hB⟩ : ∃ B, ftB r.trace = B := ⟨_, rfl⟩
  rw [hB] at hgd ⊢
  have HB_ := Lib.hid hB
  have HGD := Lib.hid hgd
  clear hgd hB
  rintro e w2 ⟨rfl, hb2⟩
  have hbB := bw_trans hbA hb2
  have s0 := blk_cell (blk_bw hb2 HB.out) 0 rfl
  have s1 := blk_cell (blk_bw hb2 HB.out) 1 rfl
  have s2 := blk_cell (blk_bw hb2 HB.out) 2 rfl
  have s3 := blk_cell (blk_bw hb2 HB.out) 3 rfl
  have sl := blk_lt (blk_bw hb2 HB.out)
  go_wp2_with fail
  refine (ft_spec (HRR.out.bw hbB)).mono ?_
  rw [HB_.out]
  rintro e w3 ⟨rfl, hb3⟩
  have h13 := bw_trans hbB hb3
  have hw3 := bw_trans hb1 h13
  have HB3 := Lib.hid (blk_bw (bw_trans hb2 hb3) HB.out)
  clear s0 s1 s2 s3 sl
  have s0 := blk_cell HB3.out 0 rfl
  have s1 := blk_cell HB3.out 1 rfl
  have s2 := blk_cell HB3.out 2 rfl
  have s3 := blk_cell HB3.out 3 rfl
  have sl := blk_lt HB3.out
  cases B with
  | nil =>
    go_wp2_with fail
    refine (ft_spec (HRR.out.bw h13)).mono ?_
    rw [HB_.out]
    rintro e w4 ⟨rfl, hb4⟩
    go_wp2
    go_ret
    exact ⟨rfl, bw_trans hw3 hb4⟩
  | cons b0 B0 =>
    obtain ⟨B, hBe⟩ : ∃ B, b0 :: B0 = B := ⟨_, rfl⟩
    have hne : B.isEmpty = false := by rw [← hBe]; rfl
    have hgo := HGD.out (by simp)
    rw [hBe] at hgo
    have HB_ := Lib.hid (show ftB r.trace = B from HB_.out.trans hBe)
    obtain ⟨hg1, hg2, hg3⟩ := hgo
    have hbl : B.length = r.trace.length := by rw [hg3]; simp
    have hs0 : (⟨B.toArray⟩ : ByteArray).size = r.trace.length := by show B.toArray.size = _; simp [hbl]
    have hs1 : B.toArray.size = r.trace.length := by simp [hbl]
    have hnb : B ≠ [] := by rw [← hBe]; simp
    obtain ⟨I, hI⟩ : ∃ I, cntI (-1) r.trace = I := ⟨_, rfl⟩
    have hce : cnt r.trace (-1) = I := by rw [show cnt r.trace (-1) = cntFrom r.trace (-1) 0 from rfl, cnt_eq, Nat.zero_add, hI]
    rw [hBe]
    have HG2 := Lib.hid hg2
    have HG3 := Lib.hid hg3
    have HBL := Lib.hid hbl
    have HCE := Lib.hid hce
    have HI := Lib.hid hI
    clear hg2 hg3 hbl hce hI
    clear hBe
    go_wp2
    clear s0 s1 s2 s3 sl
    go_loopw [5, 6] (fun q i wr => ∃ k q' : Nat, k ≤ r.trace.length ∧ i = .int .i64 k ∧ q = .int .i64 q' ∧ q' ≤ k ∧ Hid (q' + cntI (-1) (r.trace.drop k) = I) ∧ Bw w3 wr) (fun _ i _ => r.trace.length - (intOf i).toNat)
    case atStart => exact ⟨0, 0, Nat.zero_le _, rfl, rfl, Nat.le_refl _, by show _ = _; rw [← HI.out]; simp, Bw.refl _⟩
    case round =>
      obtain ⟨k, q', hk, rfl, rfl, hqk, hq, hbw⟩ := hrel
      have s0 := blk_cell (blk_bw hbw HB3.out) 0 rfl
      have s1 := blk_cell (blk_bw hbw HB3.out) 1 rfl
      have s2 := blk_cell (blk_bw hbw HB3.out) 2 rfl
      have s3 := blk_cell (blk_bw hbw HB3.out) 3 rfl
      have sl := blk_lt (blk_bw hbw HB3.out)
      by_cases hlt : k < r.trace.length
      · obtain ⟨t, be, oe, htk, heo, hbe, hec⟩ := (HTR.out.bw h13).get hbw hlt
        subst heo
        have hgt := HG2.out t (List.mem_of_getElem? htk)
        have hbk : B[k]? = some (ftByte t) := by rw [HG3.out]; simp [htk]
        have hix := str_idx hbk
        have hcd := cnt_drop (y := -1) htk
        by_cases ht1 : t = -1
        · subst ht1
          have hb46 : ((ftByte (-1)).toNat : Int) = 46 := by decide
          rw [hb46] at hix
          have hst : q' + 1 + cntI (-1) (r.trace.drop (k + 1)) = I := by have := hq.out; rw [hcd] at this; simp at this; omega
          have HST := Lib.hid hst
          have HBK := Lib.hid hbk
          have HCD := Lib.hid hcd
          have HTK := Lib.hid htk
          clear hst hbk hcd htk
          go_wp2
          go_roundw
          case rel => exact ⟨k + 1, q' + 1, by omega, by go_num, by go_num, by omega, HST.out, hbw⟩
          case measure => simp [intOf]; omega
        · obtain ⟨i, rfl⟩ := Int.eq_ofNat_of_zero_le (show 0 ≤ t by omega)
          have hi4 : i ≤ 4 := by omega
          have hby := ft_byte hi4
          rw [hby] at hix
          have d0 : ((48 + (i : Int)) == 46) = false := by simp; omega
          have hwa : IntKind.u8.wrap (48 + (i : Int) - 48) = (i : Int) := by rw [IntWalk.u8_in _ (by omega)]; omega
          have hwb : IntKind.u8.wrap (i : Int) = (i : Int) := IntWalk.u8_in _ (by omega)
          have hwc : IntKind.i64.wrap (i : Int) = (i : Int) := IntWalk.i64_in _ (by omega)
          have hst : q' + cntI (-1) (r.trace.drop (k + 1)) = I := by have := hq.out; rw [hcd, if_neg ht1] at this; omega
          have HST := Lib.hid hst
          have HBK := Lib.hid hbk
          have HCD := Lib.hid hcd
          have HTK := Lib.hid htk
          have HBY := Lib.hid hby
          clear hst hbk hcd htk hby
          go_wp2_with fail
          go_quiet (fail)
          go_wp2
          go_roundw
          case rel => exact ⟨k + 1, q', by omega, by go_num, rfl, by omega, HST.out, bw_trans hbw (bw_drewN _ _)⟩
          case measure => simp [intOf]; omega
      · have hge : decide ((k : Int) < (r.trace.length : Int)) = false := decide_eq_false (by omega)
        have hkE : k = r.trace.length := by omega
        have hqI : q' = I := by have := hq.out; rw [hkE] at this; simp [cntI] at this; omega
        subst hqI
        go_wp2_with fail
        refine (idle_impl (HRR.out.bw (bw_trans h13 hbw))).mono ?_
        rw [HCE.out]
        rintro e w5 ⟨rfl, hb5⟩
        go_wp2
        go_ret
        exact ⟨by simp, bw_trans hw3 (bw_trans hbw hb5)⟩
end Go.Proofs.YtaadlgpglfpmpaaDoor
