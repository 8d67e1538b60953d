/-
  The walk of the law FnLongestOf.
-/
import Derived.Test.YtchpfpekkgbehaaLongL
namespace Go.Proofs.Ytchpfpekkgbehaa
open Go.RowKit

theorem sj_i64 {j : Jb} (h : Sj j) : I64 j.task ∧ I64 j.at_ ∧ I64 j.need := by
  obtain ⟨h1, h2, h3⟩ := h
  unfold I64
  omega
/-- What the law says of a longest response that is not 0. -/
theorem long_facts {l : List Tk} {js : List Jb} {R : Rn} {t : Int} (hlk : Like l js R) (hm : longest js R.ended t ≠ 0) :
    js.length = R.ended.length ∧ (∀ (k : Nat) (j : Jb) (e : Int), js[k]? = some j → R.ended[k]? = some e → j.task = t → 0 ≤ e → e - j.at_ ≤ longest js R.ended t) ∧ ∃ (k : Nat) (j : Jb) (e : Int), js[k]? = some j ∧ R.ended[k]? = some e ∧ j.task = t ∧ 0 ≤ e ∧ e - j.at_ = longest js R.ended t := by
  by_cases hl : js.length = R.ended.length
  · have hq : longest js R.ended t = longFrom t js R.ended 0 := by rw [longest, if_pos hl]
    rw [hq] at hm ⊢
    have hex := (long_is t js R.ended 0).resolve_left hm
    obtain ⟨k0, j0, e0, g1, g2, g3, g4, g5, g6⟩ := hex
    refine ⟨hl, fun k j e h1 h2 h3 h4 => ?_, k0, j0, e0, g1, g2, g3, g5, g6⟩
    refine long_all t js R.ended 0 k j e h1 h2 h3 ?_ h4
    rcases like_cases hlk hl.symm with ⟨P, N, x, hx, _⟩ | rfl | ⟨h1l, _⟩
    · obtain ⟨q, y, z, T, hj, _, _, hy, _⟩ := job_task (runJ_ok hx).1 (List.getElem?_eq_some_iff.1 h1).1
      rw [h1] at hj
      simp at hj
      rw [hj]; exact hy
    · simp at h1
    · have i1 := (List.getElem?_eq_some_iff.1 h1).1
      have i2 := (List.getElem?_eq_some_iff.1 g1).1
      obtain rfl : k = k0 := by omega
      rw [h1] at g1; simp at g1
      rw [g1]; exact g4
  · rw [longest, if_neg hl] at hm; exact absurd rfl hm

set_option maxRecDepth 100000 in
set_option maxHeartbeats 3200000 in
theorem law_FnLongestOf (v : Value) (w : World) (hv : RawB w v) : Calls Try.prog 8 #[v] w fun e w' => e = .returned (.bool true) ∧ Bw w w' := by
  have HV := Lib.hid hv
  obtain ⟨⟨bo, n, cc, rfl, hc, hm, _⟩⟩ := hv
  unfold maxLen at hm
  by_cases hn : 1048576 < n
  · go_enter Try.func8, Try.ntmps8
    go_wp2
    go_ret
    exact ⟨rfl, Bw.refl _⟩
  have hnd : decide (1048576 < (n : Int)) = false := decide_eq_false (by omega)
  go_enter Try.func8, Try.ntmps8
  go_wp2_with fail
  refine (DrawLongestOf_any HV.out (Bw.refl _)).mono ?_
  clear hnd
  rintro e w1 ⟨bj, d, js, r, a1, c1, a2, c2, a3, c3, t, rfl, ⟨hjow, hj61, hsj, hb1⟩, o1, o2, o3, hrb, ht0, ht1, l, hlk⟩
  have hj : js.length ≤ 1048576 := by omega
  have HJ := Lib.hid (sj_row hjow hj)
  have HK := Lib.hid (Own.ofRow hjow).rj
  have HRR := Lib.hid (rr_mk2 (c1 := c1) (c2 := c2) (c3 := c3) o1.ri o2.ri o3.ri hrb)
  have HE := Lib.hid o1.ri
  have hel := hrb.n1
  have heb := hrb.e
  have HG : Hid (JR js) := ⟨fun x hx => sj_i64 (hsj x hx)⟩
  clear o1 o2 o3 hrb hjow
  have hbA := bw_alloc w1 (.cells #[.slice a1 r.ended.length c1, .slice a2 r.trace.length c2, .slice a3 r.switches.length c3, .bool r.high] 29)
  have HB := Lib.hid (heap_alloc_new w1 (.cells #[.slice a1 r.ended.length c1, .slice a2 r.trace.length c2, .slice a3 r.switches.length c3, .bool r.high] 29))
  have HSJ := Lib.hid hsj
  have HEB := Lib.hid heb
  clear hsj heb
  go_wp2_with fail
  refine (longest_impl (HJ.out.bw hbA) (HRR.out.bw hbA) HG.out t).mono ?_
  have hfx := long_facts (t := t) hlk
  obtain ⟨M, hM⟩ : ∃ M, longest js r.ended t = M := ⟨_, rfl⟩
  rw [hM] at hfx ⊢
  rintro e w2 ⟨rfl, hb2⟩
  have hbB := bw_trans hbA hb2
  have HM := Lib.hid hM
  have HFX := Lib.hid hfx
  clear hM hfx
  have s0 := blk_cell (blk_bw hb2 HB.out) 0 rfl
  have s1 := blk_cell (blk_bw hb2 HB.out) 1 rfl
  have s2 := blk_cell (blk_bw hb2 HB.out) 2 rfl
  have s3 := blk_cell (blk_bw hb2 HB.out) 3 rfl
  have sl := blk_lt (blk_bw hb2 HB.out)
  by_cases hm0 : M = 0
  · subst hm0
    go_wp2_with fail
    refine (longest_spec (HJ.out.bw hbB) (HRR.out.bw hbB) HG.out t).mono ?_
    rw [HM.out]
    rintro e w3 ⟨rfl, hb3⟩
    clear s0 s1 s2 s3 sl
    have hbC := bw_trans hbB hb3
    have s0 := blk_cell (blk_bw (bw_trans hb2 hb3) HB.out) 0 rfl
    have s1 := blk_cell (blk_bw (bw_trans hb2 hb3) HB.out) 1 rfl
    have s2 := blk_cell (blk_bw (bw_trans hb2 hb3) HB.out) 2 rfl
    have s3 := blk_cell (blk_bw (bw_trans hb2 hb3) HB.out) 3 rfl
    have sl := blk_lt (blk_bw (bw_trans hb2 hb3) HB.out)
    go_wp2_with fail
    refine (longest_spec (HJ.out.bw hbC) (HRR.out.bw hbC) HG.out t).mono ?_
    rw [HM.out]
    rintro e w4 ⟨rfl, hb4⟩
    go_wp2
    go_ret
    exact ⟨rfl, bw_trans hb1 (bw_trans hbC hb4)⟩
  have hm1 : (M == 0) = false := by simp [hm0]
  have hm2 : (M != M) = false := by simp
  go_wp2_with fail
  refine (longest_spec (HJ.out.bw hbB) (HRR.out.bw hbB) HG.out t).mono ?_
  rw [HM.out]
  rintro e w4 ⟨rfl, hb4⟩
  clear s0 s1 s2 s3 sl
  obtain ⟨hlen, hall, kx, jx, ex, hxj, hxe, hxt, hx0, hxm⟩ := HFX.out hm0
  have h14 := bw_trans hbB hb4
  have hw4 := bw_trans hb1 h14
  have HE4 := Lib.hid (HE.out.bw h14)
  have HK4 := Lib.hid (HK.out.bw h14)
  have HB4 := Lib.hid (blk_bw (bw_trans hb2 hb4) HB.out)
  have HALL := Lib.hid hall
  have HXJ := Lib.hid hxj
  have HXE := Lib.hid hxe
  have HXT := Lib.hid hxt
  have HXM := Lib.hid hxm
  clear hall hxj hxe hxt hxm
  go_wp2_with fail
  clear hm1 hm2
  go_loopw [7, 8] (fun u i wr => ∃ (k : Nat) (b : Bool), k ≤ js.length ∧ i = .int .i64 k ∧ u = .bool b ∧ Hid (b = true ∨ k ≤ kx) ∧ Bw w4 wr) (fun _ i _ => js.length - (intOf i).toNat)
  case atStart => exact ⟨0, _, Nat.zero_le _, rfl, rfl, .inr (Nat.zero_le _), Bw.refl _⟩
  case round =>
    obtain ⟨k, b, hk, rfl, rfl, hP, hbw⟩ := hrel
    have s0 := blk_cell (blk_bw hbw HB4.out) 0 rfl
    have sl := blk_lt (blk_bw hbw HB4.out)
    by_cases hlt : k < js.length
    · have hlt2 : k < r.ended.length := by omega
      obtain ⟨⟨x, y, z⟩, bj', oj, hjk, hbo, hbsj, c0, c1', c2'⟩ := HK4.out.get hbw hlt
      obtain ⟨e, be, oe, he, heo, hbe, hec⟩ := HE4.out.get hbw hlt2
      subst hbo heo
      dsimp only at c0 c1' c2'
      have hsm := HSJ.out _ (List.mem_of_getElem? hjk)
      obtain ⟨_, ⟨hy0, hy1⟩, _⟩ := hsm
      dsimp only at hy0 hy1
      have heb := HEB.out e (List.mem_of_getElem? he)
      have hwr : IntKind.i64.wrap (e - y) = e - y := IntWalk.i64_in _ (by omega)
      have hne : k = kx → x = t ∧ 0 ≤ e ∧ e - y = M := fun h => by
        subst h
        have h1 := HXJ.out
        have h2 := HXE.out
        rw [hjk] at h1
        rw [he] at h2
        simp at h1 h2
        have h3 := HXT.out
        have h4 := HXM.out
        rw [← h1] at h3 h4
        rw [← h2] at h4
        exact ⟨h3, by omega, h4⟩
      have hle := fun h1 h2 => HALL.out k _ e hjk he h1 h2
      dsimp only at hle
      have HJK := Lib.hid hjk
      have HE := Lib.hid he
      have HNE := Lib.hid hne
      have HLE := Lib.hid hle
      clear hjk he hne hle
      by_cases hxt : x = t
      · have d0 : (x != t) = false := by simp [hxt]
        by_cases he0 : 0 ≤ e
        · have d1 : decide (e < 0) = false := decide_eq_false (by omega)
          have hle1 := HLE.out hxt he0
          have d2 : decide (M < e - y) = false := decide_eq_false (by omega)
          cases b with
          | true =>
            have HXT := Lib.hid hxt
            clear hxt
            go_wp2_with fail
            go_quiet (fail)
            go_wp2_with fail
            go_quiet (fail)
            go_wp2
            go_roundw
            case rel => exact ⟨k + 1, true, by omega, by go_num, rfl, .inl rfl, bw_trans hbw (bw_drewN _ _)⟩
            case measure => simp [intOf]; omega
          | false =>
            have hP2 : (e - y == M) = true ∨ k + 1 ≤ kx := by
              rcases hP.out with h | h
              · simp at h
              · by_cases hkx : k = kx
                · have := (HNE.out hkx).2.2; left; simp [this]
                · right; omega
            obtain ⟨b2, hb2⟩ : ∃ b2, (e - y == M) = b2 := ⟨_, rfl⟩
            rw [hb2] at hP2
            have HXT := Lib.hid hxt
            have HP2 := Lib.hid hP2
            clear hxt hP2
            go_wp2_with fail
            go_quiet (fail)
            go_wp2_with fail
            go_quiet (fail)
            go_wp2
            go_roundw
            case rel => exact ⟨k + 1, b2, by omega, by go_num, rfl, HP2.out, bw_trans hbw (bw_drewN _ _)⟩
            case measure => simp [intOf]; omega
        · have d1 : decide (e < 0) = true := decide_eq_true (by omega)
          have hP3 : b = true ∨ k + 1 ≤ kx := by
            rcases hP.out with h | h
            · exact .inl h
            · refine .inr ?_
              by_cases hkx : k = kx
              · have := (HNE.out hkx).2.1; omega
              · omega
          have HXT := Lib.hid hxt
          have HP3 := Lib.hid hP3
          clear hxt hP3
          go_wp2
          go_roundw
          case rel => exact ⟨k + 1, b, by omega, by go_num, rfl, HP3.out, hbw⟩
          case measure => simp [intOf]; omega
      · have d0 : (x != t) = true := by simp [hxt]
        have hP3 : b = true ∨ k + 1 ≤ kx := by
          rcases hP.out with h | h
          · exact .inl h
          · refine .inr ?_
            by_cases hkx : k = kx
            · exact absurd (HNE.out hkx).1 hxt
            · omega
        have HXT := Lib.hid hxt
        have HP3 := Lib.hid hP3
        clear hxt hP3
        go_wp2
        go_roundw
        case rel => exact ⟨k + 1, b, by omega, by go_num, rfl, HP3.out, hbw⟩
        case measure => simp [intOf]; omega
    · have hge : decide ((k : Int) < (js.length : Int)) = false := decide_eq_false (by omega)
      have hbt : b = true := by
        rcases hP.out with h | h
        · exact h
        · have := (List.getElem?_eq_some_iff.1 HXJ.out).1; omega
      subst hbt
      go_wp2
      go_ret
      exact ⟨rfl, bw_trans hw4 hbw⟩
end Go.Proofs.Ytchpfpekkgbehaa
