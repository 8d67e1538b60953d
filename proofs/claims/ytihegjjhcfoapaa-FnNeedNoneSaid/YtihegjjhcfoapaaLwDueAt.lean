/-
  The walks of the laws FnDueAt and FnNeedNone.
-/
import Derived.Test.YtihegjjhcfoapaaDrB
import Derived.Test.YtihegjjhcfoapaaDm
import Derived.Test.YtihegjjhcfoapaaNeed
import Derived.Test.YtihegjjhcfoapaaLwJobsOrder
import Derived.BigRegion
namespace Go.Proofs.Ytihegjjhcfoapaa
open Go.RowKit

set_option maxRecDepth 100000 in
set_option maxHeartbeats 3200000 in
theorem law_FnDueAt (v : Value) (w : World) (hv : RawB w v) : Calls Try.prog 7 #[v] w fun e w' => e = .returned (.bool true) ∧ Bw w w' := by
  have HV := Lib.hid hv
  obtain ⟨⟨bo, n, cc, rfl, hc, hm, _⟩⟩ := hv
  unfold maxLen at hm
  by_cases hn : 1048576 < n
  · go_enter Try.func7, Try.ntmps7
    go_wp2
    go_ret
    exact ⟨rfl, Bw.refl _⟩
  have hnd : decide (1048576 < (n : Int)) = false := decide_eq_false (by omega)
  go_enter Try.func7, Try.ntmps7
  go_wp2_with fail
  refine (DrawDueAt_any HV.out (Bw.refl _)).mono ?_
  clear hnd
  rintro e w1 ⟨ao, c, l, ⟨x, y, z⟩, rfl, ⟨hown, hl6, _, hb1⟩, hsx⟩
  have hl : l.length ≤ 1048576 := by omega
  have HT := Lib.hid ((Own.ofRow hown).rt.bw (bw_alloc w1 (.cells #[.int .i64 x, .int .i64 y, .int .i64 z] 38)))
  have B1 := Lib.hid (heap_alloc_new w1 (.cells #[.int .i64 x, .int .i64 y, .int .i64 z] 38))
  obtain ⟨⟨hx0, hx1⟩, ⟨hy0, hy1⟩, ⟨hz0, hz1⟩⟩ := hsx
  dsimp only at hx0 hx1 hy0 hy1 hz0 hz1
  dsimp only
  clear hown
  go_wp2_with fail
  refine (DueAt_impl _ _ _ l x y z hl HT.out).mono ?_
  rintro e w2 ⟨rfl, hb2⟩
  have B2 := Lib.hid (blk_bw hb2 B1.out)
  have p0 := blk_cell B2.out 0 rfl
  have p1 := blk_cell B2.out 1 rfl
  have p2 := blk_cell B2.out 2 rfl
  go_wp2_with fail
  refine (DueAt_spec _ _ _ l x y z hl (HT.out.bw hb2)).mono ?_
  rintro e w3 ⟨rfl, hb3⟩
  have B3 := Lib.hid (blk_bw hb3 B2.out)
  clear p0 p1 p2
  have p0 := blk_cell B3.out 0 rfl
  have p1 := blk_cell B3.out 1 rfl
  have p2 := blk_cell B3.out 2 rfl
  have h13 := bw_trans hb2 hb3
  have hw3 := bw_trans (bw_trans hb1 (bw_alloc _ _)) h13
  obtain ⟨g, HG⟩ : ∃ g, Hid (jobIn l ⟨x, y, z⟩ = g) := ⟨_, rfl⟩
  rw [HG.out]
  have hnn : (dueV l ⟨x, y, z⟩ != dueV l ⟨x, y, z⟩) = false := bne_self_eq_false _
  have hee : (dueV l ⟨x, y, z⟩ == dueV l ⟨x, y, z⟩) = true := beq_self_eq_true _
  cases g with
  | false =>
    have hd0 : dueV l ⟨x, y, z⟩ = 0 := by rw [dueV, HG.out]; rfl
    rw [hd0] at hnn hee ⊢
    clear p0 p1 p2
    have HD0 := Lib.hid hd0
    clear hd0
    go_wp2
    go_ret
    exact ⟨rfl, hw3⟩
  | true =>
    obtain ⟨q, T, eq, hT, hql, hTok, _, hx0', hx1', _⟩ := job_task HG.out
    dsimp only at eq hx0' hx1' hT
    subst eq
    have hdv := due_val HG.out (by simpa using hT)
    obtain ⟨T2, b3, off3, hTk, hbo3, hbs3, _, _, _, t3, _⟩ := HT.out.get h13 hql
    have hTT : T2 = T := by rw [hT] at hTk; simpa using hTk.symm
    subst hTT
    subst hbo3
    have hok := (Tk.ok_iff _).1 hTok
    have hTd : 1 ≤ T2.due ∧ T2.due ≤ 20 ∧ 1 ≤ T2.every ∧ T2.every ≤ 20 ∧ T2.due ≤ T2.every := by omega
    rw [hdv] at hnn hee ⊢
    have w1' := IntWalk.i64_in (y + T2.every) (by omega)
    have w2' := IntWalk.i64_in (y + T2.due) (by omega)
    have w3' := IntWalk.i64_in (y + T2.due + T2.every) (by omega)
    have HT0 := Lib.hid hT
    obtain ⟨u1, u2, u3, u4, u5⟩ := hTd
    clear hT hTk hTok hok
    have hb3l := blk_lt B3.out
    have n1 := blk_cell (heap_alloc_new w3 (.cells #[.int .i64 (q : Int), .int .i64 y, .int .i64 z] 38)) 1 rfl
    have n0 := blk_cell (heap_alloc_new w3 (.cells #[.int .i64 (q : Int), .int .i64 y, .int .i64 z] 38)) 0 rfl
    have n2 := blk_cell (heap_alloc_new w3 (.cells #[.int .i64 (q : Int), .int .i64 y, .int .i64 z] 38)) 2 rfl
    have HDV := Lib.hid hdv
    clear hdv
    go_wp2_with fail
    go_region
    have hwn : w3.heap.size < w3.heap.size + 1 := by omega
    go_wp2_with fail
    refine (DueAt_impl _ _ _ l (q : Int) (y + T2.every) z hl (HT.out.bw (bw_trans (bw_trans h13 (bw_alloc _ _)) (bw_drew _)))).mono ?_
    obtain ⟨f, HF⟩ : ∃ f, Hid (jobIn l ⟨(q : Int), y + T2.every, z⟩ = f) := ⟨_, rfl⟩
    rw [HF.out]
    have hdv2 : f = true → dueV l ⟨(q : Int), y + T2.every, z⟩ = y + T2.every + T2.due := fun h => due_val (by rw [HF.out, h]) (by simpa using HT0.out)
    rintro e w4 ⟨rfl, hb4⟩
    have hb34 : Bw w3 w4 := bw_trans (bw_trans (bw_alloc _ _) (bw_drew _)) hb4
    have B4 := Lib.hid (blk_bw hb34 B3.out)
    have N4 := Lib.hid (blk_bw hb4 (blk_bw (bw_drew _) (heap_alloc_new w3 (.cells #[.int .i64 (q : Int), .int .i64 (y + T2.every), .int .i64 z] 38))))
    clear p0 p1 p2 n0 n1 n2
    have p0 := blk_cell B4.out 0 rfl
    have p1 := blk_cell B4.out 1 rfl
    have p2 := blk_cell B4.out 2 rfl
    have n1 := blk_cell N4.out 1 rfl
    have t3' := cell_bw hb34 t3
    have hr4 := Nat.lt_of_lt_of_le hbs3 hb34.size
    have g1 : decide (y < y + T2.due) = true := decide_eq_true (by omega)
    have g2 : decide (y + T2.due ≤ y + T2.every) = true := decide_eq_true (by omega)
    have hend := bw_trans hw3 hb34
    clear t3
    cases f with
    | false =>
      clear hdv2
      go_wp2
      go_ret
      exact ⟨rfl, hend⟩
    | true =>
      rw [hdv2 rfl]
      have g3 : ((y + T2.every + T2.due) == (y + T2.due + T2.every)) = true := beq_iff_eq.2 (by omega)
      clear hdv2
      go_wp2
      go_ret
      exact ⟨rfl, hend⟩

set_option maxRecDepth 100000 in
set_option maxHeartbeats 1600000 in
theorem law_FnNeedNone (v : Value) (w : World) (hv : RawB w v) : Calls Try.prog 8 #[v] w fun e w' => e = .returned (.bool true) ∧ Bw w w' := by
  have HV := Lib.hid hv
  obtain ⟨⟨bo, n, cc, rfl, hc, hm, _⟩⟩ := hv
  unfold maxLen at hm
  by_cases hn : 1048576 < n
  · go_enter Try.func8, Try.ntmps8
    go_wp2
    go_ret
    exact ⟨rfl, Bw.refl _⟩
  have hnd : decide (1048576 < (n : Int)) = false := decide_eq_false (by omega)
  go_enter Try.func8, Try.ntmps8
  go_wp2_with fail
  refine (DrawNeedOf_any HV.out (Bw.refl _)).mono ?_
  clear hnd
  rintro e w1 ⟨bj, d, js, t, rfl, ⟨hjow, hj61, _, hb1⟩⟩
  have hj : js.length ≤ 1048576 := by omega
  have HK := Lib.hid (Own.ofRow hjow).rj
  clear hjow
  go_wp2_with fail
  refine (NeedOf_impl _ _ _ js t hj HK.out).mono ?_
  rintro e w2 ⟨rfl, hb2⟩
  go_wp2_with fail
  refine (NeedOf_spec _ _ _ js t hj (HK.out.bw hb2)).mono ?_
  rintro e w3 ⟨rfl, hb3⟩
  have h13 := bw_trans hb2 hb3
  obtain ⟨N, HN⟩ : ∃ N, Hid (needOf js t = N) := ⟨_, rfl⟩
  rw [HN.out]
  have hnn : (N != N) = false := bne_self_eq_false _
  go_wp2
  go_loopw [6, 7] (fun u i wr => ∃ (k : Nat) (b : Bool), k ≤ js.length ∧ i = .int .i64 k ∧ u = .bool b ∧ Hid (b = false → sumN t (js.take k) = 0) ∧ Bw w1 wr) (fun _ i _ => js.length - (intOf i).toNat)
  case atStart => exact ⟨0, false, Nat.zero_le _, rfl, rfl, fun _ => by simp [sumN], h13⟩
  case round =>
    obtain ⟨k, b, hk, rfl, rfl, hx, hbw⟩ := hrel
    by_cases hlt : k < js.length
    · obtain ⟨⟨x, y, z⟩, b1, off, hjk, hbo, hbs, c0, c1, c2⟩ := HK.out.get hbw hlt
      dsimp only at c0 c1 c2
      subst hbo
      have HJK := Lib.hid hjk
      clear hjk
      cases b with
      | true =>
        go_wp2
        go_roundw
        case rel => exact ⟨k + 1, true, by omega, by go_num, rfl, fun h => (Bool.noConfusion h), hbw⟩
        case measure => simp [intOf]; omega
      | false =>
        have hst := sumN_snoc (t := t) HJK.out
        by_cases he : x = t
        · have he' : (x == t) = true := by simp [he]
          have HE := Lib.hid he
          have HST := Lib.hid hst
          clear he hst
          go_wp2
          go_roundw
          case rel => exact ⟨k + 1, true, by omega, by go_num, rfl, fun h => (Bool.noConfusion h), hbw⟩
          case measure => simp [intOf]; omega
        · have he' : (x == t) = false := by simp [he]
          have HZ : Hid (sumN t (js.take (k + 1)) = 0) := by show _ = _; rw [hst, if_neg he, hx.out rfl]; rfl
          have HE := Lib.hid he
          have HST := Lib.hid hst
          clear he hst
          go_wp2
          go_roundw
          case rel => exact ⟨k + 1, false, by omega, by go_num, rfl, fun _ => HZ.out, hbw⟩
          case measure => simp [intOf]; omega
    · cases b with
      | true =>
        go_wp2
        go_ret
        exact ⟨rfl, bw_trans hb1 hbw⟩
      | false =>
        have hz := hx.out rfl
        rw [take_end hlt] at hz
        have hN0 : N = 0 := by
          rw [← HN.out, needOf]
          split
          · exact hz
          · rfl
        subst hN0
        go_wp2
        go_ret
        exact ⟨rfl, bw_trans hb1 hbw⟩
end Go.Proofs.Ytihegjjhcfoapaa
