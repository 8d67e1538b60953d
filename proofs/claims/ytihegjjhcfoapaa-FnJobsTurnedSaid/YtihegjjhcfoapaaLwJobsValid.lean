/-
  The walks of the laws FnJobsValid and FnJobsTurned.
-/
import Derived.Test.YtihegjjhcfoapaaDrB
import Derived.Test.YtihegjjhcfoapaaDm
import Derived.Test.YtihegjjhcfoapaaPlW
import Derived.Test.YtihegjjhcfoapaaPutS
import Derived.Test.YtihegjjhcfoapaaLwJobsOrder
namespace Go.Proofs.Ytihegjjhcfoapaa
open Go.RowKit

theorem ok_init {l : List Tk} {js : List Jb} {j : Jb} (h : jobsOk l (js ++ [j]) = true) : jobsOk l js = true ∧ putJ l js j = (js ++ [j], true) := by
  obtain ⟨h1, h2, h3, h4⟩ := (jobsOk_iff l _).1 h
  rw [List.pairwise_append] at h4
  have hok : jobsOk l js = true := (jobsOk_iff l _).2 ⟨h1, by simp at h2; omega, fun x hx => h3 x (by simp [hx]), h4.1⟩
  have hins : insJ j js = js ++ [j] := by
    have := insJ_at j js js.length (Nat.le_refl _) (fun k hk => (ordBad_iff _ _).2 (h4.2.2 k (List.mem_of_mem_take hk) j (by simp)).1) (by simp)
    simpa using this
  exact ⟨hok, by rw [putJ, if_pos ⟨hok, by rw [hins]; exact h⟩, hins]⟩
theorem turned {l : List Tk} {a b : Jb} {r : List Jb} (h : jobsOk l (a :: b :: r) = true) : jobsOk l (b :: a :: r) = false := by
  cases hq : jobsOk l (b :: a :: r) with
  | false => rfl
  | true =>
    exfalso
    have h1 := ((List.pairwise_cons.1 ((jobsOk_iff l _).1 h).2.2.2).1 b (by simp)).1
    have h2 := ((List.pairwise_cons.1 ((jobsOk_iff l _).1 hq).2.2.2).1 a (by simp)).1
    unfold Lt at h1 h2; omega
theorem swap_cells {cur : Array Value} {a b : Jb} {r : List Jb} {n : Nat} (h : cur.toList.take n = jbs (a :: b :: r)) :
    ((((((cur.setIfInBounds 0 (vi b.task)).setIfInBounds 1 (vi b.at_)).setIfInBounds 2 (vi b.need)).setIfInBounds 3 (vi a.task)).setIfInBounds 4 (vi a.at_)).setIfInBounds 5 (vi a.need)).toList.take n = jbs (b :: a :: r) := by
  simp only [Array.toList_setIfInBounds, List.take_set, h]
  rfl
theorem row_swap {w : World} {base g c n : Nat} {a b : Jb} {r : List Jb} (h : w.ownsRow base 38 3 (.slice (some ⟨g, 0, none⟩) n c) n (jbs (a :: b :: r))) :
    ((((((w.setCell ⟨g, 0, none⟩ (vi b.task)).setCell ⟨g, 1, none⟩ (vi b.at_)).setCell ⟨g, 2, none⟩ (vi b.need)).setCell ⟨g, 3, none⟩ (vi a.task)).setCell ⟨g, 4, none⟩ (vi a.at_)).setCell ⟨g, 5, none⟩ (vi a.need)).ownsRow base 38 3 (.slice (some ⟨g, 0, none⟩) n c) n (jbs (b :: a :: r)) := by
  refine ⟨by have := h.1; rw [jbs_length] at this ⊢; simpa using this, ?_⟩
  rcases h.2 with ⟨e, _⟩ | ⟨g', cap, cur, e, hg, hh, a1, a2, a3, a4⟩
  · simp at e
  · simp at e; obtain ⟨rfl, rfl⟩ := e
    exact .inr ⟨g, c, _, rfl, hg, blk_set (blk_set (blk_set (blk_set (blk_set (blk_set hh 0 (vi b.task)) 1 (vi b.at_)) 2 (vi b.need)) 3 (vi a.task)) 4 (vi a.at_)) 5 (vi a.need), a1, a2, by simpa using a3, swap_cells a4⟩

set_option maxRecDepth 100000 in
set_option maxHeartbeats 3200000 in
theorem law_FnJobsValid (v : Value) (w : World) (hv : RawB w v) : Calls Try.prog 10 #[v] w fun e w' => e = .returned (.bool true) ∧ Bw w w' := by
  have HV := Lib.hid hv
  obtain ⟨⟨bo, n, cc, rfl, hc, hm, _⟩⟩ := hv
  unfold maxLen at hm
  by_cases hn : 1048576 < n
  · go_enter Try.func10, Try.ntmps10
    go_wp2
    go_ret
    exact ⟨rfl, Bw.refl _⟩
  have hnd : decide (1048576 < (n : Int)) = false := decide_eq_false (by omega)
  go_enter Try.func10, Try.ntmps10
  go_wp2_with fail
  refine (DrawJobsValid_any HV.out (Bw.refl _)).mono ?_
  clear hnd
  rintro e w1 ⟨ao, c, l, bj, d, js, rfl, ⟨hown, hl6, _, hjow, hj61, _, hb1⟩⟩
  have hl : l.length ≤ 1048576 := by omega
  have hj : js.length ≤ 1048576 := by omega
  have HS := Lib.hid (st_row hown hl)
  have HJ := Lib.hid (sj_row hjow hj)
  have HT := Lib.hid (Own.ofRow hown).rt
  have HK := Lib.hid (Own.ofRow hjow).rj
  clear hown
  go_wp2_with fail
  refine (jobsvalid_impl HS.out HJ.out).mono ?_
  obtain ⟨g, HG⟩ : ∃ g, Hid (jobsOk l js = g) := ⟨_, rfl⟩
  rw [HG.out]
  rintro e w2 ⟨rfl, hb2⟩
  go_wp2_with fail
  refine (jobsvalid_spec (HS.out.bw hb2) (HJ.out.bw hb2)).mono ?_
  rw [HG.out]
  rintro e w3 ⟨rfl, hb3⟩
  have h13 := bw_trans hb2 hb3
  have hw3 := bw_trans hb1 h13
  cases g with
  | false =>
    go_wp2_with fail
    refine (jobsvalid_spec (HS.out.bw h13) (HJ.out.bw h13)).mono ?_
    rw [HG.out]
    rintro e w4 ⟨rfl, hb4⟩
    go_wp2
    go_ret
    exact ⟨rfl, bw_trans hw3 hb4⟩
  | true =>
    have H60 := Lib.hid (jobs_len HG.out)
    rcases Nat.eq_zero_or_pos js.length with h0 | h0
    · have h0b : ((js.length : Int) == 0) = true := beq_iff_eq.2 (by omega)
      have H0 := Lib.hid h0
      clear h0
      go_wp2_with fail
      refine (jobsvalid_spec (HS.out.bw h13) (HJ.out.bw h13)).mono ?_
      rw [HG.out]
      rintro e w4 ⟨rfl, hb4⟩
      go_wp2
      go_ret
      exact ⟨rfl, bw_trans hw3 hb4⟩
    · have h0b : ((js.length : Int) == 0) = false := beq_eq_false_iff_ne.2 (by omega)
      obtain ⟨is, j, rfl⟩ : ∃ is j, js = is ++ [j] := ⟨js.dropLast, js.getLast (by intro h; simp [h] at h0), (List.dropLast_concat_getLast _).symm⟩
      obtain ⟨x, y, z⟩ := j
      obtain ⟨hok, hput⟩ := ok_init HG.out
      have hcap := own_cap hjow
      have HJ2 := Lib.hid (show SJ w1 (.slice bj is.length d) is from ⟨⟨bj, d, rfl, by
        have := rj_take (Own.ofRow hjow).rj is.length
        simpa using this, by simp at hcap; omega, by
        obtain ⟨⟨a2, c2, e2, _, _, hfit⟩, _⟩ := sj_row hjow hj
        simp only [Value.slice.injEq] at e2
        obtain ⟨rfl, _, rfl⟩ := e2
        exact hfit⟩, by simp at hj; omega⟩)
      have hil : is.length ≤ 1048576 := by simp at hj; omega
      obtain ⟨bb, rfl⟩ : ∃ g, bj = some ⟨g, 0, none⟩ := by
        rcases hjow.2 with ⟨e0, hx⟩ | ⟨g, cap, cur0, e0, _⟩
        · simp at hx
        · simp only [Value.slice.injEq] at e0; exact ⟨g, e0.1⟩
      obtain ⟨b, off, e, hbs, c0, c1, c2⟩ := HK.out is.length ⟨x, y, z⟩ (by simp)
      simp only [Option.some.injEq, Addr.mk.injEq, and_true] at e
      obtain ⟨rfl, rfl⟩ := e
      dsimp only at c0 c1 c2
      simp only [Nat.zero_add] at c0 c1 c2
      have hres : is.length ≤ d := by simp at hcap; omega
      have hwr1 := IntWalk.i64_in (is.length : Int) (by omega)
      clear hjow
      obtain ⟨L, HL⟩ : ∃ L, Hid (is ++ [(⟨x, y, z⟩ : Jb)] = L) := ⟨_, rfl⟩
      have hLn : L.length = is.length + 1 := by rw [← HL.out]; simp
      have hLc : (L.length : Int) = (is.length : Int) + 1 := by omega
      rw [HL.out] at h0b hcap hj61 hj HJ HK hput HG H60 ⊢
      have hlt : is.length < L.length := by omega
      have c0' := cell_bw h13 c0
      have c1' := cell_bw h13 c1
      have c2' := cell_bw h13 c2
      have hbb3 := Nat.lt_of_lt_of_le hbs h13.size
      clear c0 c1 c2 h0
      have HOK := Lib.hid hok
      have HPUT := Lib.hid hput
      have HLN := Lib.hid hLn
      clear hok hput hLn
      go_wp2_with fail
      go_region_with (first | (go_at_call 35; refine (put_implR (l := l) (js := is) (HS.out.bw (bw_trans h13 (bw_drew _))) (HJ2.out.bw (bw_trans h13 (bw_drew _))) x y z).mono ?_; rw [HPUT.out]; rintro e w4 ⟨ax, cx, rfl, hx, hb4'⟩; have HX := Lib.hid hx; clear hx; have hb4 : Bw w3 w4 := bw_trans (bw_drew _) hb4'; clear hb4'))
      go_wp2_with fail
      refine (jobsvalid_impl (l := l) (js := is) (HS.out.bw (bw_trans h13 hb4)) (HJ2.out.bw (bw_trans h13 hb4))).mono ?_
      rw [HOK.out]
      rintro e w5 ⟨rfl, hb5⟩
      clear hLc
      go_wp2_with fail
      refine (dmJobs_any _ _ L L _ _ _ (Own.ofRow (row_bw HX.out hb5)).rj (HK.out.bw (bw_trans (bw_trans h13 hb4) hb5)) hj hj).mono ?_
      rw [decide_eq_true rfl]
      rintro e w6 ⟨rfl, hb6⟩
      go_wp2
      go_ret
      exact ⟨rfl, bw_trans (bw_trans (bw_trans hw3 hb4) hb5) hb6⟩

set_option maxRecDepth 100000 in
set_option maxHeartbeats 3200000 in
theorem law_FnJobsTurned (v : Value) (w : World) (hv : RawB w v) : Calls Try.prog 6 #[v] w fun e w' => e = .returned (.bool true) ∧ Bw w w' := by
  obtain ⟨i0, hi0, hz0, hz1, hz2⟩ := info_parts infoJob
  have HV := Lib.hid hv
  obtain ⟨⟨bo, n, cc, rfl, hc, hm, _⟩⟩ := hv
  unfold maxLen at hm
  by_cases hn : 1048576 < n
  · go_enter Try.func6, Try.ntmps6
    go_wp2
    go_ret
    exact ⟨rfl, Bw.refl _⟩
  have hnd : decide (1048576 < (n : Int)) = false := decide_eq_false (by omega)
  go_enter Try.func6, Try.ntmps6
  go_wp2_with fail
  refine (DrawJobsValid_any HV.out (Bw.refl _)).mono ?_
  clear hnd
  rintro e w1 ⟨ao, c, l, bj, d, js, rfl, ⟨hown, hl6, _, hjow, hj61, _, hb1⟩⟩
  have hl : l.length ≤ 1048576 := by omega
  have hj : js.length ≤ 1048576 := by omega
  have HS := Lib.hid (st_row hown hl)
  have HJ := Lib.hid (sj_row hjow hj)
  have HT := Lib.hid (Own.ofRow hown).rt
  have HK := Lib.hid (Own.ofRow hjow).rj
  clear hown
  go_wp2_with fail
  refine (jobsvalid_impl HS.out HJ.out).mono ?_
  obtain ⟨g, HG⟩ : ∃ g, Hid (jobsOk l js = g) := ⟨_, rfl⟩
  rw [HG.out]
  rintro e w2 ⟨rfl, hb2⟩
  go_wp2_with fail
  refine (jobsvalid_spec (HS.out.bw hb2) (HJ.out.bw hb2)).mono ?_
  rw [HG.out]
  rintro e w3 ⟨rfl, hb3⟩
  have h13 := bw_trans hb2 hb3
  have hw3 := bw_trans hb1 h13
  cases g with
  | false =>
    go_wp2_with fail
    refine (jobsvalid_spec (HS.out.bw h13) (HJ.out.bw h13)).mono ?_
    rw [HG.out]
    rintro e w4 ⟨rfl, hb4⟩
    go_wp2
    go_ret
    exact ⟨rfl, bw_trans hw3 hb4⟩
  | true =>
    have H60 := Lib.hid (jobs_len HG.out)
    by_cases h0 : js.length < 2
    · have h0b : decide ((js.length : Int) < 2) = true := by simp; omega
      go_wp2_with fail
      refine (jobsvalid_spec (HS.out.bw h13) (HJ.out.bw h13)).mono ?_
      rw [HG.out]
      rintro e w4 ⟨rfl, hb4⟩
      go_wp2
      go_ret
      exact ⟨rfl, bw_trans hw3 hb4⟩
    · have h0b : decide ((js.length : Int) < 2) = false := by simp; omega
      obtain ⟨⟨x, y, z⟩, ⟨x', y', z'⟩, r, rfl⟩ : ∃ a b r, js = a :: b :: r := by
        match js, h0 with
        | a :: b :: r, _ => exact ⟨a, b, r, rfl⟩
        | [], h => simp at h
        | [a], h => simp at h
      obtain ⟨bb, rfl⟩ : ∃ g, bj = some ⟨g, 0, none⟩ := by
        rcases hjow.2 with ⟨e0, hx⟩ | ⟨g, cap, cur0, e0, _⟩
        · simp at hx
        · simp only [Value.slice.injEq] at e0; exact ⟨g, e0.1⟩
      have HNO := Lib.hid (turned HG.out)
      have hown0 := World.ownsRow_made (base := w3.heap.size) (e := 38) (size := 3) w3 #[] 0 (by omega) (by simp) rfl
      have hjl : (⟨x, y, z⟩ :: ⟨x', y', z'⟩ :: r : List Jb).length = r.length + 2 := by simp
      rw [hjl] at hj61 h0b hj ⊢
      clear hjow
      have HRC := Lib.hid (rj_cells HK.out (bw_trans h13 (bw_alloc _ (.cells #[] 38))))
      go_wp2_with (at_builtin; first
        | (refine wpList_append_own _ rfl _ _ 33 rfl w3.heap.size 38 i0 zJob 3 24 Try.underlying33 hi0 hz0 hz1 hz2 rfl (by decide) _ _ _ rfl hown0 ⟨bb, 0, none⟩ (r.length + 2) d (jbs (⟨x, y, z⟩ :: ⟨x', y', z'⟩ :: r)) rfl (by rw [jbs_length]; simp) HRC.out (oneJs _) (by unfold maxLen; omega) (by omega) (by simp only [World.size_alloc]; omega) ?_
           intro v1 w4 hown1 hgrow1 _
           obtain ⟨ao4, c4, hu⟩ := own_form hown1
           subst hu
           have hb34 : Bw w3 w4 := Below.grown (bw_alloc w3 _) hgrow1 (by simp) (fun g hg => by have := own_cap0 hown0 g hg; omega)
           have hown2 : w4.ownsRow w3.heap.size 38 3 (.slice ao4 (r.length + 2) c4) (r.length + 2) (jbs (⟨x, y, z⟩ :: ⟨x', y', z'⟩ :: r)) := by simpa using hown1
           obtain ⟨g4, rfl⟩ : ∃ g, ao4 = some ⟨g, 0, none⟩ := by
             rcases hown2.2 with ⟨e0, hx⟩ | ⟨g, cap, cur0, e0, _⟩
             · omega
             · simp only [Value.slice.injEq] at e0; exact ⟨g, e0.1⟩
           have hg4 := own_cap0 hown2 g4 rfl
           obtain ⟨b, off, e, hbs, a0, a1, a2⟩ := HK.out 0 ⟨x, y, z⟩ rfl
           simp only [Option.some.injEq, Addr.mk.injEq, and_true] at e
           obtain ⟨rfl, rfl⟩ := e
           obtain ⟨b, off, e, _, b0, b1, b2⟩ := HK.out 1 ⟨x', y', z'⟩ rfl
           simp only [Option.some.injEq, Addr.mk.injEq, and_true] at e
           obtain ⟨rfl, rfl⟩ := e
           dsimp only at a0 a1 a2 b0 b1 b2
           simp only [Nat.zero_add, Nat.zero_mul, Nat.one_mul, Nat.reduceAdd] at a0 a1 a2 b0 b1 b2
           have hb14 := bw_trans h13 hb34
           have hne : ¬ bb = g4 := by have := h13.size; omega
           have hne' : ¬ g4 = bb := by omega
           have i0' := cell_bw hb14 a0
           have i1' := cell_bw hb14 a1
           have i2' := cell_bw hb14 a2
           have j0' := cell_bw hb14 b0
           have j1' := cell_bw hb14 b1
           have j2' := cell_bw hb14 b2
           obtain ⟨b, off, e, hbs4, d0, d1, d2⟩ := (Own.ofRow hown2).rj 0 ⟨x, y, z⟩ rfl
           simp only [Option.some.injEq, Addr.mk.injEq, and_true] at e
           obtain ⟨rfl, rfl⟩ := e
           obtain ⟨b, off, e, _, e0, e1, e2⟩ := (Own.ofRow hown2).rj 1 ⟨x', y', z'⟩ rfl
           simp only [Option.some.injEq, Addr.mk.injEq, and_true] at e
           obtain ⟨rfl, rfl⟩ := e
           dsimp only at d0 d1 d2 e0 e1 e2
           simp only [Nat.zero_add, Nat.zero_mul, Nat.one_mul, Nat.reduceAdd] at d0 d1 d2 e0 e1 e2
           have hfz : ∀ j, w4.frozen? ⟨g4, j, none⟩ = false := by
             rcases hown2.2 with ⟨e0, _⟩ | ⟨g', cap, cur0, e0, _, hbk, _⟩
             · simp at e0
             · simp at e0; obtain ⟨rfl, _⟩ := e0; exact fun j => blk_free hbk j
           have hl2 : 1 < r.length + 2 := by omega
           have hl3 : 0 < r.length + 2 := by omega
           have hbb4 : bb < w4.heap.size := by have := hb14.size; omega
           have HSW := Lib.hid (row_swap hown2)
           have HBW := Lib.hid (bw_set (bw_set (bw_set (bw_set (bw_set (bw_set hb34 hg4 0 (vi x')) hg4 1 (vi y')) hg4 2 (vi z')) hg4 3 (vi x)) hg4 4 (vi y)) hg4 5 (vi z))
           have hjr : (⟨x', y', z'⟩ :: ⟨x, y, z⟩ :: r : List Jb).length ≤ 1048576 := by simp; omega
           clear hown1 hown2 hgrow1 a0 a1 a2 b0 b1 b2 hown0))
      refine (jobsvalid_impl (l := l) (js := ⟨x', y', z'⟩ :: ⟨x, y, z⟩ :: r) (HS.out.bw (bw_trans h13 HBW.out)) (sj_row HSW.out hjr)).mono ?_
      rw [HNO.out]
      rintro e w5 ⟨rfl, hb5⟩
      go_wp2
      go_ret
      exact ⟨rfl, bw_trans (bw_trans hw3 HBW.out) hb5⟩
end Go.Proofs.Ytihegjjhcfoapaa