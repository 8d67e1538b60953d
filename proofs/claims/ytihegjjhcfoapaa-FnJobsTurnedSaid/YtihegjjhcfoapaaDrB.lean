/-
  The walks of the draws of chapter 6 that hand tasks and jobs on.
-/
import Derived.Test.YtihegjjhcfoapaaDrC
namespace Go.Proofs.Ytihegjjhcfoapaa
open Go.RowKit

theorem DrawJobsValid_any {w0 w : World} {v : Value} (hv : RawB w0 v) (hb : Bw w0 w) : Calls Try.prog 25 #[v] w (CaseEnd w) := by
  have HV := Lib.hid hv
  clear hv
  go_enter Try.func25, Try.ntmps25
  go_wp2_with fail
  refine (l6Case_any HV.out hb).mono ?_
  rintro e w1 ⟨ao, c, l, bj, d, js, rfl, h⟩
  go_wp2
  go_ret2
  exact ⟨ao, c, l, bj, d, js, rfl, h⟩
theorem DrawHighJobs_any {w0 w : World} {v : Value} (hv : RawB w0 v) (hb : Bw w0 w) : Calls Try.prog 36 #[v] w (CaseEnd w) := by
  have HV := Lib.hid hv
  clear hv
  go_enter Try.func36, Try.ntmps36
  go_wp2_with fail
  refine (l6Case_any HV.out hb).mono ?_
  rintro e w1 ⟨ao, c, l, bj, d, js, rfl, h⟩
  go_wp2
  go_ret2
  exact ⟨ao, c, l, bj, d, js, rfl, h⟩

/-- Jobs that the call made. -/
def Js (w w' : World) (bo : Option Addr) (d : Nat) (js : List Jb) : Prop := w'.ownsRow w.heap.size 38 3 (.slice bo js.length d) js.length (jbs js) ∧ js.length ≤ 61 ∧ (∀ j ∈ js, Sj j) ∧ Bw w w'
def DrawNeedOfEnd (w : World) (e : Ending) (w' : World) : Prop := ∃ (bo : Option Addr) (d : Nat) (js : List Jb) (t : Int), e = .returned (.tuple #[.slice bo js.length d, .int .i64 t]) ∧ Js w w' bo d js
def DrawPutJobEnd (w : World) (e : Ending) (w' : World) : Prop := ∃ ao c l bo d js j, e = .returned (.tuple #[.slice ao l.length c, .slice bo js.length d, jbVal j]) ∧ TJ w w' ao c l bo d js ∧ Sj j
def DrawDueAtEnd (w : World) (e : Ending) (w' : World) : Prop := ∃ ao c l j, e = .returned (.tuple #[.slice ao l.length c, jbVal j]) ∧ Ts w w' ao c l ∧ Sj j

theorem row_below {w w' : World} {lo hi base E size n : Nat} {v : Value} {xs : List Value} (h : w.ownsRow base E size v n xs) (hh : HitR lo hi w w') (hb : ∀ k, v.ownBlock = some k → k < lo) : w'.ownsRow base E size v n xs := by
  refine ⟨h.1, ?_⟩
  rcases h.2 with hn | ⟨g, cap, cur, rfl, hg, hk, rest⟩
  · exact .inl hn
  · exact .inr ⟨g, cap, cur, rfl, hg, blk_hit hh hk (.inl (hb g rfl)), rest⟩

set_option maxRecDepth 100000 in
set_option maxHeartbeats 1600000 in
theorem DrawNeedOf_any {w0 w : World} {v : Value} (hv : RawB w0 v) (hb : Bw w0 w) : Calls Try.prog 31 #[v] w (DrawNeedOfEnd w) := by
  have HV := Lib.hid hv
  clear hv
  go_enter Try.func31, Try.ntmps31
  go_wp2_with fail
  refine (l6Case_any HV.out hb).mono ?_
  rintro e w1 ⟨ao, c, l, bj, d, js, rfl, ⟨_, _, _, hj, hj61, hsj, hb1⟩⟩
  have HJ := Lib.hid hj
  have HSJ := Lib.hid hsj
  have HLT := Lib.hid (row_blk hj)
  clear hj hsj
  go_wp2_with fail
  refine (l11Open_any HV.out (bw_trans hb hb1)).mono ?_
  rintro e w2 ⟨rfl, hrd, hb2⟩
  have hz2 := hb2.size
  have hG := hrd.lt
  go_wp2_with fail
  refine (num_any _ w1.heap.size w1.heap.size 0 w2.heap.size [0, 1, 2, 5] 4 (hrd.bw (bw_alloc _ _)) (by omega) (by simp) (by simp) (by omega) (ri_lit _ (heap_alloc_new w2 _) rfl)).mono ?_
  rintro e w3 ⟨x, rfl, hx, hd3⟩
  have hj3 := row_below ((row_bw HJ.out hb2).alloc (.cells #[vi 0, vi 1, vi 2, vi 5] 3)) hd3.2 HLT.out
  have hbw : Bw w w3 := bw_hit (bw_trans (bw_trans hb1 hb2) (bw_alloc _ _)) hd3.2 (by have := hb1.size; omega)
  clear hd3 hrd
  go_wp2
  go_ret2
  exact ⟨bj, d, js, x, rfl, hj3, hj61, HSJ.out, hbw⟩

theorem dr_set3 {w w' : World} {g : Nat} {a b c : Value} (h : Bw w w') (hg : w.heap.size ≤ g) : Bw w (((w'.setCell ⟨g, 0, none⟩ a).setCell ⟨g, 1, none⟩ b).setCell ⟨g, 2, none⟩ c) := bw_set (bw_set (bw_set h hg _ _) hg _ _) hg _ _
theorem row_set3 {w : World} {base E size n g : Nat} {v a b c : Value} {xs : List Value} (h : w.ownsRow base E size v n xs) (hg : g < base) : (((w.setCell ⟨g, 0, none⟩ a).setCell ⟨g, 1, none⟩ b).setCell ⟨g, 2, none⟩ c).ownsRow base E size v n xs := by
  have hne : ∀ k, v.ownBlock = some k → k ≠ g := fun k hk => by have := (h.lt k hk).1; omega
  exact row_oth (row_oth (row_oth h hne) hne) hne
abbrev box0 : Obj := .cells #[.int .i64 0, .int .i64 0, .int .i64 0] 38

set_option maxRecDepth 100000 in
set_option maxHeartbeats 3200000 in
theorem DrawPutJob_any {w0 w : World} {v : Value} (hv : RawB w0 v) (hb : Bw w0 w) : Calls Try.prog 39 #[v] w (DrawPutJobEnd w) := by
  have HV := Lib.hid hv
  clear hv
  go_enter Try.func39, Try.ntmps39
  go_wp2_with fail
  refine (l6Case_any HV.out (bw_trans hb (bw_alloc _ _))).mono ?_
  rintro e w1 ⟨ao, c, l, bj, d, js, rfl, ⟨hown, hl6, hsm, hj, hj61, hsj, hb1⟩⟩
  have hz1 := hb1.size
  simp only [World.size_alloc] at hz1
  have HT1 := Lib.hid hown
  have HSM := Lib.hid hsm
  have HJ1 := Lib.hid hj
  have HSJ := Lib.hid hsj
  have HLT := Lib.hid (row_blk hj)
  have HLS := Lib.hid (row_blk hown)
  have RB1 := Lib.hid (blk_bw hb1 (heap_alloc_new w box0))
  clear hj hsj hown hsm
  go_wp2_with fail
  refine (l11Open_any HV.out (bw_trans hb (bw_trans (bw_alloc _ _) hb1))).mono ?_
  rintro e w2 ⟨rfl, hrd, hb2⟩
  have hz2 := hb2.size
  have hG := hrd.lt
  have HT2 := Lib.hid (row_bw HT1.out hb2)
  have HJ2 := Lib.hid (row_bw HJ1.out hb2)
  have HR2 := Lib.hid hrd
  have HB2 := Lib.hid (bw_trans (bw_trans (bw_alloc _ _) hb1) hb2)
  have RB2 := Lib.hid (blk_bw hb2 RB1.out)
  clear hrd
  go_wp2_with fail
  refine (num_any _ w1.heap.size w1.heap.size _ w2.heap.size [0, 1, 2, 5] 4 (HR2.out.bw (bw_alloc _ _)) (by omega) (by simp) (by simp) (by omega) (ri_lit _ (heap_alloc_new w2 _) rfl)).mono ?_
  rintro e w3 ⟨x3, rfl, hx3, hd3⟩
  have hz3 := hd3.2.size
  simp only [World.size_alloc] at hz3
  have hb3 : -1000 ≤ x3 ∧ x3 ≤ 1000 := by simp at hx3; omega
  have HR3 := Lib.hid hd3.1
  have HB3 := Lib.hid (show Bw w w3 from bw_hit (bw_trans HB2.out (bw_alloc _ _)) hd3.2 (by omega))
  have HT3 := Lib.hid (row_below (HT2.out.alloc _) hd3.2 HLS.out)
  have HJ3 := Lib.hid (row_below (HJ2.out.alloc _) hd3.2 HLT.out)
  have RB3 := Lib.hid (blk_hit hd3.2 (blk_bw (bw_alloc _ _) RB2.out) (.inl (by omega)))
  clear hd3 hx3
  go_wp2_with fail
  refine (num_any _ w1.heap.size w1.heap.size _ w3.heap.size [30, 55, 7, 100, 0, 201] 6 (HR3.out.bw (bw_alloc _ _)) (by omega) (by simp) (by simp) (by omega) (ri_lit _ (heap_alloc_new w3 _) rfl)).mono ?_
  rintro e w4 ⟨x4, rfl, hx4, hd4⟩
  have hz4 := hd4.2.size
  simp only [World.size_alloc] at hz4
  have hb4 : -1000 ≤ x4 ∧ x4 ≤ 1000 := by simp at hx4; omega
  have HR4 := Lib.hid hd4.1
  have HB4 := Lib.hid (show Bw w w4 from bw_hit (bw_trans HB3.out (bw_alloc _ _)) hd4.2 (by omega))
  have HT4 := Lib.hid (row_below (HT3.out.alloc _) hd4.2 HLS.out)
  have HJ4 := Lib.hid (row_below (HJ3.out.alloc _) hd4.2 HLT.out)
  have RB4 := Lib.hid (blk_hit hd4.2 (blk_bw (bw_alloc _ _) RB3.out) (.inl (by omega)))
  clear hd4 hx4
  go_wp2_with fail
  refine (num_any _ w1.heap.size w1.heap.size _ w4.heap.size [1, 2, 1, 0] 4 (HR4.out.bw (bw_alloc _ _)) (by omega) (by simp) (by simp) (by omega) (ri_lit _ (heap_alloc_new w4 _) rfl)).mono ?_
  rintro e w5 ⟨x5, rfl, hx5, hd5⟩
  have hz5 := hd5.2.size
  simp only [World.size_alloc] at hz5
  have hb5 : -1000 ≤ x5 ∧ x5 ≤ 1000 := by simp at hx5; omega
  have HR5 := Lib.hid hd5.1
  have HB5 := Lib.hid (show Bw w w5 from bw_hit (bw_trans HB4.out (bw_alloc _ _)) hd5.2 (by omega))
  have HT5 := Lib.hid (row_below (HT4.out.alloc _) hd5.2 HLS.out)
  have HJ5 := Lib.hid (row_below (HJ4.out.alloc _) hd5.2 HLT.out)
  have RB5 := Lib.hid (blk_hit hd5.2 (blk_bw (bw_alloc _ _) RB4.out) (.inl (by omega)))
  clear hd5 hx5
  have s0 := blk_cell RB5.out 0 rfl
  have s1 := blk_cell RB5.out 1 rfl
  have s2 := blk_cell RB5.out 2 rfl
  have fr := fun j => blk_free RB5.out j
  go_wp2
  refine bodyPost_ret (v := .tuple #[.slice ao l.length c, .slice bj js.length d, .agg #[.int .i64 x3, .int .i64 x4, .int .i64 x5]]) (by simp [results, Try.results39, go_sem, s0, s1, s2]) rfl ?_
  exact ⟨ao, c, l, bj, d, js, ⟨x3, x4, x5⟩, rfl, ⟨Go.Joins.ownsRow_le (row_set3 HT5.out (by simp)) (by simp), hl6, HSM.out, Go.Joins.ownsRow_le (row_set3 HJ5.out (by simp)) (by simp), hj61, HSJ.out, dr_set3 HB5.out (Nat.le_refl _)⟩, ⟨hb3, hb4, hb5⟩⟩

set_option maxRecDepth 100000 in
set_option maxHeartbeats 3200000 in
theorem DrawDueAt_any {w0 w : World} {v : Value} (hv : RawB w0 v) (hb : Bw w0 w) : Calls Try.prog 28 #[v] w (DrawDueAtEnd w) := by
  have HV := Lib.hid hv
  clear hv
  go_enter Try.func28, Try.ntmps28
  go_wp2_with fail
  refine (l6Case_any HV.out (bw_trans hb (bw_alloc _ _))).mono ?_
  rintro e w1 ⟨ao, c, l, bj, d, js, rfl, ⟨hown, hl6, hsm, hj, hj61, hsj, hb1⟩⟩
  have hz1 := hb1.size
  simp only [World.size_alloc] at hz1
  have HT1 := Lib.hid hown
  have HSM := Lib.hid hsm
  have HJ1 := Lib.hid hj
  have HSJ := Lib.hid hsj
  have HLT := Lib.hid (row_blk hj)
  have HLS := Lib.hid (row_blk hown)
  have RB1 := Lib.hid (blk_bw hb1 (heap_alloc_new w box0))
  clear hj hsj hown hsm
  go_wp2_with fail
  refine (l11Open_any HV.out (bw_trans hb (bw_trans (bw_alloc _ _) hb1))).mono ?_
  rintro e w2 ⟨rfl, hrd, hb2⟩
  have hz2 := hb2.size
  have hG := hrd.lt
  have HT2 := Lib.hid (row_bw HT1.out hb2)
  have HJ2 := Lib.hid (row_bw HJ1.out hb2)
  have HR2 := Lib.hid hrd
  have HB2 := Lib.hid (bw_trans (bw_trans (bw_alloc _ _) hb1) hb2)
  have RB2 := Lib.hid (blk_bw hb2 RB1.out)
  clear hrd
  rcases Nat.eq_zero_or_pos js.length with h0 | h0
  · have h0b : decide (0 < js.length) = false := decide_eq_false (by omega)
    have H0 := Lib.hid h0
    clear h0
    have HR4 := HR2
    have HB4 := HB2
    have HT4 := HT2
    have RB4 := RB2
    obtain ⟨w4, e4⟩ : ∃ w4 : World, w4 = w2 := ⟨_, rfl⟩
    subst e4
    go_wp2_with fail
    refine (num_any _ w1.heap.size w1.heap.size _ w4.heap.size [0, 1, 5, -1] 4 (HR4.out.bw (bw_alloc _ _)) (by omega) (by simp) (by simp) (by omega) (ri_lit _ (heap_alloc_new w4 _) rfl)).mono ?_
    rintro e w5 ⟨x5, rfl, hx5, hd5⟩
    have hz5 := hd5.2.size
    simp only [World.size_alloc] at hz5
    have hb5 : -1000 ≤ x5 ∧ x5 ≤ 1000 := by simp at hx5; omega
    have HR5 := Lib.hid hd5.1
    have HB5 := Lib.hid (show Bw w w5 from bw_hit (bw_trans HB4.out (bw_alloc _ _)) hd5.2 (by omega))
    have HT5 := Lib.hid (row_below (HT4.out.alloc _) hd5.2 HLS.out)
    have RB5 := Lib.hid (blk_hit hd5.2 (blk_bw (bw_alloc _ _) RB4.out) (.inl (by omega)))
    clear hd5 hx5
    go_wp2_with fail
    refine (num_any _ w1.heap.size w1.heap.size _ w5.heap.size [0, 200, 201] 3 (HR5.out.bw (bw_alloc _ _)) (by omega) (by simp) (by simp) (by omega) (ri_lit _ (heap_alloc_new w5 _) rfl)).mono ?_
    rintro e w6 ⟨x6, rfl, hx6, hd6⟩
    have hz6 := hd6.2.size
    simp only [World.size_alloc] at hz6
    have hb6 : -1000 ≤ x6 ∧ x6 ≤ 1000 := by simp at hx6; omega
    have HR6 := Lib.hid hd6.1
    have HB6 := Lib.hid (show Bw w w6 from bw_hit (bw_trans HB5.out (bw_alloc _ _)) hd6.2 (by omega))
    have HT6 := Lib.hid (row_below (HT5.out.alloc _) hd6.2 HLS.out)
    have RB6 := Lib.hid (blk_hit hd6.2 (blk_bw (bw_alloc _ _) RB5.out) (.inl (by omega)))
    clear hd6 hx6
    go_wp2_with fail
    refine (num_any _ w1.heap.size w1.heap.size _ w6.heap.size [1, 0] 2 (HR6.out.bw (bw_alloc _ _)) (by omega) (by simp) (by simp) (by omega) (ri_lit _ (heap_alloc_new w6 _) rfl)).mono ?_
    rintro e w7 ⟨x7, rfl, hx7, hd7⟩
    have hz7 := hd7.2.size
    simp only [World.size_alloc] at hz7
    have hb7 : -1000 ≤ x7 ∧ x7 ≤ 1000 := by simp at hx7; omega
    have HR7 := Lib.hid hd7.1
    have HB7 := Lib.hid (show Bw w w7 from bw_hit (bw_trans HB6.out (bw_alloc _ _)) hd7.2 (by omega))
    have HT7 := Lib.hid (row_below (HT6.out.alloc _) hd7.2 HLS.out)
    have RB7 := Lib.hid (blk_hit hd7.2 (blk_bw (bw_alloc _ _) RB6.out) (.inl (by omega)))
    clear hd7 hx7
    have s0 := blk_cell RB7.out 0 rfl
    have s1 := blk_cell RB7.out 1 rfl
    have s2 := blk_cell RB7.out 2 rfl
    have fr := fun j => blk_free RB7.out j
    go_wp2
    refine bodyPost_ret (v := .tuple #[.slice ao l.length c, .agg #[.int .i64 x5, .int .i64 x6, .int .i64 x7]]) (by simp [results, Try.results28, go_sem, s0, s1, s2]) rfl ?_
    exact ⟨ao, c, l, ⟨x5, x6, x7⟩, rfl, ⟨Go.Joins.ownsRow_le (row_set3 HT7.out (by simp)) (by simp), hl6, HSM.out, dr_set3 HB7.out (Nat.le_refl _)⟩, ⟨hb5, hb6, hb7⟩⟩
  · go_wp2_with fail
    refine (pick_any _ _ _ _ _ HR2.out (by omega)).mono ?_
    rintro e w4 ⟨r, rfl, hr, hd4⟩
    have hz4 := hd4.2.size
    have HR4 := Lib.hid hd4.1
    have HB4 := Lib.hid (show Bw w w4 from bw_hit HB2.out hd4.2 (by omega))
    have HT4 := Lib.hid (row_below HT2.out hd4.2 HLS.out)
    have HJ4 := Lib.hid (row_below HJ2.out hd4.2 HLT.out)
    have RB4 := Lib.hid (blk_hit hd4.2 RB2.out (.inl (by omega)))
    clear hd4
    rcases Nat.eq_zero_or_pos r with h1 | h1
    · subst h1
      have h0b : decide ((0 : Int) < 0) = false := by simp
      go_wp2_with fail
      refine (num_any _ w1.heap.size w1.heap.size _ w4.heap.size [0, 1, 5, -1] 4 (HR4.out.bw (bw_alloc _ _)) (by omega) (by simp) (by simp) (by omega) (ri_lit _ (heap_alloc_new w4 _) rfl)).mono ?_
      rintro e w5 ⟨x5, rfl, hx5, hd5⟩
      have hz5 := hd5.2.size
      simp only [World.size_alloc] at hz5
      have hb5 : -1000 ≤ x5 ∧ x5 ≤ 1000 := by simp at hx5; omega
      have HR5 := Lib.hid hd5.1
      have HB5 := Lib.hid (show Bw w w5 from bw_hit (bw_trans HB4.out (bw_alloc _ _)) hd5.2 (by omega))
      have HT5 := Lib.hid (row_below (HT4.out.alloc _) hd5.2 HLS.out)
      have RB5 := Lib.hid (blk_hit hd5.2 (blk_bw (bw_alloc _ _) RB4.out) (.inl (by omega)))
      clear hd5 hx5
      go_wp2_with fail
      refine (num_any _ w1.heap.size w1.heap.size _ w5.heap.size [0, 200, 201] 3 (HR5.out.bw (bw_alloc _ _)) (by omega) (by simp) (by simp) (by omega) (ri_lit _ (heap_alloc_new w5 _) rfl)).mono ?_
      rintro e w6 ⟨x6, rfl, hx6, hd6⟩
      have hz6 := hd6.2.size
      simp only [World.size_alloc] at hz6
      have hb6 : -1000 ≤ x6 ∧ x6 ≤ 1000 := by simp at hx6; omega
      have HR6 := Lib.hid hd6.1
      have HB6 := Lib.hid (show Bw w w6 from bw_hit (bw_trans HB5.out (bw_alloc _ _)) hd6.2 (by omega))
      have HT6 := Lib.hid (row_below (HT5.out.alloc _) hd6.2 HLS.out)
      have RB6 := Lib.hid (blk_hit hd6.2 (blk_bw (bw_alloc _ _) RB5.out) (.inl (by omega)))
      clear hd6 hx6
      go_wp2_with fail
      refine (num_any _ w1.heap.size w1.heap.size _ w6.heap.size [1, 0] 2 (HR6.out.bw (bw_alloc _ _)) (by omega) (by simp) (by simp) (by omega) (ri_lit _ (heap_alloc_new w6 _) rfl)).mono ?_
      rintro e w7 ⟨x7, rfl, hx7, hd7⟩
      have hz7 := hd7.2.size
      simp only [World.size_alloc] at hz7
      have hb7 : -1000 ≤ x7 ∧ x7 ≤ 1000 := by simp at hx7; omega
      have HR7 := Lib.hid hd7.1
      have HB7 := Lib.hid (show Bw w w7 from bw_hit (bw_trans HB6.out (bw_alloc _ _)) hd7.2 (by omega))
      have HT7 := Lib.hid (row_below (HT6.out.alloc _) hd7.2 HLS.out)
      have RB7 := Lib.hid (blk_hit hd7.2 (blk_bw (bw_alloc _ _) RB6.out) (.inl (by omega)))
      clear hd7 hx7
      have s0 := blk_cell RB7.out 0 rfl
      have s1 := blk_cell RB7.out 1 rfl
      have s2 := blk_cell RB7.out 2 rfl
      have fr := fun j => blk_free RB7.out j
      go_wp2
      refine bodyPost_ret (v := .tuple #[.slice ao l.length c, .agg #[.int .i64 x5, .int .i64 x6, .int .i64 x7]]) (by simp [results, Try.results28, go_sem, s0, s1, s2]) rfl ?_
      exact ⟨ao, c, l, ⟨x5, x6, x7⟩, rfl, ⟨Go.Joins.ownsRow_le (row_set3 HT7.out (by simp)) (by simp), hl6, HSM.out, dr_set3 HB7.out (Nat.le_refl _)⟩, ⟨hb5, hb6, hb7⟩⟩
    · have h1i : (0 : Int) < r := by omega
      obtain ⟨g, rfl⟩ : ∃ g, bj = some ⟨g, 0, none⟩ := by
        rcases HJ4.out.2 with ⟨e0, hx⟩ | ⟨g, cap, cur0, e0, _⟩
        · omega
        · simp only [Value.slice.injEq] at e0; exact ⟨g, e0.1⟩
      have tok0 : True := trivial
      go_wp2_with fail
      go_region_with (first | (go_at_call 47; refine (pick_any _ _ _ _ _ (by first | exact HR4.out | exact HR4.out.bw (bw_drew _)) (by omega)).mono ?_; rintro e w5 ⟨k, rfl, hk, hd5⟩; have hkl : k < js.length := (by omega); have hz5 : w4.heap.size ≤ w5.heap.size := hd5.2.size; have HB5 := Lib.hid (show Bw w w5 from bw_hit (by first | exact HB4.out | exact bw_trans HB4.out (bw_drew _)) hd5.2 (by omega)); have HT5 := Lib.hid (row_below (by first | exact HT4.out | exact row_bw HT4.out (bw_drew _)) hd5.2 HLS.out); have HJ5 := Lib.hid (row_below (by first | exact HJ4.out | exact row_bw HJ4.out (bw_drew _)) hd5.2 HLT.out); have RB5 := Lib.hid (blk_hit hd5.2 (by first | exact RB4.out | exact blk_bw (bw_drew _) RB4.out) (.inl (by omega))); clear hd5; obtain ⟨⟨j0, j1, j2⟩, hjk⟩ := getSome hkl; have hsjk := HSJ.out _ (List.mem_of_getElem? hjk); obtain ⟨b, off, e, hbs, c0, c1, c2⟩ := (Own.ofRow HJ5.out).rj k _ hjk; simp only [Option.some.injEq, Addr.mk.injEq, and_true] at e; obtain ⟨rfl, rfl⟩ := e; dsimp only at c0 c1 c2; simp only [Nat.zero_add] at c0 c1 c2; have HJK := Lib.hid hjk; have HSJK := Lib.hid hsjk; clear hjk hsjk; have s0 := blk_cell RB5.out 0 rfl; have s1 := blk_cell RB5.out 1 rfl; have s2 := blk_cell RB5.out 2 rfl; have fr := fun j => blk_free RB5.out j))
      all_goals try go_wp2
      all_goals
        refine bodyPost_ret (v := .tuple #[.slice ao l.length c, .agg #[.int .i64 j0, .int .i64 j1, .int .i64 j2]]) (by simp [results, Try.results28, go_sem, s0, s1, s2]) rfl ?_
        exact ⟨ao, c, l, ⟨j0, j1, j2⟩, rfl, ⟨Go.Joins.ownsRow_le (row_set3 HT5.out (by simp)) (by simp), hl6, HSM.out, dr_set3 HB5.out (Nat.le_refl _)⟩, HSJK.out⟩
end Go.Proofs.Ytihegjjhcfoapaa
