/-
  The walks of the draws of chapter 6 that hand tasks and jobs on.
-/
import Derived.Test.YtbgfclcnddgboaaDrC
namespace Go.Proofs.Ytbgfclcnddgboaa
open Go.RowKit

/-- Jobs that the call made. -/
def Js (w w' : World) (bo : Option Addr) (d : Nat) (js : List Jb) : Prop := w'.ownsRow w.heap.size 26 3 (.slice bo js.length d) js.length (jbs js) ∧ js.length ≤ 61 ∧ (∀ j ∈ js, Sj j) ∧ Bw w w'
def DrawNeedOfEnd (w : World) (e : Ending) (w' : World) : Prop := ∃ (bo : Option Addr) (d : Nat) (js : List Jb) (t : Int), e = .returned (.tuple #[.slice bo js.length d, .int .i64 t]) ∧ Js w w' bo d js
def DrawPutJobEnd (w : World) (e : Ending) (w' : World) : Prop := ∃ ao c l bo d js j, e = .returned (.tuple #[.slice ao l.length c, .slice bo js.length d, jbVal j]) ∧ TJ w w' ao c l bo d js ∧ Sj j
def DrawDueAtEnd (w : World) (e : Ending) (w' : World) : Prop := ∃ ao c l j, e = .returned (.tuple #[.slice ao l.length c, jbVal j]) ∧ Ts w w' ao c l ∧ Sj j

theorem row_below {w w' : World} {lo hi base E size n : Nat} {v : Value} {xs : List Value} (h : w.ownsRow base E size v n xs) (hh : HitR lo hi w w') (hb : ∀ k, v.ownBlock = some k → k < lo) : w'.ownsRow base E size v n xs := by
  refine ⟨h.1, ?_⟩
  rcases h.2 with hn | ⟨g, cap, cur, rfl, hg, hk, rest⟩
  · exact .inl hn
  · exact .inr ⟨g, cap, cur, rfl, hg, blk_hit hh hk (.inl (hb g rfl)), rest⟩

theorem dr_set3 {w w' : World} {g : Nat} {a b c : Value} (h : Bw w w') (hg : w.heap.size ≤ g) : Bw w (((w'.setCell ⟨g, 0, none⟩ a).setCell ⟨g, 1, none⟩ b).setCell ⟨g, 2, none⟩ c) := bw_set (bw_set (bw_set h hg _ _) hg _ _) hg _ _
theorem row_set3 {w : World} {base E size n g : Nat} {v a b c : Value} {xs : List Value} (h : w.ownsRow base E size v n xs) (hg : g < base) : (((w.setCell ⟨g, 0, none⟩ a).setCell ⟨g, 1, none⟩ b).setCell ⟨g, 2, none⟩ c).ownsRow base E size v n xs := by
  have hne : ∀ k, v.ownBlock = some k → k ≠ g := fun k hk => by have := (h.lt k hk).1; omega
  exact row_oth (row_oth (row_oth h hne) hne) hne
abbrev box0 : Obj := .cells #[.int .i64 0, .int .i64 0, .int .i64 0] 26

set_option maxRecDepth 100000 in
set_option maxHeartbeats 3200000 in
theorem DrawPutJob_any {w0 w : World} {v : Value} (hv : RawB w0 v) (hb : Bw w0 w) : Calls Try.prog 15 #[v] w (DrawPutJobEnd w) := by
  have HV := Lib.hid hv
  clear hv
  go_enter Try.func15, Try.ntmps15
  go_wp2_with fail
  refine (l6Case_any HV.out (bw_trans hb (bw_alloc _ _))).mono ?_
  rintro e w1 ⟨ao, c, l, bj, d, js, rfl, ⟨hown, hl6, hsm, hj, hj61, hsj, hb1⟩⟩
  have hz1 := hb1.size
  simp only [World.size_alloc] at hz1
  have HT1 := Lib.hid hown
  have HSM := Lib.hid hsm
  have HJ1 := Lib.hid hj
  have HSJ := Lib.hid hsj
  have HLT := Lib.hid (row_blk hj)
  have HLS := Lib.hid (row_blk hown)
  have RB1 := Lib.hid (blk_bw hb1 (heap_alloc_new w box0))
  clear hj hsj hown hsm
  go_wp2_with fail
  refine (l11Open_any HV.out (bw_trans hb (bw_trans (bw_alloc _ _) hb1))).mono ?_
  rintro e w2 ⟨rfl, hrd, hb2⟩
  have hz2 := hb2.size
  have hG := hrd.lt
  have HT2 := Lib.hid (row_bw HT1.out hb2)
  have HJ2 := Lib.hid (row_bw HJ1.out hb2)
  have HR2 := Lib.hid hrd
  have HB2 := Lib.hid (bw_trans (bw_trans (bw_alloc _ _) hb1) hb2)
  have RB2 := Lib.hid (blk_bw hb2 RB1.out)
  clear hrd
  go_wp2_with fail
  refine (num_any _ w1.heap.size w1.heap.size _ w2.heap.size [0, 1, 2, 5] 4 (HR2.out.bw (bw_alloc _ _)) (by omega) (by simp) (by simp) (by omega) (ri_lit _ (heap_alloc_new w2 _) rfl)).mono ?_
  rintro e w3 ⟨x3, rfl, hx3, hd3⟩
  have hz3 := hd3.2.size
  simp only [World.size_alloc] at hz3
  have hb3 : -1000 ≤ x3 ∧ x3 ≤ 1000 := by simp at hx3; omega
  have HR3 := Lib.hid hd3.1
  have HB3 := Lib.hid (show Bw w w3 from bw_hit (bw_trans HB2.out (bw_alloc _ _)) hd3.2 (by omega))
  have HT3 := Lib.hid (row_below (HT2.out.alloc _) hd3.2 HLS.out)
  have HJ3 := Lib.hid (row_below (HJ2.out.alloc _) hd3.2 HLT.out)
  have RB3 := Lib.hid (blk_hit hd3.2 (blk_bw (bw_alloc _ _) RB2.out) (.inl (by omega)))
  clear hd3 hx3
  go_wp2_with fail
  refine (num_any _ w1.heap.size w1.heap.size _ w3.heap.size [30, 55, 7, 100, 0, 201] 6 (HR3.out.bw (bw_alloc _ _)) (by omega) (by simp) (by simp) (by omega) (ri_lit _ (heap_alloc_new w3 _) rfl)).mono ?_
  rintro e w4 ⟨x4, rfl, hx4, hd4⟩
  have hz4 := hd4.2.size
  simp only [World.size_alloc] at hz4
  have hb4 : -1000 ≤ x4 ∧ x4 ≤ 1000 := by simp at hx4; omega
  have HR4 := Lib.hid hd4.1
  have HB4 := Lib.hid (show Bw w w4 from bw_hit (bw_trans HB3.out (bw_alloc _ _)) hd4.2 (by omega))
  have HT4 := Lib.hid (row_below (HT3.out.alloc _) hd4.2 HLS.out)
  have HJ4 := Lib.hid (row_below (HJ3.out.alloc _) hd4.2 HLT.out)
  have RB4 := Lib.hid (blk_hit hd4.2 (blk_bw (bw_alloc _ _) RB3.out) (.inl (by omega)))
  clear hd4 hx4
  go_wp2_with fail
  refine (num_any _ w1.heap.size w1.heap.size _ w4.heap.size [1, 2, 1, 0] 4 (HR4.out.bw (bw_alloc _ _)) (by omega) (by simp) (by simp) (by omega) (ri_lit _ (heap_alloc_new w4 _) rfl)).mono ?_
  rintro e w5 ⟨x5, rfl, hx5, hd5⟩
  have hz5 := hd5.2.size
  simp only [World.size_alloc] at hz5
  have hb5 : -1000 ≤ x5 ∧ x5 ≤ 1000 := by simp at hx5; omega
  have HR5 := Lib.hid hd5.1
  have HB5 := Lib.hid (show Bw w w5 from bw_hit (bw_trans HB4.out (bw_alloc _ _)) hd5.2 (by omega))
  have HT5 := Lib.hid (row_below (HT4.out.alloc _) hd5.2 HLS.out)
  have HJ5 := Lib.hid (row_below (HJ4.out.alloc _) hd5.2 HLT.out)
  have RB5 := Lib.hid (blk_hit hd5.2 (blk_bw (bw_alloc _ _) RB4.out) (.inl (by omega)))
  clear hd5 hx5
  have s0 := blk_cell RB5.out 0 rfl
  have s1 := blk_cell RB5.out 1 rfl
  have s2 := blk_cell RB5.out 2 rfl
  have fr := fun j => blk_free RB5.out j
  go_wp2
  refine bodyPost_ret (v := .tuple #[.slice ao l.length c, .slice bj js.length d, .agg #[.int .i64 x3, .int .i64 x4, .int .i64 x5]]) (by simp [results, Try.results15, go_sem, s0, s1, s2]) rfl ?_
  exact ⟨ao, c, l, bj, d, js, ⟨x3, x4, x5⟩, rfl, ⟨Go.Joins.ownsRow_le (row_set3 HT5.out (by simp)) (by simp), hl6, HSM.out, Go.Joins.ownsRow_le (row_set3 HJ5.out (by simp)) (by simp), hj61, HSJ.out, dr_set3 HB5.out (Nat.le_refl _)⟩, ⟨hb3, hb4, hb5⟩⟩

end Go.Proofs.Ytbgfclcnddgboaa
