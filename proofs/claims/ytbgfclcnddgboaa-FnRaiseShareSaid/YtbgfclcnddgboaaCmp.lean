/-
  The walks of MakeShare, ShareValid and CompareShares at shares in lowest terms.
-/
import Derived.Test.YtbgfclcnddgboaaGF
import Derived.Test.YtbgfclcnddgboaaDm

namespace Go.Proofs.Ytbgfclcnddgboaa
open Go.RowKit


set_option maxHeartbeats 800000 in
theorem MakeShare_good (a : Fr) (w : World) (hg : Good a) (hp : a.p ≤ 100000000) (hq : a.q ≤ 100000000) :
    Calls Try.prog 84 #[.int .i64 (a.p : Int), .int .i64 (a.q : Int)] w fun e w' => e = .returned (.tuple #[frV a, .bool true]) ∧ Bw w w' := by
  have hq0 := hg.1
  have hr := good_red hg
  have d0 : decide ((a.p : Int) < 0) = false := decide_eq_false (by omega)
  have d1 : decide (1000000000 < (a.p : Int)) = false := decide_eq_false (by omega)
  have d2 : decide ((a.q : Int) < 1) = false := decide_eq_false (by omega)
  have d3 : decide (1000000000 < (a.q : Int)) = false := decide_eq_false (by omega)
  have HG := Lib.hid hg
  have HR := Lib.hid hr
  clear hg hr
  go_enter Try.func84, Try.ntmps84
  go_wp2_with fail
  refine (reduced_any a.p a.q _ _ rfl rfl _ hq0 (by omega) (by omega)).mono ?_
  rintro e w1 ⟨rfl, hb1⟩
  rw [HR.out]
  have B1 := Lib.hid (box_last hb1)
  have s0 := blk_cell B1.out 0 rfl
  have s1 := blk_cell B1.out 1 rfl
  have fr := fun j => blk_free B1.out j
  go_wp2
  refine bodyPost_ret (v := .tuple #[frV a, .bool true]) (by simp [results, Try.results84, go_sem, s0, s1]) rfl ?_
  exact ⟨rfl, dr_set2 (bw_trans (bw_alloc _ _) hb1) (Nat.le_refl _)⟩
set_option maxHeartbeats 800000 in
theorem ShareValid_good (a : Fr) (w : World) (hg : Good a) (hp : a.p ≤ 100000000) (hq : a.q ≤ 100000000) :
    Calls Try.prog 57 #[frV a] w fun e w' => e = .returned (.bool true) ∧ Bw w w' := by
  have HG := Lib.hid hg
  clear hg
  go_enter Try.func57, Try.ntmps57
  go_wp2_with fail
  refine (MakeShare_good a _ HG.out hp hq).mono ?_
  rintro e w1 ⟨rfl, hb1⟩
  have B1 := Lib.hid (box_last hb1)
  have s0 := blk_cell B1.out 0 rfl
  have s1 := blk_cell B1.out 1 rfl
  have hE := fun W => eqlSh (a.p : Int) (a.q : Int) W
  have sl := blk_lt B1.out
  go_wp2
  go_ret
  exact ⟨rfl, bw_trans (bw_trans (bw_alloc _ _) hb1) (bw_alloc _ _)⟩
def LeZero (w : World) (e : Ending) (w' : World) : Prop := ∃ n : Int, n ≤ 0 ∧ e = .returned (.int .i64 n) ∧ Bw w w'
set_option maxHeartbeats 800000 in
theorem Compare_le (x y : Int) (w : World) (h : x ≤ y) : Calls Try.prog 58 #[.int .i64 x, .int .i64 y] w (LeZero w) := by
  by_cases hlt : x < y
  · have d0 : decide (x < y) = true := decide_eq_true hlt
    go_enter Try.func58, Try.ntmps58
    go_wp2
    go_ret
    exact ⟨-1, by omega, rfl, Bw.refl _⟩
  · obtain rfl : x = y := by omega
    have d0 : decide (x < x) = false := by simp
    go_enter Try.func58, Try.ntmps58
    go_wp2
    go_ret
    exact ⟨0, by omega, rfl, Bw.refl _⟩
set_option maxHeartbeats 1600000 in
theorem CompareShares_le (a b : Fr) (w : World) (ha : Good a) (hb : Good b) (hap : a.p ≤ 100000000) (haq : a.q ≤ 100000000) (hbp : b.p ≤ 100000000) (hbq : b.q ≤ 100000000) (hle : a.p * b.q ≤ b.p * a.q) :
    Calls Try.prog 25 #[frV a, frV b] w (LeZero w) := by
  have x1b := Nat.mul_le_mul hap hbq
  have x2b := Nat.mul_le_mul hbp haq
  obtain ⟨X, hX⟩ : ∃ X, a.p * b.q = X := ⟨_, rfl⟩
  obtain ⟨Y, hY⟩ : ∃ Y, b.p * a.q = Y := ⟨_, rfl⟩
  have hXi : (a.p : Int) * (b.q : Int) = (X : Int) := by rw [← hX]; simp
  have hYi : (b.p : Int) * (a.q : Int) = (Y : Int) := by rw [← hY]; simp
  rw [hX, hY] at hle
  rw [hX] at x1b
  rw [hY] at x2b
  have w1' := IntWalk.i64_in (X : Int) (by omega)
  have w2' := IntWalk.i64_in (Y : Int) (by omega)
  clear hX hY
  have HA := Lib.hid ha
  have HB := Lib.hid hb
  clear ha hb
  have tok : True := trivial
  go_enter Try.func25, Try.ntmps25
  go_wp2_with fail
  refine (ShareValid_good a _ HA.out hap haq).mono ?_
  rintro e w1 ⟨rfl, hb1⟩
  have B := Lib.hid (box_two hb1)
  have hw1 := bw_trans (bw_trans (bw_alloc _ _) (bw_alloc _ _)) hb1
  have s0 := blk_cell B.out.1 0 rfl
  have s1 := blk_cell B.out.1 1 rfl
  have t0 := blk_cell B.out.2 0 rfl
  have t1 := blk_cell B.out.2 1 rfl
  go_wp2_with fail
  refine (ShareValid_good b _ HB.out hbp hbq).mono ?_
  rintro e w2 ⟨rfl, hb2⟩
  have s0 := blk_cell (blk_bw hb2 B.out.1) 0 rfl
  have s1 := blk_cell (blk_bw hb2 B.out.1) 1 rfl
  have t0 := blk_cell (blk_bw hb2 B.out.2) 0 rfl
  have t1 := blk_cell (blk_bw hb2 B.out.2) 1 rfl
  go_wp2_with fail
  refine (Compare_le (X : Int) (Y : Int) _ (by omega)).mono ?_
  rintro e w3 ⟨n, hn, rfl, hb3⟩
  go_wp2
  go_ret
  exact ⟨n, hn, rfl, bw_trans (bw_trans hw1 hb2) hb3⟩
end Go.Proofs.Ytbgfclcnddgboaa
