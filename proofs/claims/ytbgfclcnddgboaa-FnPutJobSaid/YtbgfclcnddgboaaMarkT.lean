/-
  The walks of the functions that mark slices of jobs and of tasks and look whether the marks are held. Lengths at most 2^20.
-/
import Derived.Test.YtbgfclcnddgboaaEq
namespace Go.Proofs.Ytbgfclcnddgboaa
open Go.RowKit

set_option maxHeartbeats 1600000 in
theorem markTaskS_any (ao : Option Addr) (E n c : Nat) (k : Int) (w : World) (hn : n ≤ 1048576) (hk0 : 0 ≤ k) (hk1 : k ≤ 100000000) (ho : n = 0 ∨ ∃ g cur, ao = some ⟨g, 0, none⟩ ∧ w.heap[g]? = some (.cells cur E (0, 0)) ∧ n * 5 ≤ cur.size) :
    Calls Try.prog 39 #[.slice ao n c, .int .i64 k] w (MarkEnd w ao E (k + 5 * n) (tks (marksT k n))) := by
  rcases Nat.eq_zero_or_pos n with rfl | hpos
  · go_enter Try.func39, Try.ntmps39
    go_wp2
    refine wp_loop_rounds 1 ?_
    rw [rounds_succ]
    go_wp2
    go_ret
    exact ⟨ret_i (by simp), hit_refl _ _, .inl rfl, fun _ => rfl⟩
  · obtain ⟨g, cur0, rfl, hblk, hsz⟩ := ho.resolve_left (by omega)
    have HBLK := Lib.hid hblk
    clear hblk
    go_enter Try.func39, Try.ntmps39
    go_wp2
    go_loopw [1, 5] (fun u i wr => ∃ (m : Nat) (cur : Array Value), m ≤ n ∧ i = .int .i64 m ∧ u = .int .i64 (k + 5 * m) ∧ Hid (wr.heap[g]? = some (.cells cur E (0, 0))) ∧ n * 5 ≤ cur.size ∧ Hid (cur.toList.take (m * 5) = tks (marksT k m)) ∧ Hit w wr (some ⟨g, 0, none⟩)) (fun _ i _ => n - (intOf i).toNat)
    case atStart => exact ⟨0, cur0, Nat.zero_le _, rfl, by simp, HBLK.out, hsz, by simp [Hid, marksT, tks], hit_refl _ _⟩
    case round =>
      obtain ⟨m, cur, hm, rfl, rfl, hb, hs, hx, hh⟩ := hrel
      by_cases hlt : m < n
      · have hmc : m * 5 + 5 ≤ cur.size := by omega
        obtain ⟨o0, e0⟩ := cell_ex hb.out (j := m * 5) (by omega)
        obtain ⟨o1, e1⟩ := cell_ex hb.out (j := m * 5 + 1) (by omega)
        obtain ⟨o2, e2⟩ := cell_ex hb.out (j := m * 5 + 2) (by omega)
        obtain ⟨o3, e3⟩ := cell_ex hb.out (j := m * 5 + 3) (by omega)
        obtain ⟨o4, e4⟩ := cell_ex hb.out (j := m * 5 + 4) (by omega)
        have hfree := fun j => blk_free hb.out j
        have HMC := Lib.hid hmc
        clear hmc
        go_wp2
        go_roundw
        case rel => exact ⟨m + 1, _, by omega, by go_num, by simp; omega, (blk_set (blk_set (blk_set (blk_set (blk_set hb.out (m * 5) (vi (k + 5 * m))) (m * 5 + 1) (vi (k + 5 * m + 1))) (m * 5 + 2) (vi (k + 5 * m + 1 + 1))) (m * 5 + 3) (vi (k + 5 * m + 1 + 1 + 1))) (m * 5 + 4) (.bool ((k + 5 * m + 1 + 1 + 1 + 1) % 3 == 0))), by simpa using hs, by
            show _ = _
            rw [show (m + 1) * 5 = m * 5 + 5 from by omega, fill5 hx.out HMC.out, marksT, tks_append]; rfl, (hit_set (hit_set (hit_set (hit_set (hit_set hh _ _) _ _) _ _) _ _) _ _)⟩
        case measure => simp [intOf]; omega
      · obtain rfl : m = n := by omega
        go_wp2
        go_ret
        exact ⟨rfl, hh, .inr ⟨g, cur, rfl, Nat.zero_le _, hb.out, by rw [tks_length, marksT_len]; exact hx.out⟩, fun e => by have := congrArg List.length e; rw [tks_length, marksT_len] at this; simp at this; omega⟩

end Go.Proofs.Ytbgfclcnddgboaa
