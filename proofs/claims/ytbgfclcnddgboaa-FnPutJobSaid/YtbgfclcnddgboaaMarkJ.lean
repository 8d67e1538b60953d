/-
  The walks of the functions that mark slices of jobs and of tasks and look whether the marks are held. Lengths at most 2^20.
-/
import Derived.Test.YtbgfclcnddgboaaEq
namespace Go.Proofs.Ytbgfclcnddgboaa
open Go.RowKit

set_option maxHeartbeats 1600000 in
theorem markJobS_any (ao : Option Addr) (E n c : Nat) (k : Int) (w : World) (hn : n ≤ 1048576) (hk0 : 0 ≤ k) (hk1 : k ≤ 100000000) (ho : n = 0 ∨ ∃ g cur, ao = some ⟨g, 0, none⟩ ∧ w.heap[g]? = some (.cells cur E (0, 0)) ∧ n * 3 ≤ cur.size) :
    Calls Try.prog 40 #[.slice ao n c, .int .i64 k] w (MarkEnd w ao E (k + 3 * n) (jbs (marksJ k n))) := by
  rcases Nat.eq_zero_or_pos n with rfl | hpos
  · go_enter Try.func40, Try.ntmps40
    go_wp2
    refine wp_loop_rounds 1 ?_
    rw [rounds_succ]
    go_wp2
    go_ret
    exact ⟨ret_i (by simp), hit_refl _ _, .inl rfl, fun _ => rfl⟩
  · obtain ⟨g, cur0, rfl, hblk, hsz⟩ := ho.resolve_left (by omega)
    have HBLK := Lib.hid hblk
    clear hblk
    go_enter Try.func40, Try.ntmps40
    go_wp2
    go_loopw [1, 5] (fun u i wr => ∃ (m : Nat) (cur : Array Value), m ≤ n ∧ i = .int .i64 m ∧ u = .int .i64 (k + 3 * m) ∧ Hid (wr.heap[g]? = some (.cells cur E (0, 0))) ∧ n * 3 ≤ cur.size ∧ Hid (cur.toList.take (m * 3) = jbs (marksJ k m)) ∧ Hit w wr (some ⟨g, 0, none⟩)) (fun _ i _ => n - (intOf i).toNat)
    case atStart => exact ⟨0, cur0, Nat.zero_le _, rfl, by simp, HBLK.out, hsz, by simp [Hid, marksJ, jbs], hit_refl _ _⟩
    case round =>
      obtain ⟨m, cur, hm, rfl, rfl, hb, hs, hx, hh⟩ := hrel
      by_cases hlt : m < n
      · have hmc : m * 3 + 3 ≤ cur.size := by omega
        obtain ⟨o0, e0⟩ := cell_ex hb.out (j := m * 3) (by omega)
        obtain ⟨o1, e1⟩ := cell_ex hb.out (j := m * 3 + 1) (by omega)
        obtain ⟨o2, e2⟩ := cell_ex hb.out (j := m * 3 + 2) (by omega)
        have hfree := fun j => blk_free hb.out j
        have HMC := Lib.hid hmc
        clear hmc
        go_wp2
        go_roundw
        case rel => exact ⟨m + 1, _, by omega, by go_num, by simp; omega, (blk_set (blk_set (blk_set hb.out (m * 3) (vi (k + 3 * m))) (m * 3 + 1) (vi (k + 3 * m + 1))) (m * 3 + 2) (vi (k + 3 * m + 1 + 1))), by simpa using hs, by
            show _ = _
            rw [show (m + 1) * 3 = m * 3 + 3 from by omega, fill3 hx.out HMC.out, marksJ, jbs_append]; rfl, (hit_set (hit_set (hit_set hh _ _) _ _) _ _)⟩
        case measure => simp [intOf]; omega
      · obtain rfl : m = n := by omega
        go_wp2
        go_ret
        exact ⟨rfl, hh, .inr ⟨g, cur, rfl, Nat.zero_le _, hb.out, by rw [jbs_length, marksJ_len]; exact hx.out⟩, fun e => by have := congrArg List.length e; rw [jbs_length, marksJ_len] at this; simp at this; omega⟩

end Go.Proofs.Ytbgfclcnddgboaa
