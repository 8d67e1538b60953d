/-
  The walks of the functions that copy, compare, mark and hold slices of jobs and of tasks. Lengths at most 2^20.
-/
import Derived.Test.YtbgfclcnddgboaaMark
namespace Go.Proofs.Ytbgfclcnddgboaa
open Go.RowKit

abbrev zJob : Value := .agg #[.int .i64 0, .int .i64 0, .int .i64 0]
abbrev zTask : Value := .agg #[.int .i64 0, .int .i64 0, .int .i64 0, .int .i64 0, .bool false]
theorem infoJob : (Try.prog.info? 26).map (fun i => (i.zero, i.size, i.bytes)) = some (some zJob, 3, 24) := by kernel_rfl
theorem infoTask : (Try.prog.info? 64).map (fun i => (i.zero, i.size, i.bytes)) = some (some zTask, 5, 40) := by kernel_rfl

theorem mkJob (n : Nat) (hn : n ≤ 1048576) : ∃ C : Array Value, C.size = n * 3 ∧ ∀ w : World, (Instr.makeSlice 24 (.int .i64 (n : Int)) (.int .i64 (n : Int))).run Try.prog w = .ok (.slice (some ⟨w.heap.size, 0, none⟩) n n) (w.alloc (.cells C 26)) := by
  obtain ⟨i, hi, hz, hs, hb⟩ := info_parts infoJob
  refine ⟨madeCells (Value.cells zJob) (n * i.size), by rw [size_madeCells, hs], fun w => ?_⟩
  have h := run_make (P := Try.prog) w 24 26 i _ Try.underlying24 hi hz .i64 .i64 n n (by omega) (Int.le_refl _) (by rw [hb]; omega) (by omega)
  simp only [Int.toNat_natCast] at h
  exact h
theorem mkTask (n : Nat) (hn : n ≤ 1048576) : ∃ C : Array Value, C.size = n * 5 ∧ ∀ w : World, (Instr.makeSlice 23 (.int .i64 (n : Int)) (.int .i64 (n : Int))).run Try.prog w = .ok (.slice (some ⟨w.heap.size, 0, none⟩) n n) (w.alloc (.cells C 64)) := by
  obtain ⟨i, hi, hz, hs, hb⟩ := info_parts infoTask
  refine ⟨madeCells (Value.cells zTask) (n * i.size), by rw [size_madeCells, hs], fun w => ?_⟩
  have h := run_make (P := Try.prog) w 23 64 i _ Try.underlying23 hi hz .i64 .i64 n n (by omega) (Int.le_refl _) (by rw [hb]; omega) (by omega)
  simp only [Int.toNat_natCast] at h
  exact h

set_option maxHeartbeats 400000 in
theorem szJobS_any (ao : Option Addr) (n c : Nat) (left : Int) (w : World) (hn : n ≤ maxLen) (h0 : 0 ≤ left) (h1 : left ≤ 1048576) :
    Calls Try.prog 31 #[.slice ao n c, .int .i64 left] w fun e w' => e = .returned (.int .i64 (if left - n < 0 then -1 else left - n)) ∧ w = w' := by
  unfold maxLen at hn
  by_cases h : left - n < 0
  · have E : (if left - (n : Int) < 0 then (-1 : Int) else left - n) = -1 := if_pos h
    rw [E]; clear E
    go_enter Try.func31, Try.ntmps31
    go_wp2
    go_ret
    exact ⟨rfl, rfl⟩
  · have E : (if left - (n : Int) < 0 then (-1 : Int) else left - n) = left - n := if_neg h
    rw [E]; clear E
    go_enter Try.func31, Try.ntmps31
    go_wp2
    go_ret
    exact ⟨rfl, rfl⟩
set_option maxHeartbeats 400000 in
theorem szTaskS_any (ao : Option Addr) (n c : Nat) (left : Int) (w : World) (hn : n ≤ maxLen) (h0 : 0 ≤ left) (h1 : left ≤ 1048576) :
    Calls Try.prog 30 #[.slice ao n c, .int .i64 left] w fun e w' => e = .returned (.int .i64 (if left - n < 0 then -1 else left - n)) ∧ w = w' := by
  unfold maxLen at hn
  by_cases h : left - n < 0
  · have E : (if left - (n : Int) < 0 then (-1 : Int) else left - n) = -1 := if_pos h
    rw [E]; clear E
    go_enter Try.func30, Try.ntmps30
    go_wp2
    go_ret
    exact ⟨rfl, rfl⟩
  · have E : (if left - (n : Int) < 0 then (-1 : Int) else left - n) = left - n := if_neg h
    rw [E]; clear E
    go_enter Try.func30, Try.ntmps30
    go_wp2
    go_ret
    exact ⟨rfl, rfl⟩

set_option maxHeartbeats 400000 in
theorem toJob_any (x y z : Int) (w : World) :
    Calls Try.prog 65 #[.agg #[.int .i64 x, .int .i64 y, .int .i64 z]] w fun e w' => e = .returned (.agg #[.int .i64 x, .int .i64 y, .int .i64 z]) ∧ Bw w w' := by
  go_enter Try.func65, Try.ntmps65
  go_wp2
  exact bodyPost_ret (v := .agg #[.int .i64 x, .int .i64 y, .int .i64 z]) (by simp [results, Try.results65, go_sem]) rfl ⟨rfl, bw_trans (bw_alloc _ _) (bw_trans (bw_alloc _ _) (bw_alloc _ _))⟩

set_option maxHeartbeats 400000 in
theorem toTask_any (x y z u : Int) (b : Bool) (w : World) :
    Calls Try.prog 64 #[.agg #[.int .i64 x, .int .i64 y, .int .i64 z, .int .i64 u, .bool b]] w fun e w' => e = .returned (.agg #[.int .i64 x, .int .i64 y, .int .i64 z, .int .i64 u, .bool b]) ∧ Bw w w' := by
  go_enter Try.func64, Try.ntmps64
  go_wp2
  exact bodyPost_ret (v := .agg #[.int .i64 x, .int .i64 y, .int .i64 z, .int .i64 u, .bool b]) (by simp [results, Try.results64, go_sem]) rfl ⟨rfl, bw_trans (bw_alloc _ _) (bw_trans (bw_alloc _ _) (bw_alloc _ _))⟩

theorem fill3 {cur : Array Value} {done : List Value} {n : Nat} {a b c : Value} (h : cur.toList.take n = done) (hk : n + 3 ≤ cur.size) :
    (((cur.setIfInBounds n a).setIfInBounds (n + 1) b).setIfInBounds (n + 2) c).toList.take (n + 3) = done ++ [a, b, c] := by
  have h1 := fill_one (v := a) h (by omega)
  have h2 := fill_one (v := b) h1 (by simp; omega)
  have h3 := fill_one (v := c) h2 (by simp; omega)
  simpa using h3
theorem fill5 {cur : Array Value} {done : List Value} {n : Nat} {a b c d e : Value} (h : cur.toList.take n = done) (hk : n + 5 ≤ cur.size) :
    (((((cur.setIfInBounds n a).setIfInBounds (n + 1) b).setIfInBounds (n + 2) c).setIfInBounds (n + 3) d).setIfInBounds (n + 4) e).toList.take (n + 5) = done ++ [a, b, c, d, e] := by
  have h1 := fill3 (a := a) (b := b) (c := c) h (by omega)
  have h2 := fill_one (v := d) h1 (by simp; omega)
  have h3 := fill_one (v := e) h2 (by simp; omega)
  simpa using h3
theorem cell_ex {w : World} {g E : Nat} {cur : Array Value} (h : w.heap[g]? = some (.cells cur E (0, 0))) {j : Nat} (hj : j < cur.size) : ∃ v, w.cell? ⟨g, j, none⟩ = some v := ⟨cur[j], blk_cell h j (by simp [hj])⟩

set_option maxHeartbeats 1600000 in
theorem toJobS_any (ao : Option Addr) (c : Nat) (w : World) (l : List Jb) (hl : l.length ≤ 1048576) (hr : RJ w ao l) :
    Calls Try.prog 34 #[.slice ao l.length c] w fun e w' => e = .returned (.slice (some ⟨w.heap.size, 0, none⟩) l.length l.length) ∧ Bw w w' ∧ ∃ cur, w'.heap[w.heap.size]? = some (.cells cur 26 (0, 0)) ∧ cur.toList = jbs l := by
  have HR := Lib.hid hr
  clear hr
  obtain ⟨C, hC, hmk⟩ := mkJob l.length hl
  have HC := Lib.hid hC
  clear hC
  go_enter Try.func34, Try.ntmps34
  go_wp2
  clear hmk
  go_loopw [4] (fun i wr => ∃ (k : Nat) (cur : Array Value), k ≤ l.length ∧ i = .int .i64 k ∧ Hid (wr.heap[w.heap.size]? = some (.cells cur 26 (0, 0))) ∧ Hid (cur.size = l.length * 3) ∧ Hid (cur.toList.take (k * 3) = jbs (l.take k)) ∧ Bw w wr)
    (fun i _ => l.length - (intOf i).toNat)
  case atStart => exact ⟨0, _, Nat.zero_le _, rfl, heap_alloc_new w _, HC.out, by simp [Hid, jbs], bw_alloc _ _⟩
  case round =>
    obtain ⟨k, cur, hk, rfl, HB, HZ, hx, hbw⟩ := hrel
    by_cases hlt : k < l.length
    · obtain ⟨⟨x, y, z⟩, b, off, hxk, hao, hbs, c0, c1, c2⟩ := HR.out.get hbw hlt
      dsimp only at c0 c1 c2
      have HXK := Lib.hid hxk
      clear hxk
      subst hao
      have hks : k * 3 + 3 ≤ cur.size := by rw [HZ.out]; omega
      go_wp2_with fail
      refine (toJob_any _ _ _ _).mono ?_
      rintro e w1 ⟨rfl, hb1⟩
      clear c0 c1 c2
      have HB1 := Lib.hid (blk_bw hb1 HB.out)
      obtain ⟨o0, e0⟩ := cell_ex HB1.out (j := k * 3) (by omega)
      obtain ⟨o1, e1⟩ := cell_ex HB1.out (j := k * 3 + 1) (by omega)
      obtain ⟨o2, e2⟩ := cell_ex HB1.out (j := k * 3 + 2) (by omega)
      have hfree := fun j => blk_free HB1.out j
      have HKS := Lib.hid hks
      clear hks
      go_wp2
      go_roundw
      case rel => exact ⟨k + 1, _, by omega, by go_num, blk_set (blk_set (blk_set HB1.out (k * 3) (vi x)) (k * 3 + 1) (vi y)) (k * 3 + 2) (vi z), by show _ = _; simp [HZ.out], by
          show _ = _
          rw [show (k + 1) * 3 = k * 3 + 3 from by omega, fill3 hx.out HKS.out, take_snoc HXK.out, jbs_append]; rfl, bw_set (bw_set (bw_set (bw_trans hbw hb1) (by simp) _ _) (by simp) _ _) (by simp) _ _⟩
      case measure => simp [intOf]; omega
    · have hcu : cur.toList = jbs l := by
        have := hx.out
        rw [List.take_of_length_le (by simp [HZ.out]; omega), take_end hlt] at this
        exact this
      have HCU := Lib.hid hcu
      clear hcu
      go_wp2
      go_ret
      exact ⟨rfl, hbw, cur, HB.out, HCU.out⟩

set_option maxHeartbeats 1600000 in
theorem toTaskS_any (ao : Option Addr) (c : Nat) (w : World) (l : List Tk) (hl : l.length ≤ 1048576) (hr : RT w ao l) :
    Calls Try.prog 33 #[.slice ao l.length c] w fun e w' => e = .returned (.slice (some ⟨w.heap.size, 0, none⟩) l.length l.length) ∧ Bw w w' ∧ ∃ cur, w'.heap[w.heap.size]? = some (.cells cur 64 (0, 0)) ∧ cur.toList = tks l := by
  have HR := Lib.hid hr
  clear hr
  obtain ⟨C, hC, hmk⟩ := mkTask l.length hl
  have HC := Lib.hid hC
  clear hC
  go_enter Try.func33, Try.ntmps33
  go_wp2
  clear hmk
  go_loopw [4] (fun i wr => ∃ (k : Nat) (cur : Array Value), k ≤ l.length ∧ i = .int .i64 k ∧ Hid (wr.heap[w.heap.size]? = some (.cells cur 64 (0, 0))) ∧ Hid (cur.size = l.length * 5) ∧ Hid (cur.toList.take (k * 5) = tks (l.take k)) ∧ Bw w wr)
    (fun i _ => l.length - (intOf i).toNat)
  case atStart => exact ⟨0, _, Nat.zero_le _, rfl, heap_alloc_new w _, HC.out, by simp [Hid, tks], bw_alloc _ _⟩
  case round =>
    obtain ⟨k, cur, hk, rfl, HB, HZ, hx, hbw⟩ := hrel
    by_cases hlt : k < l.length
    · obtain ⟨⟨x, y, z, u, q⟩, b, off, hxk, hao, hbs, c0, c1, c2, c3, c4⟩ := HR.out.get hbw hlt
      dsimp only at c0 c1 c2 c3 c4
      have HXK := Lib.hid hxk
      clear hxk
      subst hao
      have hks : k * 5 + 5 ≤ cur.size := by rw [HZ.out]; omega
      go_wp2_with fail
      refine (toTask_any _ _ _ _ _ _).mono ?_
      rintro e w1 ⟨rfl, hb1⟩
      clear c0 c1 c2 c3 c4
      have HB1 := Lib.hid (blk_bw hb1 HB.out)
      obtain ⟨o0, e0⟩ := cell_ex HB1.out (j := k * 5) (by omega)
      obtain ⟨o1, e1⟩ := cell_ex HB1.out (j := k * 5 + 1) (by omega)
      obtain ⟨o2, e2⟩ := cell_ex HB1.out (j := k * 5 + 2) (by omega)
      obtain ⟨o3, e3⟩ := cell_ex HB1.out (j := k * 5 + 3) (by omega)
      obtain ⟨o4, e4⟩ := cell_ex HB1.out (j := k * 5 + 4) (by omega)
      have hfree := fun j => blk_free HB1.out j
      have HKS := Lib.hid hks
      clear hks
      go_wp2
      go_roundw
      case rel => exact ⟨k + 1, _, by omega, by go_num, blk_set (blk_set (blk_set (blk_set (blk_set HB1.out (k * 5) (vi x)) (k * 5 + 1) (vi y)) (k * 5 + 2) (vi z)) (k * 5 + 3) (vi u)) (k * 5 + 4) (.bool q), by show _ = _; simp [HZ.out], by
          show _ = _
          rw [show (k + 1) * 5 = k * 5 + 5 from by omega, fill5 hx.out HKS.out, take_snoc HXK.out, tks_append]; rfl, bw_set (bw_set (bw_set (bw_set (bw_set (bw_trans hbw hb1) (by simp) _ _) (by simp) _ _) (by simp) _ _) (by simp) _ _) (by simp) _ _⟩
      case measure => simp [intOf]; omega
    · have hcu : cur.toList = tks l := by
        have := hx.out
        rw [List.take_of_length_le (by simp [HZ.out]; omega), take_end hlt] at this
        exact this
      have HCU := Lib.hid hcu
      clear hcu
      go_wp2
      go_ret
      exact ⟨rfl, hbw, cur, HB.out, HCU.out⟩
end Go.Proofs.Ytbgfclcnddgboaa
