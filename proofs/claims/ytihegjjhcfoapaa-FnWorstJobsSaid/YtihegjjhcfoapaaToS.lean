/-
  The walks of the functions that copy, compare, mark and hold slices of jobs and of tasks. Lengths at most 2^20.
-/
import Derived.Test.YtihegjjhcfoapaaMark
namespace Go.Proofs.Ytihegjjhcfoapaa
open Go.RowKit

abbrev zJob : Value := .agg #[.int .i64 0, .int .i64 0, .int .i64 0]
abbrev zTask : Value := .agg #[.int .i64 0, .int .i64 0, .int .i64 0, .int .i64 0, .bool false]
theorem infoJob : (Try.prog.info? 38).map (fun i => (i.zero, i.size, i.bytes)) = some (some zJob, 3, 24) := by kernel_rfl
theorem infoTask : (Try.prog.info? 45).map (fun i => (i.zero, i.size, i.bytes)) = some (some zTask, 5, 40) := by kernel_rfl

theorem mkJob (n : Nat) (hn : n ≤ 1048576) : ∃ C : Array Value, C.size = n * 3 ∧ ∀ w : World, (Instr.makeSlice 33 (.int .i64 (n : Int)) (.int .i64 (n : Int))).run Try.prog w = .ok (.slice (some ⟨w.heap.size, 0, none⟩) n n) (w.alloc (.cells C 38)) := by
  obtain ⟨i, hi, hz, hs, hb⟩ := info_parts infoJob
  refine ⟨madeCells (Value.cells zJob) (n * i.size), by rw [size_madeCells, hs], fun w => ?_⟩
  have h := run_make (P := Try.prog) w 33 38 i _ Try.underlying33 hi hz .i64 .i64 n n (by omega) (Int.le_refl _) (by rw [hb]; omega) (by omega)
  simp only [Int.toNat_natCast] at h
  exact h
theorem mkTask (n : Nat) (hn : n ≤ 1048576) : ∃ C : Array Value, C.size = n * 5 ∧ ∀ w : World, (Instr.makeSlice 23 (.int .i64 (n : Int)) (.int .i64 (n : Int))).run Try.prog w = .ok (.slice (some ⟨w.heap.size, 0, none⟩) n n) (w.alloc (.cells C 45)) := by
  obtain ⟨i, hi, hz, hs, hb⟩ := info_parts infoTask
  refine ⟨madeCells (Value.cells zTask) (n * i.size), by rw [size_madeCells, hs], fun w => ?_⟩
  have h := run_make (P := Try.prog) w 23 45 i _ Try.underlying23 hi hz .i64 .i64 n n (by omega) (Int.le_refl _) (by rw [hb]; omega) (by omega)
  simp only [Int.toNat_natCast] at h
  exact h

theorem fill3 {cur : Array Value} {done : List Value} {n : Nat} {a b c : Value} (h : cur.toList.take n = done) (hk : n + 3 ≤ cur.size) :
    (((cur.setIfInBounds n a).setIfInBounds (n + 1) b).setIfInBounds (n + 2) c).toList.take (n + 3) = done ++ [a, b, c] := by
  have h1 := fill_one (v := a) h (by omega)
  have h2 := fill_one (v := b) h1 (by simp; omega)
  have h3 := fill_one (v := c) h2 (by simp; omega)
  simpa using h3
theorem fill5 {cur : Array Value} {done : List Value} {n : Nat} {a b c d e : Value} (h : cur.toList.take n = done) (hk : n + 5 ≤ cur.size) :
    (((((cur.setIfInBounds n a).setIfInBounds (n + 1) b).setIfInBounds (n + 2) c).setIfInBounds (n + 3) d).setIfInBounds (n + 4) e).toList.take (n + 5) = done ++ [a, b, c, d, e] := by
  have h1 := fill3 (a := a) (b := b) (c := c) h (by omega)
  have h2 := fill_one (v := d) h1 (by simp; omega)
  have h3 := fill_one (v := e) h2 (by simp; omega)
  simpa using h3
theorem cell_ex {w : World} {g E : Nat} {cur : Array Value} (h : w.heap[g]? = some (.cells cur E (0, 0))) {j : Nat} (hj : j < cur.size) : ∃ v, w.cell? ⟨g, j, none⟩ = some v := ⟨cur[j], blk_cell h j (by simp [hj])⟩

end Go.Proofs.Ytihegjjhcfoapaa
