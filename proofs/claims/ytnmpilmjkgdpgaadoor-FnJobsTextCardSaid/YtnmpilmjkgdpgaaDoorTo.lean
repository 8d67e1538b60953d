/-
  The walks of the functions that copy plain data into new memory, and of the sizes. Lengths at most 2^20.
-/
import Derived.Test.YtnmpilmjkgdpgaaDoorNum
import Derived.Deep.RegionHeld3
import Derived.Deep.RegionWith


namespace Go.Proofs.YtnmpilmjkgdpgaaDoor
open Go.RowKit

theorem mkInt (n : Nat) (hn : n ≤ 1048576) (w : World) : (Instr.makeSlice 56 (.int .i64 (n : Int)) (.int .i64 (n : Int))).run Tryd.prog w = .ok (.slice (some ⟨w.heap.size, 0, none⟩) n n) (w.alloc (.cells (madeCells #[.int .i64 0] n) 3)) := by
  obtain ⟨i, hi, hz, hs, hb⟩ := info_parts infoInt
  have h := run_make (P := Tryd.prog) w 56 3 i _ Tryd.underlying56 hi hz .i64 .i64 n n (by omega) (Int.le_refl _) (by rw [hb]; omega) (by omega)
  simp only [Int.toNat_natCast, hs, Nat.mul_one] at h
  exact h

/-- One more cell of a row that is filled from its head. -/
theorem fill_one {cur : Array Value} {done : List Value} {k : Nat} {v : Value} (h : cur.toList.take k = done) (hk : k < cur.size) : (cur.setIfInBounds k v).toList.take (k + 1) = done ++ [v] := by
  rw [Array.toList_setIfInBounds]
  rw [List.take_succ_eq_append_getElem (by simpa using hk)]
  simp only [List.take_set, h, List.getElem_set_self]
  rw [List.set_eq_of_length_le (by rw [← h]; simp; omega)]

/-- What 'toRun' and its like make: a run whose slices lie at the heads of three blocks from B on. -/
structure NR (w : World) (B : Nat) (v : Value) (r : Rn) : Prop where
  form : ∃ g1 g2 g3 c1 c2 c3, B ≤ g1 ∧ g1 < g2 ∧ g2 < g3 ∧ v = rnVal (some ⟨g1, 0, none⟩) r.ended.length r.ended.length (some ⟨g2, 0, none⟩) r.trace.length r.trace.length (some ⟨g3, 0, none⟩) r.switches.length r.switches.length r.high ∧
    w.heap[g1]? = some (.cells c1 3 (0, 0)) ∧ c1.toList = ints r.ended ∧ w.heap[g2]? = some (.cells c2 3 (0, 0)) ∧ c2.toList = ints r.trace ∧ w.heap[g3]? = some (.cells c3 3 (0, 0)) ∧ c3.toList = ints r.switches
  n1 : r.ended.length ≤ 1048576
  n2 : r.trace.length ≤ 1048576
  n3 : r.switches.length ≤ 1048576
  rng : (∀ x ∈ r.ended, I64 x) ∧ (∀ x ∈ r.trace, I64 x) ∧ (∀ x ∈ r.switches, I64 x)

theorem own_blk {w : World} {B E g : Nat} {c : Array Value} {xs : List Value} (hB : B ≤ g) (h : w.heap[g]? = some (.cells c E (0, 0))) (hc : c.toList = xs) : Own w B E (some ⟨g, 0, none⟩) xs :=
  .inr ⟨g, c, rfl, hB, h, by rw [hc]; simp⟩

theorem NR.rr {w : World} {B : Nat} {v : Value} {r : Rn} (h : NR w B v r) : RR w v r := by
  obtain ⟨⟨g1, g2, g3, c1, c2, c3, _, _, _, e, h1, k1, h2, k2, h3, k3⟩, n1, n2, n3, ng⟩ := h
  exact ⟨⟨_, _, _, _, _, _, e, (own_blk (Nat.zero_le _) h1 k1).ri, (own_blk (Nat.zero_le _) h2 k2).ri, (own_blk (Nat.zero_le _) h3 k3).ri⟩, n1, n2, n3, ng⟩
theorem NR.bw {w w' : World} {B : Nat} {v : Value} {r : Rn} (h : NR w B v r) (hb : Bw w w') : NR w' B v r := by
  obtain ⟨⟨g1, g2, g3, c1, c2, c3, a1, a2, a3, e, h1, k1, h2, k2, h3, k3⟩, n1, n2, n3, ng⟩ := h
  exact ⟨⟨g1, g2, g3, c1, c2, c3, a1, a2, a3, e, blk_bw hb h1, k1, blk_bw hb h2, k2, blk_bw hb h3, k3⟩, n1, n2, n3, ng⟩

end Go.Proofs.YtnmpilmjkgdpgaaDoor
