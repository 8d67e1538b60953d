/-
  The walks of the functions that copy plain data into new memory, and of the sizes. Lengths at most 2^20.
-/
import Derived.Test.YtaadlgpglfpmpaaDoorNum
import Derived.Deep.RegionHeld3
import Derived.Deep.RegionWith


namespace Go.Proofs.YtaadlgpglfpmpaaDoor
open Go.RowKit

theorem mkInt (n : Nat) (hn : n ≤ 1048576) (w : World) : (Instr.makeSlice 23 (.int .i64 (n : Int)) (.int .i64 (n : Int))).run Tryd.prog w = .ok (.slice (some ⟨w.heap.size, 0, none⟩) n n) (w.alloc (.cells (madeCells #[.int .i64 0] n) 3)) := by
  obtain ⟨i, hi, hz, hs, hb⟩ := info_parts infoInt
  have h := run_make (P := Tryd.prog) w 23 3 i _ Tryd.underlying23 hi hz .i64 .i64 n n (by omega) (Int.le_refl _) (by rw [hb]; omega) (by omega)
  simp only [Int.toNat_natCast, hs, Nat.mul_one] at h
  exact h

/-- One more cell of a row that is filled from its head. -/
theorem fill_one {cur : Array Value} {done : List Value} {k : Nat} {v : Value} (h : cur.toList.take k = done) (hk : k < cur.size) : (cur.setIfInBounds k v).toList.take (k + 1) = done ++ [v] := by
  rw [Array.toList_setIfInBounds]
  rw [List.take_succ_eq_append_getElem (by simpa using hk)]
  simp only [List.take_set, h, List.getElem_set_self]
  rw [List.set_eq_of_length_le (by rw [← h]; simp; omega)]

set_option maxHeartbeats 800000 in
theorem toIntS_any (ao : Option Addr) (c : Nat) (w : World) (l : List Int) (hl : l.length ≤ 1048576) (hr : RI w ao l) :
    Calls Tryd.prog 55 #[.slice ao l.length c] w fun e w' => e = .returned (.slice (some ⟨w.heap.size, 0, none⟩) l.length l.length) ∧ Bw w w' ∧ ∃ cur, w'.heap[w.heap.size]? = some (.cells cur 3 (0, 0)) ∧ cur.toList = ints l := by
  have HR := Lib.hid hr
  clear hr
  have hmk := mkInt l.length hl
  go_enter Tryd.func55, Tryd.ntmps55
  go_wp2
  clear hmk
  go_loopw [4] (fun i wr => ∃ (k : Nat) (cur : Array Value), k ≤ l.length ∧ i = .int .i64 k ∧ wr.heap[w.heap.size]? = some (.cells cur 3 (0, 0)) ∧ cur.size = l.length ∧ Hid (cur.toList.take k = ints (l.take k)) ∧ Bw w wr)
    (fun i _ => l.length - (intOf i).toNat)
  case atStart => exact ⟨0, _, Nat.zero_le _, rfl, heap_alloc_new w _, by simp [madeCells], by simp [Hid, ints], bw_alloc _ _⟩
  case round =>
    obtain ⟨k, cur, hk, rfl, hblk, hcs, hx, hbw⟩ := hrel
    have HB := Lib.hid hblk
    have HC := Lib.hid hcs
    clear hblk hcs
    by_cases hlt : k < l.length
    · obtain ⟨x, b, off, hxk, hao, hbs, hcell⟩ := HR.out.get hbw hlt
      have HX := Lib.hid hxk
      clear hxk
      subst hao
      have hk2 : k < cur.size := by rw [HC.out]; exact hlt
      have hold := blk_cell HB.out k (v := cur[k]) (by simp [hk2])
      have hfree := blk_free HB.out k
      obtain ⟨vo, HVO⟩ : ∃ v, Hid (cur[k] = v) := ⟨cur[k], rfl⟩
      rw [HVO.out] at hold
      go_wp2
      go_roundw
      case rel => exact ⟨k + 1, cur.setIfInBounds k (vi x), by omega, by go_num, heap_setCell_same _ _ _ _ _ _ HB.out, by simp [HC.out], by
          show _ = _
          rw [fill_one hx.out hk2, take_snoc HX.out, ints_append]; rfl, hbw.setCell (by simp) _⟩
      case measure => simp [intOf]; omega
    · have hcu : cur.toList = ints l := by
        have := hx.out
        rw [List.take_of_length_le (by simp [HC.out]; omega), take_end hlt] at this
        exact this
      have HCU := Lib.hid hcu
      clear hcu
      go_wp2
      go_ret
      exact ⟨rfl, hbw, cur, HB.out, HCU.out⟩

/-- What 'toRun' and its like make: a run whose slices lie at the heads of three blocks from B on. -/
structure NR (w : World) (B : Nat) (v : Value) (r : Rn) : Prop where
  form : ∃ g1 g2 g3 c1 c2 c3, B ≤ g1 ∧ g1 < g2 ∧ g2 < g3 ∧ v = rnVal (some ⟨g1, 0, none⟩) r.ended.length r.ended.length (some ⟨g2, 0, none⟩) r.trace.length r.trace.length (some ⟨g3, 0, none⟩) r.switches.length r.switches.length r.high ∧
    w.heap[g1]? = some (.cells c1 3 (0, 0)) ∧ c1.toList = ints r.ended ∧ w.heap[g2]? = some (.cells c2 3 (0, 0)) ∧ c2.toList = ints r.trace ∧ w.heap[g3]? = some (.cells c3 3 (0, 0)) ∧ c3.toList = ints r.switches
  n1 : r.ended.length ≤ 1048576
  n2 : r.trace.length ≤ 1048576
  n3 : r.switches.length ≤ 1048576
  rng : (∀ x ∈ r.ended, I64 x) ∧ (∀ x ∈ r.trace, I64 x) ∧ (∀ x ∈ r.switches, I64 x)

theorem own_blk {w : World} {B E g : Nat} {c : Array Value} {xs : List Value} (hB : B ≤ g) (h : w.heap[g]? = some (.cells c E (0, 0))) (hc : c.toList = xs) : Own w B E (some ⟨g, 0, none⟩) xs :=
  .inr ⟨g, c, rfl, hB, h, by rw [hc]; simp⟩

theorem NR.rr {w : World} {B : Nat} {v : Value} {r : Rn} (h : NR w B v r) : RR w v r := by
  obtain ⟨⟨g1, g2, g3, c1, c2, c3, _, _, _, e, h1, k1, h2, k2, h3, k3⟩, n1, n2, n3, ng⟩ := h
  exact ⟨⟨_, _, _, _, _, _, e, (own_blk (Nat.zero_le _) h1 k1).ri, (own_blk (Nat.zero_le _) h2 k2).ri, (own_blk (Nat.zero_le _) h3 k3).ri⟩, n1, n2, n3, ng⟩
theorem NR.bw {w w' : World} {B : Nat} {v : Value} {r : Rn} (h : NR w B v r) (hb : Bw w w') : NR w' B v r := by
  obtain ⟨⟨g1, g2, g3, c1, c2, c3, a1, a2, a3, e, h1, k1, h2, k2, h3, k3⟩, n1, n2, n3, ng⟩ := h
  exact ⟨⟨g1, g2, g3, c1, c2, c3, a1, a2, a3, e, blk_bw hb h1, k1, blk_bw hb h2, k2, blk_bw hb h3, k3⟩, n1, n2, n3, ng⟩

set_option maxHeartbeats 800000 in
theorem toRun_any {w : World} {v : Value} {r : Rn} (hv : RR w v r) : Calls Tryd.prog 27 #[v] w fun e w' => ∃ u, e = .returned u ∧ NR w' w.heap.size u r ∧ Bw w w' := by
  obtain ⟨⟨a1, c1, a2, c2, a3, c3, rfl, h1, h2, h3⟩, n1, n2, n3, ng⟩ := hv
  have H1 := Lib.hid h1
  have H2 := Lib.hid h2
  have H3 := Lib.hid h3
  clear h1 h2 h3
  go_enter Tryd.func27, Tryd.ntmps27
  go_wp2_with fail
  refine (toIntS_any _ _ _ _ n1 (H1.out.bw ?_)).mono ?_
  · exact bw_trans (bw_alloc _ _) (bw_trans (bw_alloc _ _) (bw_alloc _ _))
  rintro e w1 ⟨rfl, hb1, cur1, hc1, hcl1⟩
  have hlt1 : w.heap.size + 3 < w1.heap.size := by have := blk_lt hc1; simpa using this
  have HC1 := Lib.hid hc1
  have HCL1 := Lib.hid hcl1
  clear hc1 hcl1
  obtain ⟨x1, x2, x3⟩ := box_three hb1
  have X1 := Lib.hid x1
  have X2 := Lib.hid x2
  have X3 := Lib.hid x3
  clear x1 x2 x3
  have p1 := blk_cell X1.out 1 rfl
  have q1 := blk_cell X3.out 0 rfl
  have f1 := blk_free X3.out 0
  have hw1 := bw_trans (bw_trans (bw_alloc _ _) (bw_trans (bw_alloc _ _) (bw_alloc _ _))) hb1
  have hz1 : w.heap.size + 3 ≤ w1.heap.size := by have := hb1.size; simp at this; omega
  go_wp2_with fail
  refine (toIntS_any _ _ _ _ n2 (H2.out.bw ?_)).mono ?_
  · exact bw_set hw1 (by omega) _ _
  rintro e w2 ⟨rfl, hb2, cur2, hc2, hcl2⟩
  clear p1 q1 f1
  have hz2 : w1.heap.size ≤ w2.heap.size := by have := hb2.size; simp at this; omega
  have Y1 := Lib.hid (blk_bw hb2 (blk_oth X1.out (by omega) 0 _))
  have Y2 := Lib.hid (blk_bw hb2 (blk_oth X2.out (by omega) 0 _))
  have Y3 := Lib.hid (blk_bw hb2 (blk_set X3.out 0 _))
  have KC1 := Lib.hid (blk_bw hb2 (blk_oth HC1.out (by simp) 0 _))
  have HC2 := Lib.hid hc2
  have HCL2 := Lib.hid hcl2
  have hlt2 : w1.heap.size < w2.heap.size := by have := blk_lt hc2; simpa using this
  clear hc2 hcl2 X1 X2 X3 HC1
  have hw2 := bw_trans (bw_set hw1 (g := w.heap.size + 2) (by omega) 0 _) hb2
  have p2 := blk_cell Y1.out 2 rfl
  have q2 := blk_cell Y3.out 1 rfl
  have f2 := blk_free Y3.out 1
  go_wp2_with fail
  refine (toIntS_any _ _ _ _ n3 (H3.out.bw ?_)).mono ?_
  · exact bw_set hw2 (by omega) _ _
  rintro e w3 ⟨rfl, hb3, cur3, hc3, hcl3⟩
  clear p2 q2 f2
  have hz3 : w2.heap.size ≤ w3.heap.size := by have := hb3.size; simp at this; omega
  have Z1 := Lib.hid (blk_bw hb3 (blk_oth Y1.out (by omega) 1 _))
  have Z2 := Lib.hid (blk_bw hb3 (blk_oth Y2.out (by omega) 1 _))
  have Z3 := Lib.hid (blk_bw hb3 (blk_set Y3.out 1 _))
  have LC1 := Lib.hid (blk_bw hb3 (blk_oth KC1.out (by simp) 1 _))
  have LC2 := Lib.hid (blk_bw hb3 (blk_oth HC2.out (by simp; omega) 1 _))
  have HC3 := Lib.hid hc3
  have HCL3 := Lib.hid hcl3
  clear hc3 hcl3 Y1 Y2 Y3 KC1 HC2
  have p3 := blk_cell Z1.out 3 rfl
  have q30 := blk_cell Z3.out 0 rfl
  have q31 := blk_cell Z3.out 1 rfl
  have q32 := blk_cell Z3.out 2 rfl
  have q33 := blk_cell Z3.out 3 rfl
  have r30 := blk_cell Z2.out 0 rfl
  have r31 := blk_cell Z2.out 1 rfl
  have r32 := blk_cell Z2.out 2 rfl
  have r33 := blk_cell Z2.out 3 rfl
  have f3 := fun j => blk_free Z3.out j
  have f2 := fun j => blk_free Z2.out j
  go_wp2_with fail
  refine bodyPost_ret (v := rnVal (some ⟨w.heap.size + 1 + 1 + 1, 0, none⟩) r.ended.length r.ended.length (some ⟨w1.heap.size, 0, none⟩) r.trace.length r.trace.length (some ⟨w2.heap.size, 0, none⟩) r.switches.length r.switches.length r.high)
    (by simp [results, Tryd.results27, go_sem, r30, r31, r32, r33]) rfl ?_
  refine ⟨_, rfl, ⟨⟨_, _, _, cur1, cur2, cur3, ?_, ?_, ?_, rfl, ?_, HCL1.out, ?_, HCL2.out, ?_, HCL3.out⟩, n1, n2, n3, ng⟩, ?_⟩
  · omega
  · omega
  · exact hlt2
  · refine blk_oth (blk_oth (blk_oth (blk_oth (blk_oth (blk_oth ?_ ?_ _ _) ?_ _ _) ?_ _ _) ?_ _ _) ?_ _ _) ?_ _ _
    · have := LC1.out; simpa using this
    all_goals omega
  · refine blk_oth (blk_oth (blk_oth (blk_oth (blk_oth (blk_oth ?_ ?_ _ _) ?_ _ _) ?_ _ _) ?_ _ _) ?_ _ _) ?_ _ _
    · have := LC2.out; simpa using this
    all_goals omega
  · refine blk_oth (blk_oth (blk_oth (blk_oth (blk_oth (blk_oth ?_ ?_ _ _) ?_ _ _) ?_ _ _) ?_ _ _) ?_ _ _) ?_ _ _
    · have := HC3.out; simpa using this
    all_goals omega
  · exact bw_set (bw_set (bw_set (bw_set (bw_set (bw_set (bw_trans (bw_set hw2 (by omega) _ _) hb3) (by omega) _ _) (by omega) _ _) (by omega) _ _) (by omega) _ _) (by omega) _ _) (by omega) _ _
end Go.Proofs.YtaadlgpglfpmpaaDoor
