/-
  The walk of the draw of a run and a place.
-/
import Derived.Test.YtaadlgpglfpmpaaDoorDr9
namespace Go.Proofs.YtaadlgpglfpmpaaDoor
open Go.RowKit

def RunDT (w : World) (e : Ending) (w' : World) : Prop := ∃ (R : Rn) (a1 : Option Addr) (c1 : Nat) (a2 : Option Addr) (c2 : Nat) (a3 : Option Addr) (c3 : Nat) (t : Int), e = .returned (.tuple #[rnVal a1 R.ended.length c1 a2 R.trace.length c2 a3 R.switches.length c3 R.high, .int .i64 t]) ∧ Own w' w.heap.size 3 a1 (ints R.ended) ∧ Own w' w.heap.size 3 a2 (ints R.trace) ∧ Own w' w.heap.size 3 a3 (ints R.switches) ∧ RunB2 R ∧ (-1 ≤ t ∧ t ≤ 5) ∧ Bw w w'
set_option maxRecDepth 100000 in
set_option maxHeartbeats 1600000 in
theorem DrawRanOf_any {w0 w : World} {v : Value} (hv : RawB w0 v) (hb : Bw w0 w) : Calls Tryd.prog 12 #[v] w (RunDT w) := by
  have HV := Lib.hid hv
  clear hv
  go_enter Tryd.func12, Tryd.ntmps12
  go_wp2_with fail
  refine (DrawFormatTrace_any HV.out (bw_trans hb (bw_alloc _ _))).mono ?_
  rintro e w1 ⟨R, a1, c1, a2, c2, a3, c3, rfl, o1, o2, o3, hrb, hb1⟩
  have hz1 := hb1.size
  simp only [World.size_alloc] at hz1
  have HBA := Lib.hid (blk_bw hb1 (heap_alloc_new w zRun))
  have HB1 := Lib.hid (bw_trans (bw_alloc w zRun) hb1)
  have O1 := Lib.hid o1
  have O2 := Lib.hid o2
  have O3 := Lib.hid o3
  have HRB := Lib.hid hrb
  clear o1 o2 o3 hrb
  go_wp2_with fail
  refine (l11Open_any HV.out (bw_trans hb HB1.out)).mono ?_
  rintro e w2 ⟨rfl, hrd, hb2⟩
  have hG := hrd.lt
  go_wp2_with fail
  refine (num_any _ w1.heap.size w1.heap.size _ w2.heap.size [0, 1, 2, -1, 5] 5 (hrd.bw (bw_alloc _ _)) (by omega) (by simp) (by simp) (by omega) (ri_lit _ (heap_alloc_new w2 _) rfl)).mono ?_
  rintro e w3 ⟨t, rfl, ht, hd3⟩
  have htb : -1 ≤ t ∧ t ≤ 5 := by simp at ht; omega
  have HB3 := Lib.hid (show Bw w1 w3 from bw_hit (bw_trans hb2 (bw_alloc w2 _)) hd3.2 (Nat.le_refl _))
  have HA3 := Lib.hid (blk_bw HB3.out HBA.out)
  clear hd3 ht hrd hb2
  have t0 := blk_cell HA3.out 0 rfl
  have t1 := blk_cell HA3.out 1 rfl
  have t2 := blk_cell HA3.out 2 rfl
  have t3 := blk_cell HA3.out 3 rfl
  have tl := blk_lt HA3.out
  have tf := fun j => blk_free HA3.out j
  go_wp2
  refine bodyPost_ret (v := .tuple #[rnVal a1 R.ended.length c1 a2 R.trace.length c2 a3 R.switches.length c3 R.high, .int .i64 t]) (by simp [results, Tryd.results12, go_sem, t0, t1, t2, t3]) rfl ?_
  exact ⟨R, _, _, _, _, _, _, t, rfl, (own_set4 (O1.out.bw HB3.out) (by simp)).mono (by simp), (own_set4 (O2.out.bw HB3.out) (by simp)).mono (by simp), (own_set4 (O3.out.bw HB3.out) (by simp)).mono (by simp), HRB.out, htb, dr_set4 (bw_trans HB1.out HB3.out) (Nat.le_refl _)⟩
end Go.Proofs.YtaadlgpglfpmpaaDoor
