/-
  The walks of the draws that hand a run on.
-/
import Derived.Test.YtchpfpekkgbehaaDr8
import Derived.Test.YtchpfpekkgbehaaGB
import Derived.Deep.RegionHeld3


namespace Go.Proofs.Ytchpfpekkgbehaa
open Go.RowKit

abbrev zRun : Obj := .cells #[.slice none 0 0, .slice none 0 0, .slice none 0 0, .bool false] 29
/-- A run that was made for the call. -/
def RunD (w : World) (e : Ending) (w' : World) : Prop := ∃ (R : Rn) (a1 : Option Addr) (c1 : Nat) (a2 : Option Addr) (c2 : Nat) (a3 : Option Addr) (c3 : Nat), e = .returned (rnVal a1 R.ended.length c1 a2 R.trace.length c2 a3 R.switches.length c3 R.high) ∧ Own w' w.heap.size 3 a1 (ints R.ended) ∧ Own w' w.heap.size 3 a2 (ints R.trace) ∧ Own w' w.heap.size 3 a3 (ints R.switches) ∧ RunB2 R ∧ Bw w w'
set_option maxRecDepth 100000 in
set_option maxHeartbeats 1600000 in
theorem DrawMissesOf_any {w0 w : World} {v : Value} (hv : RawB w0 v) (hb : Bw w0 w) : Calls Try.prog 31 #[v] w (Run8End w) := by
  have HV := Lib.hid hv
  clear hv
  go_enter Try.func31, Try.ntmps31
  go_wp2_with fail
  refine (l7Run_any HV.out (bw_trans hb (bw_alloc _ _))).mono ?_
  rintro e w1 ⟨ao, c, l, bo, d, js, R, a1, c1, a2, c2, a3, c3, rfl, ⟨hT, hl6, hsm, hJ, hj61, hsj, hb1⟩, o1, o2, o3, hrb, hlk⟩
  have HBA := Lib.hid (blk_bw hb1 (heap_alloc_new w zRun))
  have t0 := blk_cell HBA.out 0 rfl
  have t1 := blk_cell HBA.out 1 rfl
  have t2 := blk_cell HBA.out 2 rfl
  have t3 := blk_cell HBA.out 3 rfl
  have tl := blk_lt HBA.out
  have tf := fun j => blk_free HBA.out j
  have HT := Lib.hid hT
  have HSM := Lib.hid hsm
  have HJ := Lib.hid hJ
  have HSJ := Lib.hid hsj
  have O1 := Lib.hid o1
  have O2 := Lib.hid o2
  have O3 := Lib.hid o3
  have HRB := Lib.hid hrb
  have HLK := Lib.hid hlk
  clear hT hsm hJ hsj o1 o2 o3 hrb hlk
  go_wp2
  refine bodyPost_ret (v := .tuple #[.slice ao l.length c, .slice bo js.length d, rnVal a1 R.ended.length c1 a2 R.trace.length c2 a3 R.switches.length c3 R.high]) (by simp [results, Try.results31, go_sem, t0, t1, t2, t3]) rfl ?_
  exact ⟨ao, c, l, bo, d, js, R, _, _, _, _, _, _, rfl, ⟨Go.Joins.ownsRow_le (row_set4 HT.out (by simp)) (by simp), hl6, HSM.out, Go.Joins.ownsRow_le (row_set4 HJ.out (by simp)) (by simp), hj61, HSJ.out, dr_set4 (bw_trans (bw_alloc _ _) hb1) (Nat.le_refl _)⟩, (own_set4 O1.out (by simp)).mono (by simp), (own_set4 O2.out (by simp)).mono (by simp), (own_set4 O3.out (by simp)).mono (by simp), HRB.out, HLK.out⟩
set_option maxRecDepth 100000 in
set_option maxHeartbeats 1600000 in
theorem DrawFormatTrace_any {w0 w : World} {v : Value} (hv : RawB w0 v) (hb : Bw w0 w) : Calls Try.prog 54 #[v] w (RunD w) := by
  have HV := Lib.hid hv
  clear hv
  go_enter Try.func54, Try.ntmps54
  go_wp2_with fail
  refine (l7Run_any HV.out (bw_trans hb (bw_alloc _ _))).mono ?_
  rintro e w1 ⟨ao, c, l, bo, d, js, R, a1, c1, a2, c2, a3, c3, rfl, ⟨hT, hl6, hsm, hJ, hj61, hsj, hb1⟩, o1, o2, o3, hrb, hlk⟩
  have HBA := Lib.hid (blk_bw hb1 (heap_alloc_new w zRun))
  have t0 := blk_cell HBA.out 0 rfl
  have t1 := blk_cell HBA.out 1 rfl
  have t2 := blk_cell HBA.out 2 rfl
  have t3 := blk_cell HBA.out 3 rfl
  have tl := blk_lt HBA.out
  have tf := fun j => blk_free HBA.out j
  have O1 := Lib.hid o1
  have O2 := Lib.hid o2
  have O3 := Lib.hid o3
  have HRB := Lib.hid hrb
  clear o1 o2 o3 hrb
  clear hT hsm hJ hsj hlk
  go_wp2
  refine bodyPost_ret (v := rnVal a1 R.ended.length c1 a2 R.trace.length c2 a3 R.switches.length c3 R.high) (by simp [results, Try.results54, go_sem, tl, t0, t1, t2, t3]) rfl ?_
  exact ⟨R, _, _, _, _, _, _, rfl, ((own_set4 O1.out (by simp)).bw (bw_alloc _ _)).mono (by simp), ((own_set4 O2.out (by simp)).bw (bw_alloc _ _)).mono (by simp), ((own_set4 O3.out (by simp)).bw (bw_alloc _ _)).mono (by simp), HRB.out, bw_trans (dr_set4 (bw_trans (bw_alloc _ _) hb1) (Nat.le_refl _)) (bw_alloc _ _)⟩
set_option maxRecDepth 100000 in
set_option maxHeartbeats 1600000 in
theorem DrawDroppedOf_any {w0 w : World} {v : Value} (hv : RawB w0 v) (hb : Bw w0 w) : Calls Try.prog 29 #[v] w (RunD w) := by
  have HV := Lib.hid hv
  clear hv
  go_enter Try.func29, Try.ntmps29
  go_wp2_with fail
  refine (DrawFormatTrace_any HV.out (bw_trans hb (bw_alloc _ _))).mono ?_
  rintro e w1 ⟨R, a1, c1, a2, c2, a3, c3, rfl, o1, o2, o3, hrb, hb1⟩
  have HBA := Lib.hid (blk_bw hb1 (heap_alloc_new w zRun))
  have t0 := blk_cell HBA.out 0 rfl
  have t1 := blk_cell HBA.out 1 rfl
  have t2 := blk_cell HBA.out 2 rfl
  have t3 := blk_cell HBA.out 3 rfl
  have tl := blk_lt HBA.out
  have tf := fun j => blk_free HBA.out j
  have O1 := Lib.hid o1
  have O2 := Lib.hid o2
  have O3 := Lib.hid o3
  have HRB := Lib.hid hrb
  clear o1 o2 o3 hrb
  go_wp2
  refine bodyPost_ret (v := rnVal a1 R.ended.length c1 a2 R.trace.length c2 a3 R.switches.length c3 R.high) (by simp [results, Try.results29, go_sem, t0, t1, t2, t3]) rfl ?_
  exact ⟨R, _, _, _, _, _, _, rfl, (own_set4 O1.out (by simp)).mono (by simp), (own_set4 O2.out (by simp)).mono (by simp), (own_set4 O3.out (by simp)).mono (by simp), HRB.out, dr_set4 (bw_trans (bw_alloc _ _) hb1) (Nat.le_refl _)⟩
set_option maxHeartbeats 800000 in
theorem num_any2 (w : World) (base G p g : Nat) (l : List Int) (c : Nat) (hr : Rd w base G p) (hp : p ≤ 1000000) (hl : 0 < l.length) (hl1 : l.length ≤ 100) (hg : g ≠ G) (hi : RI w (some ⟨g, 0, none⟩) l) :
    Calls Try.prog 43 #[.pointer (some ⟨G, 0, none⟩), .slice (some ⟨g, 0, none⟩) l.length c] w (NumEnd w base G p l) := by
  have HR := Lib.hid hr
  have HI := Lib.hid hi
  clear hr hi
  go_enter Try.func43, Try.ntmps43
  go_wp2_with fail
  refine (pick_any _ base G p _ HR.out hp).mono ?_
  rintro e w1 ⟨r, rfl, hr, hd⟩
  have hrl : r < l.length := by omega
  obtain ⟨x, hx⟩ := getSome hrl
  have hm := List.mem_of_getElem? hx
  obtain ⟨b, off, e, hbs, hc⟩ := HI.out r x hx
  simp only [Option.some.injEq, Addr.mk.injEq, and_true] at e
  obtain ⟨rfl, rfl⟩ := e
  have hc1 := cell_hit hd.2 hc (by omega)
  simp only [Nat.zero_add] at hc1
  have HX := Lib.hid hx
  have HD := Lib.hid hd
  have HM := Lib.hid hm
  clear hx hd hm
  clear hc hr
  go_wp2
  go_ret
  exact ⟨x, rfl, HM.out, HD.out⟩

theorem keepS {w5 W : World} {g h : Nat} {v0 v1 v2 v3 u0 u1 u2 u3 : Value} (hb : Bw w5 W)
    (hs : w5.cell? ⟨g, 0, none⟩ = some v0 ∧ w5.cell? ⟨g, 1, none⟩ = some v1 ∧ w5.cell? ⟨g, 2, none⟩ = some v2 ∧ w5.cell? ⟨g, 3, none⟩ = some v3) (hn : h ≠ g) :
    ((((W.setCell ⟨h, 0, none⟩ u0).setCell ⟨h, 1, none⟩ u1).setCell ⟨h, 2, none⟩ u2).setCell ⟨h, 3, none⟩ u3).cell? ⟨g, 0, none⟩ = some v0 ∧ ((((W.setCell ⟨h, 0, none⟩ u0).setCell ⟨h, 1, none⟩ u1).setCell ⟨h, 2, none⟩ u2).setCell ⟨h, 3, none⟩ u3).cell? ⟨g, 1, none⟩ = some v1 ∧ ((((W.setCell ⟨h, 0, none⟩ u0).setCell ⟨h, 1, none⟩ u1).setCell ⟨h, 2, none⟩ u2).setCell ⟨h, 3, none⟩ u3).cell? ⟨g, 2, none⟩ = some v2 ∧ ((((W.setCell ⟨h, 0, none⟩ u0).setCell ⟨h, 1, none⟩ u1).setCell ⟨h, 2, none⟩ u2).setCell ⟨h, 3, none⟩ u3).cell? ⟨g, 3, none⟩ = some v3 := by
  obtain ⟨a, b, c, d⟩ := keep4 hb hs
  have hq : ∀ (W : World) (i j : Nat) (u : Value), (W.setCell ⟨h, j, none⟩ u).cell? ⟨g, i, none⟩ = W.cell? ⟨g, i, none⟩ := fun W i j u => World.cell?_setCell_other W _ _ _ (fun e => hn (by injection e))
  simp only [hq]
  exact ⟨a, b, c, d⟩
def RunJ9 (w : World) (e : Ending) (w' : World) : Prop := ∃ (bo : Option Addr) (d : Nat) (js : List Jb) (R : Rn) (a1 : Option Addr) (c1 : Nat) (a2 : Option Addr) (c2 : Nat) (a3 : Option Addr) (c3 : Nat) (t : Int), e = .returned (.tuple #[.slice bo js.length d, rnVal a1 R.ended.length c1 a2 R.trace.length c2 a3 R.switches.length c3 R.high, .int .i64 t]) ∧ Js w w' bo d js ∧ Own w' w.heap.size 3 a1 (ints R.ended) ∧ Own w' w.heap.size 3 a2 (ints R.trace) ∧ Own w' w.heap.size 3 a3 (ints R.switches) ∧ RunB2 R ∧ 0 ≤ t ∧ t ≤ 5 ∧ ∃ l, Like l js R
set_option maxRecDepth 100000 in
set_option maxHeartbeats 3200000 in
theorem DrawLongestOf_any {w0 w : World} {v : Value} (hv : RawB w0 v) (hb : Bw w0 w) : Calls Try.prog 26 #[v] w (RunJ9 w) := by
  have HV := Lib.hid hv
  clear hv
  go_enter Try.func26, Try.ntmps26
  go_wp2_with fail
  refine (l7Run_any HV.out (bw_trans hb (bw_alloc _ _))).mono ?_
  rintro e w1 ⟨ao, c, l, bo, d, js, R, a1, c1, a2, c2, a3, c3, rfl, ⟨hT, hl6, hsm, hJ, hj61, hsj, hb1⟩, o1, o2, o3, hrb, hlk⟩
  have hz1 := hb1.size
  simp only [World.size_alloc] at hz1
  have HBA := Lib.hid (blk_bw hb1 (heap_alloc_new w zRun))
  have hA1 := bw_alloc w1 (.cells #[.slice a1 R.ended.length c1, .slice a2 R.trace.length c2, .slice a3 R.switches.length c3, .bool R.high] 29)
  have HBR := Lib.hid (heap_alloc_new w1 (.cells #[.slice a1 R.ended.length c1, .slice a2 R.trace.length c2, .slice a3 R.switches.length c3, .bool R.high] 29))
  have HB1 := Lib.hid (bw_trans (bw_trans (bw_alloc w zRun) hb1) hA1)
  have HJ1 := Lib.hid (row_bw hJ hA1)
  have O1 := Lib.hid (o1.bw hA1)
  have O2 := Lib.hid (o2.bw hA1)
  have O3 := Lib.hid (o3.bw hA1)
  have HBA1 := Lib.hid (blk_bw hA1 HBA.out)
  have HSJ := Lib.hid hsj
  have HRB := Lib.hid hrb
  have HLK := Lib.hid hlk
  clear hsj hrb hlk
  clear hT hsm hJ o1 o2 o3
  have s0 := blk_cell HBR.out 0 rfl
  have s1 := blk_cell HBR.out 1 rfl
  have s2 := blk_cell HBR.out 2 rfl
  have s3 := blk_cell HBR.out 3 rfl
  have sl := blk_lt HBR.out
  go_wp2_with fail
  generalize hW : w1.alloc (Obj.cells #[.slice a1 R.ended.length c1, .slice a2 R.trace.length c2, .slice a3 R.switches.length c3, .bool R.high] 29) = W1 at *
  have hzW : W1.heap.size = w1.heap.size + 1 := by rw [← hW]; simp
  clear hW
  have HNE : w.heap.size ≠ w1.heap.size := by omega
  have HS := Lib.hid (box4 HBR.out)
  go_region_held3 (fun W => W.cell? ⟨w1.heap.size, 0, none⟩ = some (.slice a1 R.ended.length c1) ∧ W.cell? ⟨w1.heap.size, 1, none⟩ = some (.slice a2 R.trace.length c2) ∧ W.cell? ⟨w1.heap.size, 2, none⟩ = some (.slice a3 R.switches.length c3) ∧ W.cell? ⟨w1.heap.size, 3, none⟩ = some (.bool R.high))
    (first | with_reducible exact keep4 (bw_drew _) HS.out | with_reducible exact keep4 (bw_alloc _ (.cells #[vi 0, vi 1, vi 2, vi 5] 3)) (keep4 (bw_drew _) HS.out) | with_reducible exact keep4 (bw_trans (bw_alloc _ (.cells #[vi 0, vi 1, vi 2, vi 5] 3)) (bw_drew _)) HS.out | with_reducible exact keep4 HB2.out HS.out | with_reducible exact keep4 (bw_trans HB2.out (bw_alloc _ (.cells #[vi 0, vi 1, vi 2, vi 5] 3))) HS.out | with_reducible exact keep4 HB3.out HS.out | with_reducible exact keepS HB3.out HS.out HNE)
    (first | (go_at_call 39; refine (l11Open_any HV.out (bw_trans hb (bw_trans HB1.out (bw_drew _)))).mono ?_; rintro e w2 ⟨rfl, hrd, hb2⟩; have HB2 : Hid (Bw W1 w2) := Lib.hid (bw_trans (bw_drew _) hb2); have hz2 := hb2.size; (try simp [hzW] at hz2); have HRD : Hid (Rd w2 (w1.heap.size + 1) (w1.heap.size + 1) 0) := (by have h := hrd; (simp only [World.size_drew, hzW] at h); exact h); have hG := HRD.out.lt; clear hrd hb2) | (go_at_call 39; refine (l11Open_any HV.out (bw_trans hb (bw_trans HB1.out (bw_trans (bw_alloc _ (.cells #[vi 0, vi 1, vi 2, vi 5] 3)) (bw_drew _))))).mono ?_; rintro e w2 ⟨rfl, hrd, hb2⟩; have HB2 : Hid (Bw W1 w2) := Lib.hid (bw_trans (bw_trans (bw_alloc _ (.cells #[vi 0, vi 1, vi 2, vi 5] 3)) (bw_drew _)) hb2); have hz2 := hb2.size; (try simp [hzW] at hz2); have HRE : Hid (Rd w2 (w1.heap.size + 2) (w1.heap.size + 2) 0) := (by have h := hrd; (simp only [World.size_alloc, World.size_drew, hzW] at h); exact h); have hG := HRE.out.lt; have HAR := Lib.hid (blk_bw (bw_trans (bw_drew _) hb2) (hzW ▸ heap_alloc_new W1 (.cells #[vi 0, vi 1, vi 2, vi 5] 3))); clear hrd hb2) | (go_at_call 43; have _t := HRD; refine (num_any2 _ (w1.heap.size + 1) (w1.heap.size + 1) _ w2.heap.size [0, 1, 2, 5] 4 (HRD.out.bw (bw_alloc _ _)) (by omega) (by simp) (by simp) (by omega) (ri_lit _ (heap_alloc_new w2 (.cells #[vi 0, vi 1, vi 2, vi 5] 3)) rfl)).mono ?_; rintro e w3 ⟨y, rfl, hy, hd3⟩; have hz3 := hd3.2.size; (try simp at hz3); have hyb : 0 ≤ y ∧ y ≤ 5 := (by simp at hy; omega); have HB3 : Hid (Bw W1 w3) := Lib.hid (bw_hit (bw_trans HB2.out (bw_alloc w2 (.cells #[vi 0, vi 1, vi 2, vi 5] 3))) hd3.2 (by omega)); clear hy hd3; have t0 := blk_cell (blk_bw HB3.out HBA1.out) 0 rfl; have t1 := blk_cell (blk_bw HB3.out HBA1.out) 1 rfl; have t2 := blk_cell (blk_bw HB3.out HBA1.out) 2 rfl; have t3 := blk_cell (blk_bw HB3.out HBA1.out) 3 rfl; have tl := blk_lt (blk_bw HB3.out HBA1.out); have tf := fun j => blk_free (blk_bw HB3.out HBA1.out) j) | (go_at_call 43; have _t := HRE; refine (num_any2 _ (w1.heap.size + 2) (w1.heap.size + 2) _ (w1.heap.size + 1) [0, 1, 2, 5] 4 HRE.out (by omega) (by simp) (by simp) (by omega) (ri_lit _ HAR.out rfl)).mono ?_; rintro e w3 ⟨y, rfl, hy, hd3⟩; have hz3 := hd3.2.size; (try simp at hz3); have hyb : 0 ≤ y ∧ y ≤ 5 := (by simp at hy; omega); have HB3 : Hid (Bw W1 w3) := Lib.hid (bw_hit HB2.out hd3.2 (by omega)); clear hy hd3; have t0 := blk_cell (blk_bw HB3.out HBA1.out) 0 rfl; have t1 := blk_cell (blk_bw HB3.out HBA1.out) 1 rfl; have t2 := blk_cell (blk_bw HB3.out HBA1.out) 2 rfl; have t3 := blk_cell (blk_bw HB3.out HBA1.out) 3 rfl; have tl := blk_lt (blk_bw HB3.out HBA1.out); have tf := fun j => blk_free (blk_bw HB3.out HBA1.out) j))
  all_goals
    go_wp2_with fail
    refine bodyPost_ret (v := .tuple #[.slice bo js.length d, rnVal a1 R.ended.length c1 a2 R.trace.length c2 a3 R.switches.length c3 R.high, .int .i64 y]) (by simp [results, Try.results26, go_sem, t0, t1, t2, t3]) rfl ?_
    exact ⟨bo, d, js, R, _, _, _, _, _, _, y, rfl, ⟨Go.Joins.ownsRow_le (row_set4 (row_bw HJ1.out HB3.out) (by simp)) (by simp), hj61, HSJ.out, dr_set4 (bw_trans HB1.out HB3.out) (Nat.le_refl _)⟩, (own_set4 (O1.out.bw HB3.out) (by simp)).mono (by simp), (own_set4 (O2.out.bw HB3.out) (by simp)).mono (by simp), (own_set4 (O3.out.bw HB3.out) (by simp)).mono (by simp), HRB.out, hyb.1, hyb.2, l, HLK.out⟩
end Go.Proofs.Ytchpfpekkgbehaa
