/-
  The walks of the draws that hand a run on.
-/
import Derived.Test.YtaadlgpglfpmpaaDoorDr8
import Derived.Test.YtaadlgpglfpmpaaDoorGB
import Derived.Deep.RegionHeld3


namespace Go.Proofs.YtaadlgpglfpmpaaDoor
open Go.RowKit

abbrev zRun : Obj := .cells #[.slice none 0 0, .slice none 0 0, .slice none 0 0, .bool false] 25
/-- A run that was made for the call. -/
def RunD (w : World) (e : Ending) (w' : World) : Prop := ∃ (R : Rn) (a1 : Option Addr) (c1 : Nat) (a2 : Option Addr) (c2 : Nat) (a3 : Option Addr) (c3 : Nat), e = .returned (rnVal a1 R.ended.length c1 a2 R.trace.length c2 a3 R.switches.length c3 R.high) ∧ Own w' w.heap.size 3 a1 (ints R.ended) ∧ Own w' w.heap.size 3 a2 (ints R.trace) ∧ Own w' w.heap.size 3 a3 (ints R.switches) ∧ RunB2 R ∧ Bw w w'
set_option maxRecDepth 100000 in
set_option maxHeartbeats 1600000 in
theorem DrawFormatTrace_any {w0 w : World} {v : Value} (hv : RawB w0 v) (hb : Bw w0 w) : Calls Tryd.prog 18 #[v] w (RunD w) := by
  have HV := Lib.hid hv
  clear hv
  go_enter Tryd.func18, Tryd.ntmps18
  go_wp2_with fail
  refine (l7Run_any HV.out (bw_trans hb (bw_alloc _ _))).mono ?_
  rintro e w1 ⟨ao, c, l, bo, d, js, R, a1, c1, a2, c2, a3, c3, rfl, ⟨hT, hl6, hsm, hJ, hj61, hsj, hb1⟩, o1, o2, o3, hrb, hlk⟩
  have HBA := Lib.hid (blk_bw hb1 (heap_alloc_new w zRun))
  have t0 := blk_cell HBA.out 0 rfl
  have t1 := blk_cell HBA.out 1 rfl
  have t2 := blk_cell HBA.out 2 rfl
  have t3 := blk_cell HBA.out 3 rfl
  have tl := blk_lt HBA.out
  have tf := fun j => blk_free HBA.out j
  have O1 := Lib.hid o1
  have O2 := Lib.hid o2
  have O3 := Lib.hid o3
  have HRB := Lib.hid hrb
  clear o1 o2 o3 hrb
  clear hT hsm hJ hsj hlk
  go_wp2
  refine bodyPost_ret (v := rnVal a1 R.ended.length c1 a2 R.trace.length c2 a3 R.switches.length c3 R.high) (by simp [results, Tryd.results18, go_sem, tl, t0, t1, t2, t3]) rfl ?_
  exact ⟨R, _, _, _, _, _, _, rfl, ((own_set4 O1.out (by simp)).bw (bw_alloc _ _)).mono (by simp), ((own_set4 O2.out (by simp)).bw (bw_alloc _ _)).mono (by simp), ((own_set4 O3.out (by simp)).bw (bw_alloc _ _)).mono (by simp), HRB.out, bw_trans (dr_set4 (bw_trans (bw_alloc _ _) hb1) (Nat.le_refl _)) (bw_alloc _ _)⟩
set_option maxHeartbeats 800000 in
theorem num_any2 (w : World) (base G p g : Nat) (l : List Int) (c : Nat) (hr : Rd w base G p) (hp : p ≤ 1000000) (hl : 0 < l.length) (hl1 : l.length ≤ 100) (hg : g ≠ G) (hi : RI w (some ⟨g, 0, none⟩) l) :
    Calls Tryd.prog 39 #[.pointer (some ⟨G, 0, none⟩), .slice (some ⟨g, 0, none⟩) l.length c] w (NumEnd w base G p l) := by
  have HR := Lib.hid hr
  have HI := Lib.hid hi
  clear hr hi
  go_enter Tryd.func39, Tryd.ntmps39
  go_wp2_with fail
  refine (pick_any _ base G p _ HR.out hp).mono ?_
  rintro e w1 ⟨r, rfl, hr, hd⟩
  have hrl : r < l.length := by omega
  obtain ⟨x, hx⟩ := getSome hrl
  have hm := List.mem_of_getElem? hx
  obtain ⟨b, off, e, hbs, hc⟩ := HI.out r x hx
  simp only [Option.some.injEq, Addr.mk.injEq, and_true] at e
  obtain ⟨rfl, rfl⟩ := e
  have hc1 := cell_hit hd.2 hc (by omega)
  simp only [Nat.zero_add] at hc1
  have HX := Lib.hid hx
  have HD := Lib.hid hd
  have HM := Lib.hid hm
  clear hx hd hm
  clear hc hr
  go_wp2
  go_ret
  exact ⟨x, rfl, HM.out, HD.out⟩

theorem keepS {w5 W : World} {g h : Nat} {v0 v1 v2 v3 u0 u1 u2 u3 : Value} (hb : Bw w5 W)
    (hs : w5.cell? ⟨g, 0, none⟩ = some v0 ∧ w5.cell? ⟨g, 1, none⟩ = some v1 ∧ w5.cell? ⟨g, 2, none⟩ = some v2 ∧ w5.cell? ⟨g, 3, none⟩ = some v3) (hn : h ≠ g) :
    ((((W.setCell ⟨h, 0, none⟩ u0).setCell ⟨h, 1, none⟩ u1).setCell ⟨h, 2, none⟩ u2).setCell ⟨h, 3, none⟩ u3).cell? ⟨g, 0, none⟩ = some v0 ∧ ((((W.setCell ⟨h, 0, none⟩ u0).setCell ⟨h, 1, none⟩ u1).setCell ⟨h, 2, none⟩ u2).setCell ⟨h, 3, none⟩ u3).cell? ⟨g, 1, none⟩ = some v1 ∧ ((((W.setCell ⟨h, 0, none⟩ u0).setCell ⟨h, 1, none⟩ u1).setCell ⟨h, 2, none⟩ u2).setCell ⟨h, 3, none⟩ u3).cell? ⟨g, 2, none⟩ = some v2 ∧ ((((W.setCell ⟨h, 0, none⟩ u0).setCell ⟨h, 1, none⟩ u1).setCell ⟨h, 2, none⟩ u2).setCell ⟨h, 3, none⟩ u3).cell? ⟨g, 3, none⟩ = some v3 := by
  obtain ⟨a, b, c, d⟩ := keep4 hb hs
  have hq : ∀ (W : World) (i j : Nat) (u : Value), (W.setCell ⟨h, j, none⟩ u).cell? ⟨g, i, none⟩ = W.cell? ⟨g, i, none⟩ := fun W i j u => World.cell?_setCell_other W _ _ _ (fun e => hn (by injection e))
  simp only [hq]
  exact ⟨a, b, c, d⟩
def RunJ9 (w : World) (e : Ending) (w' : World) : Prop := ∃ (bo : Option Addr) (d : Nat) (js : List Jb) (R : Rn) (a1 : Option Addr) (c1 : Nat) (a2 : Option Addr) (c2 : Nat) (a3 : Option Addr) (c3 : Nat) (t : Int), e = .returned (.tuple #[.slice bo js.length d, rnVal a1 R.ended.length c1 a2 R.trace.length c2 a3 R.switches.length c3 R.high, .int .i64 t]) ∧ Js w w' bo d js ∧ Own w' w.heap.size 3 a1 (ints R.ended) ∧ Own w' w.heap.size 3 a2 (ints R.trace) ∧ Own w' w.heap.size 3 a3 (ints R.switches) ∧ RunB2 R ∧ 0 ≤ t ∧ t ≤ 5 ∧ ∃ l, Like l js R
end Go.Proofs.YtaadlgpglfpmpaaDoor
