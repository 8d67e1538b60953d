import Derived.Test.YtaadlgpglfpmpaaDoorMem
import Derived.Test.YtaadlgpglfpmpaaDoorGF
import Derived.Test.YtaadlgpglfpmpaaDoorPut
import Derived.BigRegion
import Derived.Test.YtaadlgpglfpmpaaDoorGC
import Derived.Deep.DeepCutAuto
import Derived.Deep.CutRange
import Derived.Outline
import Derived.Deep.CutBlock

/-
  The walks of the closures of impl.RunJobs: the deadline of a job, and which job goes ahead.
-/




namespace Go.Proofs.YtaadlgpglfpmpaaDoor
open Go.RowKit

theorem key_at {l : List Tk} {js : List Jb} {x : Fr} {high : Bool} {i q : Nat} {y z : Int} {T : Tk} (hj : js[i]? = some ⟨q, y, z⟩) (ht : l[q]? = some T) :
    keyOf l js x high i = if T.crit = true ∧ high = false then y * x.q + T.due * x.p else (y + T.due) * x.q := by
  have htk : tkOf l js i = some T := by simp [tkOf, hj, ht]
  rw [keyOf, hj, htk]
theorem mul_bd {a b : Int} {m n : Int} (ha0 : 0 ≤ a) (ha : a ≤ m) (hb0 : 0 ≤ b) (hb : b ≤ n) : 0 ≤ a * b ∧ a * b ≤ m * n := ⟨Int.mul_nonneg ha0 hb0, Int.mul_le_mul ha hb hb0 (by omega)⟩

set_option maxRecDepth 100000 in
set_option maxHeartbeats 800000 in
theorem due_true_true (w : World) (b4 b5 R b10 i q : Nat) (y z : Int) (x0 x1 x2 x3 : Int) (ao bo : Option Addr) (c d : Nat) (l : List Tk) (js : List Jb) (x : Fr) (v1 v2 v3 : Value) (hx1 : x.p ≤ 1000000000) (hx2 : x.q ≤ 1000000000)
    (h4 : w.heap[b4]? = some (.cells #[.slice ao l.length c] 36 (0, 0))) (h5 : w.heap[b5]? = some (.cells #[.slice bo js.length d] 37 (0, 0))) (hR : w.heap[R]? = some (.cells #[v1, v2, v3, .bool true] 25 (0, 0)))
    (h10 : w.heap[b10]? = some (.cells #[.int .i64 (x.p : Int), .int .i64 (x.q : Int)] 71 (0, 0))) (hr : RT w ao l) (hs : RJ w bo js) (hj : js[i]? = some ⟨q, y, z⟩) (ht : l[q]? = some ⟨x0, x1, x2, x3, true⟩) (hy0 : 0 ≤ y) (hy1 : y ≤ 200) (hd0 : 0 ≤ x2) (hd1 : x2 ≤ 20) :
    Calls Tryd.prog 49 #[.int .i64 i, .pointer (some ⟨b4, 0, none⟩), .pointer (some ⟨b5, 0, none⟩), .pointer (some ⟨R, 0, none⟩), .pointer (some ⟨b10, 0, none⟩)] w fun e w' => e = .returned (.int .i64 (keyOf l js x true i)) ∧ Bw w w' := by
  have hil := (List.getElem?_eq_some_iff.1 hj).1
  have hql := (List.getElem?_eq_some_iff.1 ht).1
  have hk := key_at (x := x) (high := true) hj ht
  dsimp only at hk
  obtain ⟨b1, o1, e1, hbs1, c0, c1, c2⟩ := hs i _ hj
  obtain ⟨b2, o2, e2, hbs2, t0, t1, t2, t3, t4⟩ := hr q _ ht
  subst e1 e2
  dsimp only at c0 c1 c2 t0 t1 t2 t3 t4
  have p4 := blk_cell h4 0 rfl
  have p5 := blk_cell h5 0 rfl
  have r3 := blk_cell hR 3 rfl
  have x0' := blk_cell h10 0 rfl
  have x1' := blk_cell h10 1 rfl
  have m1 := mul_bd hy0 hy1 (show (0 : Int) ≤ x.q by omega) (show (x.q : Int) ≤ 1000000000 by omega)
  have m2 := mul_bd hd0 hd1 (show (0 : Int) ≤ x.p by omega) (show (x.p : Int) ≤ 1000000000 by omega)
  have m3 := mul_bd (show (0 : Int) ≤ y + x2 by omega) (show y + x2 ≤ 220 by omega) (show (0 : Int) ≤ x.q by omega) (show (x.q : Int) ≤ 1000000000 by omega)
  obtain ⟨P1, hP1⟩ : ∃ P, y * (x.q : Int) = P := ⟨_, rfl⟩
  obtain ⟨P2, hP2⟩ : ∃ P, x2 * (x.p : Int) = P := ⟨_, rfl⟩
  obtain ⟨P3, hP3⟩ : ∃ P, (y + x2) * (x.q : Int) = P := ⟨_, rfl⟩
  rw [hP1, hP2, hP3] at hk
  rw [hP1] at m1
  rw [hP2] at m2
  rw [hP3] at m3
  have w0 := IntWalk.i64_in (y + x2) (by omega)
  have w1 := IntWalk.i64_in P1 (by omega)
  have w2 := IntWalk.i64_in P2 (by omega)
  have w3 := IntWalk.i64_in P3 (by omega)
  have w4 := IntWalk.i64_in (P1 + P2) (by omega)
  have hl4 := blk_lt h4
  have hl5 := blk_lt h5
  have hlR := blk_lt hR
  have hl10 := blk_lt h10
  have HK := Lib.hid hk
  have H4 := Lib.hid h4
  have H5 := Lib.hid h5
  have HR := Lib.hid hR
  have H10 := Lib.hid h10
  have HR := Lib.hid hr
  have HS := Lib.hid hs
  have HJ := Lib.hid hj
  have HT := Lib.hid ht
  clear hk h4 h5 hR h10 hr hs hj ht
  go_enter Tryd.func49, Tryd.ntmps49
  go_wp2_with fail
  go_region
  go_wp2
  go_quiet (fail)
  go_wp2
  go_ret
  exact ⟨ret_i (by show _ = _; rw [HK.out]; simp), bw_trans (bw_trans (bw_alloc _ _) (bw_drew _)) (bw_drewN _ _)⟩
set_option maxRecDepth 100000 in
set_option maxHeartbeats 800000 in
theorem due_true_false (w : World) (b4 b5 R b10 i q : Nat) (y z : Int) (x0 x1 x2 x3 : Int) (ao bo : Option Addr) (c d : Nat) (l : List Tk) (js : List Jb) (x : Fr) (v1 v2 v3 : Value) (hx1 : x.p ≤ 1000000000) (hx2 : x.q ≤ 1000000000)
    (h4 : w.heap[b4]? = some (.cells #[.slice ao l.length c] 36 (0, 0))) (h5 : w.heap[b5]? = some (.cells #[.slice bo js.length d] 37 (0, 0))) (hR : w.heap[R]? = some (.cells #[v1, v2, v3, .bool false] 25 (0, 0)))
    (h10 : w.heap[b10]? = some (.cells #[.int .i64 (x.p : Int), .int .i64 (x.q : Int)] 71 (0, 0))) (hr : RT w ao l) (hs : RJ w bo js) (hj : js[i]? = some ⟨q, y, z⟩) (ht : l[q]? = some ⟨x0, x1, x2, x3, true⟩) (hy0 : 0 ≤ y) (hy1 : y ≤ 200) (hd0 : 0 ≤ x2) (hd1 : x2 ≤ 20) :
    Calls Tryd.prog 49 #[.int .i64 i, .pointer (some ⟨b4, 0, none⟩), .pointer (some ⟨b5, 0, none⟩), .pointer (some ⟨R, 0, none⟩), .pointer (some ⟨b10, 0, none⟩)] w fun e w' => e = .returned (.int .i64 (keyOf l js x false i)) ∧ Bw w w' := by
  have hil := (List.getElem?_eq_some_iff.1 hj).1
  have hql := (List.getElem?_eq_some_iff.1 ht).1
  have hk := key_at (x := x) (high := false) hj ht
  dsimp only at hk
  obtain ⟨b1, o1, e1, hbs1, c0, c1, c2⟩ := hs i _ hj
  obtain ⟨b2, o2, e2, hbs2, t0, t1, t2, t3, t4⟩ := hr q _ ht
  subst e1 e2
  dsimp only at c0 c1 c2 t0 t1 t2 t3 t4
  have p4 := blk_cell h4 0 rfl
  have p5 := blk_cell h5 0 rfl
  have r3 := blk_cell hR 3 rfl
  have x0' := blk_cell h10 0 rfl
  have x1' := blk_cell h10 1 rfl
  have m1 := mul_bd hy0 hy1 (show (0 : Int) ≤ x.q by omega) (show (x.q : Int) ≤ 1000000000 by omega)
  have m2 := mul_bd hd0 hd1 (show (0 : Int) ≤ x.p by omega) (show (x.p : Int) ≤ 1000000000 by omega)
  have m3 := mul_bd (show (0 : Int) ≤ y + x2 by omega) (show y + x2 ≤ 220 by omega) (show (0 : Int) ≤ x.q by omega) (show (x.q : Int) ≤ 1000000000 by omega)
  obtain ⟨P1, hP1⟩ : ∃ P, y * (x.q : Int) = P := ⟨_, rfl⟩
  obtain ⟨P2, hP2⟩ : ∃ P, x2 * (x.p : Int) = P := ⟨_, rfl⟩
  obtain ⟨P3, hP3⟩ : ∃ P, (y + x2) * (x.q : Int) = P := ⟨_, rfl⟩
  rw [hP1, hP2, hP3] at hk
  rw [hP1] at m1
  rw [hP2] at m2
  rw [hP3] at m3
  have w0 := IntWalk.i64_in (y + x2) (by omega)
  have w1 := IntWalk.i64_in P1 (by omega)
  have w2 := IntWalk.i64_in P2 (by omega)
  have w3 := IntWalk.i64_in P3 (by omega)
  have w4 := IntWalk.i64_in (P1 + P2) (by omega)
  have hl4 := blk_lt h4
  have hl5 := blk_lt h5
  have hlR := blk_lt hR
  have hl10 := blk_lt h10
  have HK := Lib.hid hk
  have H4 := Lib.hid h4
  have H5 := Lib.hid h5
  have HR := Lib.hid hR
  have H10 := Lib.hid h10
  have HR := Lib.hid hr
  have HS := Lib.hid hs
  have HJ := Lib.hid hj
  have HT := Lib.hid ht
  clear hk h4 h5 hR h10 hr hs hj ht
  go_enter Tryd.func49, Tryd.ntmps49
  go_wp2_with fail
  go_region
  go_wp2
  go_quiet (fail)
  go_wp2
  go_ret
  exact ⟨ret_i (by show _ = _; rw [HK.out]; simp), bw_trans (bw_trans (bw_alloc _ _) (bw_drew _)) (bw_drewN _ _)⟩
set_option maxRecDepth 100000 in
set_option maxHeartbeats 800000 in
theorem due_false_true (w : World) (b4 b5 R b10 i q : Nat) (y z : Int) (x0 x1 x2 x3 : Int) (ao bo : Option Addr) (c d : Nat) (l : List Tk) (js : List Jb) (x : Fr) (v1 v2 v3 : Value) (hx1 : x.p ≤ 1000000000) (hx2 : x.q ≤ 1000000000)
    (h4 : w.heap[b4]? = some (.cells #[.slice ao l.length c] 36 (0, 0))) (h5 : w.heap[b5]? = some (.cells #[.slice bo js.length d] 37 (0, 0))) (hR : w.heap[R]? = some (.cells #[v1, v2, v3, .bool true] 25 (0, 0)))
    (h10 : w.heap[b10]? = some (.cells #[.int .i64 (x.p : Int), .int .i64 (x.q : Int)] 71 (0, 0))) (hr : RT w ao l) (hs : RJ w bo js) (hj : js[i]? = some ⟨q, y, z⟩) (ht : l[q]? = some ⟨x0, x1, x2, x3, false⟩) (hy0 : 0 ≤ y) (hy1 : y ≤ 200) (hd0 : 0 ≤ x2) (hd1 : x2 ≤ 20) :
    Calls Tryd.prog 49 #[.int .i64 i, .pointer (some ⟨b4, 0, none⟩), .pointer (some ⟨b5, 0, none⟩), .pointer (some ⟨R, 0, none⟩), .pointer (some ⟨b10, 0, none⟩)] w fun e w' => e = .returned (.int .i64 (keyOf l js x true i)) ∧ Bw w w' := by
  have hil := (List.getElem?_eq_some_iff.1 hj).1
  have hql := (List.getElem?_eq_some_iff.1 ht).1
  have hk := key_at (x := x) (high := true) hj ht
  dsimp only at hk
  obtain ⟨b1, o1, e1, hbs1, c0, c1, c2⟩ := hs i _ hj
  obtain ⟨b2, o2, e2, hbs2, t0, t1, t2, t3, t4⟩ := hr q _ ht
  subst e1 e2
  dsimp only at c0 c1 c2 t0 t1 t2 t3 t4
  have p4 := blk_cell h4 0 rfl
  have p5 := blk_cell h5 0 rfl
  have r3 := blk_cell hR 3 rfl
  have x0' := blk_cell h10 0 rfl
  have x1' := blk_cell h10 1 rfl
  have m1 := mul_bd hy0 hy1 (show (0 : Int) ≤ x.q by omega) (show (x.q : Int) ≤ 1000000000 by omega)
  have m2 := mul_bd hd0 hd1 (show (0 : Int) ≤ x.p by omega) (show (x.p : Int) ≤ 1000000000 by omega)
  have m3 := mul_bd (show (0 : Int) ≤ y + x2 by omega) (show y + x2 ≤ 220 by omega) (show (0 : Int) ≤ x.q by omega) (show (x.q : Int) ≤ 1000000000 by omega)
  obtain ⟨P1, hP1⟩ : ∃ P, y * (x.q : Int) = P := ⟨_, rfl⟩
  obtain ⟨P2, hP2⟩ : ∃ P, x2 * (x.p : Int) = P := ⟨_, rfl⟩
  obtain ⟨P3, hP3⟩ : ∃ P, (y + x2) * (x.q : Int) = P := ⟨_, rfl⟩
  rw [hP1, hP2, hP3] at hk
  rw [hP1] at m1
  rw [hP2] at m2
  rw [hP3] at m3
  have w0 := IntWalk.i64_in (y + x2) (by omega)
  have w1 := IntWalk.i64_in P1 (by omega)
  have w2 := IntWalk.i64_in P2 (by omega)
  have w3 := IntWalk.i64_in P3 (by omega)
  have w4 := IntWalk.i64_in (P1 + P2) (by omega)
  have hl4 := blk_lt h4
  have hl5 := blk_lt h5
  have hlR := blk_lt hR
  have hl10 := blk_lt h10
  have HK := Lib.hid hk
  have H4 := Lib.hid h4
  have H5 := Lib.hid h5
  have HR := Lib.hid hR
  have H10 := Lib.hid h10
  have HR := Lib.hid hr
  have HS := Lib.hid hs
  have HJ := Lib.hid hj
  have HT := Lib.hid ht
  clear hk h4 h5 hR h10 hr hs hj ht
  go_enter Tryd.func49, Tryd.ntmps49
  go_wp2_with fail
  go_region
  go_wp2
  go_quiet (fail)
  go_wp2
  go_ret
  exact ⟨ret_i (by show _ = _; rw [HK.out]; simp), bw_trans (bw_trans (bw_alloc _ _) (bw_drew _)) (bw_drewN _ _)⟩
set_option maxRecDepth 100000 in
set_option maxHeartbeats 800000 in
theorem due_false_false (w : World) (b4 b5 R b10 i q : Nat) (y z : Int) (x0 x1 x2 x3 : Int) (ao bo : Option Addr) (c d : Nat) (l : List Tk) (js : List Jb) (x : Fr) (v1 v2 v3 : Value) (hx1 : x.p ≤ 1000000000) (hx2 : x.q ≤ 1000000000)
    (h4 : w.heap[b4]? = some (.cells #[.slice ao l.length c] 36 (0, 0))) (h5 : w.heap[b5]? = some (.cells #[.slice bo js.length d] 37 (0, 0))) (hR : w.heap[R]? = some (.cells #[v1, v2, v3, .bool false] 25 (0, 0)))
    (h10 : w.heap[b10]? = some (.cells #[.int .i64 (x.p : Int), .int .i64 (x.q : Int)] 71 (0, 0))) (hr : RT w ao l) (hs : RJ w bo js) (hj : js[i]? = some ⟨q, y, z⟩) (ht : l[q]? = some ⟨x0, x1, x2, x3, false⟩) (hy0 : 0 ≤ y) (hy1 : y ≤ 200) (hd0 : 0 ≤ x2) (hd1 : x2 ≤ 20) :
    Calls Tryd.prog 49 #[.int .i64 i, .pointer (some ⟨b4, 0, none⟩), .pointer (some ⟨b5, 0, none⟩), .pointer (some ⟨R, 0, none⟩), .pointer (some ⟨b10, 0, none⟩)] w fun e w' => e = .returned (.int .i64 (keyOf l js x false i)) ∧ Bw w w' := by
  have hil := (List.getElem?_eq_some_iff.1 hj).1
  have hql := (List.getElem?_eq_some_iff.1 ht).1
  have hk := key_at (x := x) (high := false) hj ht
  dsimp only at hk
  obtain ⟨b1, o1, e1, hbs1, c0, c1, c2⟩ := hs i _ hj
  obtain ⟨b2, o2, e2, hbs2, t0, t1, t2, t3, t4⟩ := hr q _ ht
  subst e1 e2
  dsimp only at c0 c1 c2 t0 t1 t2 t3 t4
  have p4 := blk_cell h4 0 rfl
  have p5 := blk_cell h5 0 rfl
  have r3 := blk_cell hR 3 rfl
  have x0' := blk_cell h10 0 rfl
  have x1' := blk_cell h10 1 rfl
  have m1 := mul_bd hy0 hy1 (show (0 : Int) ≤ x.q by omega) (show (x.q : Int) ≤ 1000000000 by omega)
  have m2 := mul_bd hd0 hd1 (show (0 : Int) ≤ x.p by omega) (show (x.p : Int) ≤ 1000000000 by omega)
  have m3 := mul_bd (show (0 : Int) ≤ y + x2 by omega) (show y + x2 ≤ 220 by omega) (show (0 : Int) ≤ x.q by omega) (show (x.q : Int) ≤ 1000000000 by omega)
  obtain ⟨P1, hP1⟩ : ∃ P, y * (x.q : Int) = P := ⟨_, rfl⟩
  obtain ⟨P2, hP2⟩ : ∃ P, x2 * (x.p : Int) = P := ⟨_, rfl⟩
  obtain ⟨P3, hP3⟩ : ∃ P, (y + x2) * (x.q : Int) = P := ⟨_, rfl⟩
  rw [hP1, hP2, hP3] at hk
  rw [hP1] at m1
  rw [hP2] at m2
  rw [hP3] at m3
  have w0 := IntWalk.i64_in (y + x2) (by omega)
  have w1 := IntWalk.i64_in P1 (by omega)
  have w2 := IntWalk.i64_in P2 (by omega)
  have w3 := IntWalk.i64_in P3 (by omega)
  have w4 := IntWalk.i64_in (P1 + P2) (by omega)
  have hl4 := blk_lt h4
  have hl5 := blk_lt h5
  have hlR := blk_lt hR
  have hl10 := blk_lt h10
  have HK := Lib.hid hk
  have H4 := Lib.hid h4
  have H5 := Lib.hid h5
  have HR := Lib.hid hR
  have H10 := Lib.hid h10
  have HR := Lib.hid hr
  have HS := Lib.hid hs
  have HJ := Lib.hid hj
  have HT := Lib.hid ht
  clear hk h4 h5 hR h10 hr hs hj ht
  go_enter Tryd.func49, Tryd.ntmps49
  go_wp2_with fail
  go_region
  go_wp2
  go_quiet (fail)
  go_wp2
  go_ret
  exact ⟨ret_i (by show _ = _; rw [HK.out]; simp), bw_trans (bw_trans (bw_alloc _ _) (bw_drew _)) (bw_drewN _ _)⟩

/-- What the closures see: the tasks, the jobs, the run, the factor. -/
structure Env (w : World) (b4 b5 R b10 : Nat) (l : List Tk) (js : List Jb) (x : Fr) (high : Bool) : Prop where
  t : ∃ ao c, w.heap[b4]? = some (.cells #[.slice ao l.length c] 36 (0, 0)) ∧ RT w ao l
  j : ∃ bo d, w.heap[b5]? = some (.cells #[.slice bo js.length d] 37 (0, 0)) ∧ RJ w bo js
  r : ∃ v1 v2 v3, w.heap[R]? = some (.cells #[v1, v2, v3, .bool high] 25 (0, 0))
  f : w.heap[b10]? = some (.cells #[.int .i64 (x.p : Int), .int .i64 (x.q : Int)] 71 (0, 0))
  ok : jobsOk l js = true
  p : x.p ≤ 1000000000
  q : x.q ≤ 1000000000
theorem Env.bw {w w' : World} {b4 b5 R b10 : Nat} {l : List Tk} {js : List Jb} {x : Fr} {high : Bool} (h : Env w b4 b5 R b10 l js x high) (hb : Bw w w') : Env w' b4 b5 R b10 l js x high := by
  obtain ⟨⟨ao, c, h1, h2⟩, ⟨bo, d, h3, h4⟩, ⟨v1, v2, v3, h5⟩, h6, h7, h8, h9⟩ := h
  exact ⟨⟨ao, c, blk_bw hb h1, h2.bw hb⟩, ⟨bo, d, blk_bw hb h3, h4.bw hb⟩, ⟨v1, v2, v3, blk_bw hb h5⟩, blk_bw hb h6, h7, h8, h9⟩
/-- The task of a job of valid jobs. -/
theorem job_task {l : List Tk} {js : List Jb} (h : jobsOk l js = true) {i : Nat} (hi : i < js.length) : ∃ (q : Nat) (y z : Int) (T : Tk), js[i]? = some ⟨q, y, z⟩ ∧ l[q]? = some T ∧ T.ok = true ∧ 0 ≤ y ∧ y ≤ 200 ∧ 1 ≤ z ∧ z ≤ T.high ∧ q < l.length := by
  obtain ⟨⟨x, y, z⟩, hx⟩ := getSome hi
  obtain ⟨hso, ht0, htl, ha0, ha1, hn1, t, htk, hnh⟩ := jobIn_spec (jobs_in h hx)
  dsimp only at ht0 htl ha0 ha1 hn1 htk hnh
  obtain ⟨q, rfl⟩ : ∃ n : Nat, x = (n : Int) := ⟨x.toNat, by omega⟩
  have htk' : l[q]? = some t := by simpa using htk
  exact ⟨q, y, z, t, hx, htk', setOk_at hso htk', ha0, ha1, hn1, hnh, by omega⟩
theorem due_any {w : World} {b4 b5 R b10 : Nat} {l : List Tk} {js : List Jb} {x : Fr} {high : Bool} (h : Env w b4 b5 R b10 l js x high) {i : Nat} (hi : i < js.length) :
    Calls Tryd.prog 49 #[.int .i64 i, .pointer (some ⟨b4, 0, none⟩), .pointer (some ⟨b5, 0, none⟩), .pointer (some ⟨R, 0, none⟩), .pointer (some ⟨b10, 0, none⟩)] w fun e w' => e = .returned (.int .i64 (keyOf l js x high i)) ∧ Bw w w' := by
  obtain ⟨q, y, z, ⟨x0, x1, x2, x3, C⟩, hj, ht, hok, hy0, hy1, _, _, _⟩ := job_task h.ok hi
  obtain ⟨⟨ao, c, h1, h2⟩, ⟨bo, d, h3, h4⟩, ⟨v1, v2, v3, h5⟩, h6, h7, h8, h9⟩ := h
  have hk := (Tk.ok_iff _).1 hok
  dsimp only at hk
  cases C <;> cases high
  · exact due_false_false w b4 b5 R b10 i q y z x0 x1 x2 x3 ao bo c d l js x v1 v2 v3 h8 h9 h1 h3 h5 h6 h2 h4 hj ht hy0 hy1 (by omega) (by omega)
  · exact due_false_true w b4 b5 R b10 i q y z x0 x1 x2 x3 ao bo c d l js x v1 v2 v3 h8 h9 h1 h3 h5 h6 h2 h4 hj ht hy0 hy1 (by omega) (by omega)
  · exact due_true_false w b4 b5 R b10 i q y z x0 x1 x2 x3 ao bo c d l js x v1 v2 v3 h8 h9 h1 h3 h5 h6 h2 h4 hj ht hy0 hy1 (by omega) (by omega)
  · exact due_true_true w b4 b5 R b10 i q y z x0 x1 x2 x3 ao bo c d l js x v1 v2 v3 h8 h9 h1 h3 h5 h6 h2 h4 hj ht hy0 hy1 (by omega) (by omega)
theorem goes_at {l : List Tk} {js : List Jb} {due : Bool} {x : Fr} {high : Bool} {a b : Nat} {p q : Jb} (ha : js[a]? = some p) (hb : js[b]? = some q) :
    goesB l js due x high a b = if due = true ∧ keyOf l js x high a ≠ keyOf l js x high b then decide (keyOf l js x high a < keyOf l js x high b) else if p.task ≠ q.task then decide (p.task < q.task) else decide (p.at_ < q.at_) := by
  rw [goesB, ha, hb]

/-- Where the function of deadlines lies. -/
def dueV67 (b4 b5 R b10 : Nat) : Value := .func (.func 49) #[] #[.pointer (some ⟨b4, 0, none⟩), .pointer (some ⟨b5, 0, none⟩), .pointer (some ⟨R, 0, none⟩), .pointer (some ⟨b10, 0, none⟩)]

set_option maxRecDepth 100000 in
set_option maxHeartbeats 800000 in
theorem goes_place {w : World} {b4 b5 b6 R b10 F : Nat} {l : List Tk} {js : List Jb} {x : Fr} {high : Bool} (h : Env w b4 b5 R b10 l js x high) (h6 : w.heap[b6]? = some (.cells #[.int .i64 0] 3 (0, 0))) {a b : Nat} (ha : a < js.length) (hb : b < js.length) :
    Calls Tryd.prog 50 #[.int .i64 a, .int .i64 b, .pointer (some ⟨b6, 0, none⟩), .pointer (some ⟨F, 0, none⟩), .pointer (some ⟨b5, 0, none⟩)] w fun e w' => e = .returned (.bool (goesB l js false x high a b)) ∧ Bw w w' := by
  obtain ⟨⟨pt, pa, pn⟩, hpa⟩ := getSome ha
  obtain ⟨⟨qt, qa, qn⟩, hqb⟩ := getSome hb
  obtain ⟨⟨ao, c, h1, h2⟩, ⟨bo, d, h3, h4⟩, ⟨v1, v2, v3, h5⟩, hf, h7, h8, h9⟩ := h
  have hgo := goes_at (l := l) (due := false) (x := x) (high := high) hpa hqb
  obtain ⟨bb, oo, e1, hbs1, c0, c1, c2⟩ := h4 _ _ hpa
  obtain ⟨bb', oo', e2, hbs2, d0, d1, d2⟩ := h4 _ _ hqb
  rw [e1] at e2
  simp only [Option.some.injEq, Addr.mk.injEq] at e2
  obtain ⟨rfl, rfl, _⟩ := e2
  subst e1
  dsimp only at c0 c1 c2 d0 d1 d2 hgo
  have hl5 := blk_lt h3
  have hl6 := blk_lt h6
  have p5 := blk_cell h3 0 rfl
  have p6 := blk_cell h6 0 rfl
  rw [if_neg (by simp)] at hgo
  by_cases hne : pt = qt
  · rw [if_neg (by simp [hne])] at hgo
    have hn1 : (pt != qt) = false := by simp [hne]
    subst hne
    have HGO := Lib.hid hgo
    have H2 := Lib.hid h2
    have H3 := Lib.hid h3
    have H4 := Lib.hid h4
    have H5 := Lib.hid h5
    have HF := Lib.hid hf
    have H7 := Lib.hid h7
    have H8 := Lib.hid h8
    have H9 := Lib.hid h9
    have HPA := Lib.hid hpa
    have HQB := Lib.hid hqb
    clear hgo h2 h3 h4 h5 hf h7 h8 h9 hpa hqb
    go_enter Tryd.func50, Tryd.ntmps50
    go_wp2_with fail
    go_quiet (fail)
    go_wp2
    go_quiet (fail)
    go_wp2
    go_quiet (fail)
    go_wp2
    go_ret
    exact ⟨ret_b HGO.out.symm, blw_drewN (blw_drewN (bw_drewN _ _) _) _⟩
  · rw [if_pos hne] at hgo
    have hn1 : (pt != qt) = true := by simp [hne]
    have HGO := Lib.hid hgo
    have H2 := Lib.hid h2
    have H3 := Lib.hid h3
    have H4 := Lib.hid h4
    have H5 := Lib.hid h5
    have HF := Lib.hid hf
    have H7 := Lib.hid h7
    have H8 := Lib.hid h8
    have H9 := Lib.hid h9
    have HPA := Lib.hid hpa
    have HQB := Lib.hid hqb
    have HNE := Lib.hid hne
    clear hgo h2 h3 h4 h5 hf h7 h8 h9 hpa hqb hne
    go_enter Tryd.func50, Tryd.ntmps50
    go_wp2_with fail
    go_quiet (fail)
    go_wp2
    go_quiet (fail)
    go_wp2
    go_quiet (fail)
    go_wp2
    go_ret
    exact ⟨ret_b HGO.out.symm, blw_drewN (blw_drewN (bw_drewN _ _) _) _⟩
set_option maxRecDepth 100000 in
set_option maxHeartbeats 4000000 in
theorem goes_due {w : World} {b4 b5 b6 R b10 F : Nat} {l : List Tk} {js : List Jb} {x : Fr} {high : Bool} (h : Env w b4 b5 R b10 l js x high) (h6 : w.heap[b6]? = some (.cells #[.int .i64 1] 3 (0, 0))) (hF : ∃ E, w.heap[F]? = some (.cells #[dueV67 b4 b5 R b10] E (0, 0))) {a b : Nat} (ha : a < js.length) (hb : b < js.length) :
    Calls Tryd.prog 50 #[.int .i64 a, .int .i64 b, .pointer (some ⟨b6, 0, none⟩), .pointer (some ⟨F, 0, none⟩), .pointer (some ⟨b5, 0, none⟩)] w fun e w' => e = .returned (.bool (goesB l js true x high a b)) ∧ Bw w w' := by
  have C0 := Lib.hid (fun W (hW : Bw w W) (i : Nat) (hi : i < js.length) => due_any (h.bw hW) hi)
  obtain ⟨E, hF⟩ := hF
  unfold dueV67 at hF
  have hlF := blk_lt hF
  obtain ⟨⟨pt, pa, pn⟩, hpa⟩ := getSome ha
  obtain ⟨⟨qt, qa, qn⟩, hqb⟩ := getSome hb
  obtain ⟨⟨ao, c, h1, h2⟩, ⟨bo, d, h3, h4⟩, ⟨v1, v2, v3, h5⟩, hf, h7, h8, h9⟩ := h
  have hgo := goes_at (l := l) (due := true) (x := x) (high := high) hpa hqb
  obtain ⟨bb, oo, e1, hbs1, c0, c1, c2⟩ := h4 _ _ hpa
  obtain ⟨bb', oo', e2, hbs2, d0, d1, d2⟩ := h4 _ _ hqb
  rw [e1] at e2
  simp only [Option.some.injEq, Addr.mk.injEq] at e2
  obtain ⟨rfl, rfl, _⟩ := e2
  subst e1
  dsimp only at c0 c1 c2 d0 d1 d2 hgo
  have hl5 := blk_lt h3
  have hl6 := blk_lt h6
  have p5 := blk_cell h3 0 rfl
  have p6 := blk_cell h6 0 rfl
  have pF : w.cell? ⟨F, 0, none⟩ = some (.func (.func 49) #[] #[.pointer (some ⟨b4, 0, none⟩), .pointer (some ⟨b5, 0, none⟩), .pointer (some ⟨R, 0, none⟩), .pointer (some ⟨b10, 0, none⟩)]) := blk_cell hF 0 rfl
  have p6 : w.cell? ⟨b6, 0, none⟩ = some (.int .i64 1) := blk_cell h6 0 rfl
  have p5 : w.cell? ⟨b5, 0, none⟩ = some (.slice (some ⟨bb, oo, none⟩) js.length d) := blk_cell h3 0 rfl
  by_cases hk : keyOf l js x high a = keyOf l js x high b
  · rw [if_neg (by simp [hk])] at hgo
    have hk1 : (keyOf l js x high a != keyOf l js x high b) = false := by simp [hk]
    have H6 := Lib.hid h6
    have HF := Lib.hid hF
    have HK := Lib.hid hk
    clear h6 hF hk
    by_cases hne : pt = qt
    · rw [if_neg (by simp [hne])] at hgo
      have hn1 : (pt != qt) = false := by simp [hne]
      subst hne
      have HGO := Lib.hid hgo
      have H2 := Lib.hid h2
      have H3 := Lib.hid h3
      have H4 := Lib.hid h4
      have H5 := Lib.hid h5
      have HF := Lib.hid hf
      have H7 := Lib.hid h7
      have H8 := Lib.hid h8
      have H9 := Lib.hid h9
      have HPA := Lib.hid hpa
      have HQB := Lib.hid hqb
      clear hgo h2 h3 h4 h5 hf h7 h8 h9 hpa hqb
      go_enter Tryd.func50, Tryd.ntmps50
      go_wp2_with fail
      have r6 := fun d os => cell_regrown p6 d os
      have rF := fun d os => cell_regrown pF d os
      refine wp_region_quiet_below (by kernel_rfl) (by kernel_rfl) ?_
      repeat (go_big_quiet_step ((go_at_call 49; exact Calls.regrown_of (C0.out _ (below_regrown _ _ _) _ (by first | exact ha | exact hb)))))
      refine wpQuiet_nil ?_
      intro wq hw'
      have hbq := bw_of_ex hw'
      clear hw'
      clear r6 rF p6 pF
      have p5 := cell_bw hbq p5
      have c0 := cell_bw hbq c0
      have c1 := cell_bw hbq c1
      have d0 := cell_bw hbq d0
      have d1 := cell_bw hbq d1
      have hbs1 := Nat.lt_of_lt_of_le hbs1 hbq.size
      have hl5 := Nat.lt_of_lt_of_le hl5 hbq.size
      go_wp2
      go_quiet (fail)
      go_wp2
      go_quiet (fail)
      go_wp2
      go_ret
      exact ⟨ret_b HGO.out.symm, blw_drewN (blw_drewN hbq _) _⟩
    · rw [if_pos hne] at hgo
      have hn1 : (pt != qt) = true := by simp [hne]
      have HGO := Lib.hid hgo
      have H2 := Lib.hid h2
      have H3 := Lib.hid h3
      have H4 := Lib.hid h4
      have H5 := Lib.hid h5
      have HF := Lib.hid hf
      have H7 := Lib.hid h7
      have H8 := Lib.hid h8
      have H9 := Lib.hid h9
      have HPA := Lib.hid hpa
      have HQB := Lib.hid hqb
      have HNE := Lib.hid hne
      clear hgo h2 h3 h4 h5 hf h7 h8 h9 hpa hqb hne
      go_enter Tryd.func50, Tryd.ntmps50
      go_wp2_with fail
      have r6 := fun d os => cell_regrown p6 d os
      have rF := fun d os => cell_regrown pF d os
      refine wp_region_quiet_below (by kernel_rfl) (by kernel_rfl) ?_
      repeat (go_big_quiet_step ((go_at_call 49; exact Calls.regrown_of (C0.out _ (below_regrown _ _ _) _ (by first | exact ha | exact hb)))))
      refine wpQuiet_nil ?_
      intro wq hw'
      have hbq := bw_of_ex hw'
      clear hw'
      clear r6 rF p6 pF
      have p5 := cell_bw hbq p5
      have c0 := cell_bw hbq c0
      have c1 := cell_bw hbq c1
      have d0 := cell_bw hbq d0
      have d1 := cell_bw hbq d1
      have hbs1 := Nat.lt_of_lt_of_le hbs1 hbq.size
      have hl5 := Nat.lt_of_lt_of_le hl5 hbq.size
      go_wp2
      go_quiet (fail)
      go_wp2
      go_quiet (fail)
      go_wp2
      go_ret
      exact ⟨ret_b HGO.out.symm, blw_drewN (blw_drewN hbq _) _⟩
  · rw [if_pos ⟨rfl, hk⟩] at hgo
    have hk1 : (keyOf l js x high a != keyOf l js x high b) = true := by simp [hk]
    have HGO := Lib.hid hgo
    have H2 := Lib.hid h2
    have H3 := Lib.hid h3
    have H4 := Lib.hid h4
    have H5 := Lib.hid h5
    have HF := Lib.hid hf
    have H7 := Lib.hid h7
    have H8 := Lib.hid h8
    have H9 := Lib.hid h9
    have HPA := Lib.hid hpa
    have HQB := Lib.hid hqb
    have HK := Lib.hid hk
    have H6 := Lib.hid h6
    have HF := Lib.hid hF
    clear hgo h2 h3 h4 h5 hf h7 h8 h9 hpa hqb hk h6 hF
    go_enter Tryd.func50, Tryd.ntmps50
    go_wp2_with fail
    have p62 := p6
    have pF2 := pF
    have r6 := fun d os => cell_regrown p6 d os
    have rF := fun d os => cell_regrown pF d os
    refine wp_region_quiet_below (by kernel_rfl) (by kernel_rfl) ?_
    repeat (go_big_quiet_step ((go_at_call 49; exact Calls.regrown_of (C0.out _ (below_regrown _ _ _) _ (by first | exact ha | exact hb)))))
    refine wpQuiet_nil ?_
    intro wq hw'
    have hbq := bw_of_ex hw'
    clear hw'
    clear r6 rF p6 pF
    have p5 := cell_bw hbq p5
    have c0 := cell_bw hbq c0
    have c1 := cell_bw hbq c1
    have d0 := cell_bw hbq d0
    have d1 := cell_bw hbq d1
    have hbs1 := Nat.lt_of_lt_of_le hbs1 hbq.size
    have hl5 := Nat.lt_of_lt_of_le hl5 hbq.size
    go_wp2_with fail
    have pF := cell_bw hbq pF2
    have rF := fun d os => cell_regrown pF d os
    have hb0 := hbq
    refine wp_region_quiet_below (by kernel_rfl) (by kernel_rfl) ?_
    repeat (go_big_quiet_step ((go_at_call 49; exact Calls.regrown_of (C0.out _ (bw_trans hb0 (below_regrown _ _ _)) _ (by first | exact ha | exact hb)))))
    refine wpQuiet_nil ?_
    intro wq hw'
    have hbq := bw_of_ex hw'
    clear hw'
    go_wp2
    go_ret
    exact ⟨ret_b HGO.out.symm, bw_trans hb0 hbq⟩
end Go.Proofs.YtaadlgpglfpmpaaDoor

/-
  The walk of the program's RunJobs.
-/

namespace Go.Proofs.YtaadlgpglfpmpaaDoor
open Go.RowKit

theorem factor_bd {l : List Tk} : (factor l).1.p ≤ 1000000000 ∧ (factor l).1.q ≤ 1000000000 := by
  unfold factor
  split
  · exact ⟨by simp, by simp⟩
  · rename_i h
    have hso : setOk l = true := by
      have h1 : implB l = true := by simpa using h
      rw [implB_eq] at h1; simp at h1; exact h1.1
    split
    · exact ⟨by simp, by simp⟩
    · split
      · exact ⟨by simp, by simp⟩
      · have h1 := (share_bd hso false false)
        have h2 := (share_bd hso true false)
        have h3 := share_both hso false false
        obtain ⟨a, eA⟩ : ∃ a, share l false false = a := ⟨_, rfl⟩
        obtain ⟨b, eB⟩ : ∃ b, share l true false = b := ⟨_, rfl⟩
        rw [eA] at h1 h3
        rw [eB] at h2 h3
        rw [eA, eB]
        have hle := red_le (p := b.p * a.q) (q := b.q * (a.q - a.p))
        have h4 : b.p * a.q ≤ 16000000 := by
          calc b.p * a.q ≤ (5 * b.q) * a.q := Nat.mul_le_mul_right _ h2.2.2
            _ = 5 * (a.q * b.q) := by ac_rfl
            _ ≤ 5 * 3200000 := Nat.mul_le_mul_left _ h3
        have h5 : b.q * (a.q - a.p) ≤ 3200000 := by
          calc b.q * (a.q - a.p) ≤ b.q * a.q := Nat.mul_le_mul_left _ (Nat.sub_le _ _)
            _ = a.q * b.q := Nat.mul_comm _ _
            _ ≤ 3200000 := h3
        exact ⟨Nat.le_trans hle.1 (by omega), Nat.le_trans hle.2 (by omega)⟩

theorem box_four {w w' : World} {o p q r : Obj} (hb : Bw ((((w.alloc o).alloc p).alloc q).alloc r) w') : w'.heap[w.heap.size]? = some o ∧ w'.heap[w.heap.size + 1]? = some p ∧ w'.heap[w.heap.size + 1 + 1]? = some q ∧ w'.heap[w.heap.size + 1 + 1 + 1]? = some r := by
  obtain ⟨h1, h2, h3⟩ := box_three (w' := (((w.alloc o).alloc p).alloc q).alloc r) (bw_alloc _ _)
  refine ⟨blk_bw hb h1, blk_bw hb h2, blk_bw hb h3, ?_⟩
  have := box_last hb
  simpa using this
/-- A run of the call's own, its rows in blocks of their own. -/
def RunR (w : World) (r : Rn) (ok : Bool) (e : Ending) (w' : World) : Prop := ∃ a1 c1 a2 c2 a3 c3, e = .returned (.tuple #[rnVal a1 r.ended.length c1 a2 r.trace.length c2 a3 r.switches.length c3 r.high, .bool ok]) ∧
  Own w' w.heap.size 3 a1 (ints r.ended) ∧ Own w' w.heap.size 3 a2 (ints r.trace) ∧ Own w' w.heap.size 3 a3 (ints r.switches) ∧ Dj [a1.map (·.block), a2.map (·.block), a3.map (·.block)] ∧ Bw w w' ∧ (r.ended.length ≤ c1 ∧ r.trace.length ≤ c2 ∧ r.switches.length ≤ c3)
theorem own_le {w : World} {base E size n c : Nat} {ao : Option Addr} {xs : List Value} (h : w.ownsRow base E size (.slice ao n c) n xs) : n ≤ c := by
  rcases h.2 with ⟨e, h0⟩ | ⟨g, cap, cur, e, _, _, h, _⟩
  · simp at e; omega
  · simp at e; omega
theorem runR_none {w w' : World} {e : Ending} (he : e = .returned (.tuple #[.agg #[.slice none 0 0, .slice none 0 0, .slice none 0 0, .bool false], .bool false])) (hb : Bw w w') : RunR w none0 false e w' := by
  refine ⟨none, 0, none, 0, none, 0, he, .inl rfl, .inl rfl, .inl rfl, ?_, hb, Nat.le_refl _, Nat.le_refl _, Nat.le_refl _⟩
  intro i j g hi hj
  match i, hi with
  | 0, hi => simp at hi
  | 1, hi => simp at hi
  | 2, hi => simp at hi
  | n + 3, hi => simp at hi
theorem runJ_no {l : List Tk} {js : List Jb} {pol n : Int} (h : ¬ (jobsOk l js = true ∧ (pol = 0 ∨ (pol = 1 ∧ (factor l).2 = true)) ∧ 0 ≤ n ∧ n ≤ 200)) : runJ l js pol n = (none0, false) := by
  rw [runJ, if_neg]
  intro hg
  simp only [goB, Bool.and_eq_true, Bool.or_eq_true, decide_eq_true_eq] at hg
  exact h ⟨hg.1.1, hg.1.2, hg.2⟩

set_option maxRecDepth 100000 in
set_option maxHeartbeats 1600000 in
theorem RunI_no (ao bo : Option Addr) (c d : Nat) (w : World) (l : List Tk) (js : List Jb) (pol n : Int) (hl : l.length ≤ 1048576) (hj : js.length ≤ 1048576) (hd : js.length ≤ d) (hr : RT w ao l) (hs : RJ w bo js)
    (h : ¬ (jobsOk l js = true ∧ (pol = 0 ∨ (pol = 1 ∧ (factor l).2 = true)) ∧ 0 ≤ n ∧ n ≤ 200)) :
    Calls Tryd.prog 24 #[.slice ao l.length c, .slice bo js.length d, .int .i64 pol, .int .i64 n] w (RunR w (runJ l js pol n).1 (runJ l js pol n).2) := by
  rw [runJ_no h]
  have HR := Lib.hid hr
  have HS := Lib.hid hs
  clear hr hs
  go_enter Tryd.func24, Tryd.ntmps24
  go_wp2_with fail
  refine (FactorOf_impl _ _ _ l hl (HR.out.bw (bw_trans (bw_trans (bw_trans (bw_alloc _ _) (bw_alloc _ _)) (bw_alloc _ _)) (bw_alloc _ _)))).mono ?_
  obtain ⟨x, hx⟩ : ∃ x, (factor l).1 = x := ⟨_, rfl⟩
  obtain ⟨o, ho⟩ : ∃ o, (factor l).2 = o := ⟨_, rfl⟩
  rw [hx, ho]
  rw [ho] at h
  have HX := Lib.hid hx
  have HO := Lib.hid ho
  have H := Lib.hid h
  clear hx ho h
  rintro e w1 ⟨rfl, hb1⟩
  have hw1 := bw_trans (bw_trans (bw_trans (bw_trans (bw_alloc _ _) (bw_alloc _ _)) (bw_alloc _ _)) (bw_alloc _ _)) hb1
  obtain ⟨hb4, hb5, hb6, hb8⟩ := box_four hb1
  have HB4 := Lib.hid hb4
  have HB5 := Lib.hid hb5
  have HB6 := Lib.hid hb6
  have HB8 := Lib.hid hb8
  clear hb4 hb5 hb6 hb8
  have p4 := blk_cell HB4.out 0 rfl
  have p5 := blk_cell HB5.out 0 rfl
  have l4 := blk_lt HB4.out
  have l5 := blk_lt HB5.out
  have l6 := blk_lt HB6.out
  have l8 := blk_lt HB8.out
  go_wp2_with fail
  refine (JobsValid_impl _ _ _ _ _ l js hl hj hd (HR.out.bw (bw_trans hw1 (bw_alloc _ _))) (HS.out.bw (bw_trans hw1 (bw_alloc _ _)))).mono ?_
  obtain ⟨q, HQ⟩ : ∃ q, Hid (jobsOk l js = q) := ⟨_, rfl⟩
  rw [HQ.out]
  rintro e w2 ⟨rfl, hb2⟩
  have hw12 := bw_trans (bw_alloc w1 _) hb2
  have hw2 := bw_trans hw1 hw12
  clear p4 p5 l4 l5 l6 l8
  have p6 := blk_cell (blk_bw hw12 HB6.out) 0 rfl
  have p8 := blk_bw hw12 HB8.out
  have l6 := blk_lt (blk_bw hw12 HB6.out)
  have l8 := blk_lt p8
  have s0 := blk_cell p8 0 rfl
  have s1 := blk_cell p8 1 rfl
  have s2 := blk_cell p8 2 rfl
  have s3 := blk_cell p8 3 rfl
  have fr := fun j => blk_free p8 j
  cases q with
  | false =>
    go_wp2
    refine bodyPost_ret (v := .tuple #[.agg #[.slice none 0 0, .slice none 0 0, .slice none 0 0, .bool false], .bool false]) (by simp [results, Tryd.results24, go_sem, s0, s1, s2, s3]) rfl ?_
    exact runR_none rfl (bw_set (bw_set (bw_set (bw_set hw2 (by omega) _ _) (by omega) _ _) (by omega) _ _) (by omega) _ _)
  | true =>
    by_cases h0 : pol = 0
    · subst h0
      have e0 : ((0 : Int) != 0) = false := rfl
      by_cases hn0 : n < 0
      · go_wp2
        refine bodyPost_ret (v := .tuple #[.agg #[.slice none 0 0, .slice none 0 0, .slice none 0 0, .bool false], .bool false]) (by simp [results, Tryd.results24, go_sem, s0, s1, s2, s3]) rfl ?_
        exact runR_none rfl (bw_set (bw_set (bw_set (bw_set hw2 (by omega) _ _) (by omega) _ _) (by omega) _ _) (by omega) _ _)
      · have en0 : decide (n < 0) = false := decide_eq_false hn0
        by_cases hn1 : 200 < n
        · go_wp2
          refine bodyPost_ret (v := .tuple #[.agg #[.slice none 0 0, .slice none 0 0, .slice none 0 0, .bool false], .bool false]) (by simp [results, Tryd.results24, go_sem, s0, s1, s2, s3]) rfl ?_
          exact runR_none rfl (bw_set (bw_set (bw_set (bw_set hw2 (by omega) _ _) (by omega) _ _) (by omega) _ _) (by omega) _ _)
        · exact absurd ⟨HQ.out, .inl rfl, by omega, by omega⟩ H.out
    · have e0 : (pol != 0) = true := by simp [h0]
      by_cases h1 : pol = 1
      · subst h1
        have e1 : ((1 : Int) != 1) = false := rfl
        by_cases hn0 : n < 0
        · go_wp2
          refine bodyPost_ret (v := .tuple #[.agg #[.slice none 0 0, .slice none 0 0, .slice none 0 0, .bool false], .bool false]) (by simp [results, Tryd.results24, go_sem, s0, s1, s2, s3]) rfl ?_
          exact runR_none rfl (bw_set (bw_set (bw_set (bw_set hw2 (by omega) _ _) (by omega) _ _) (by omega) _ _) (by omega) _ _)
        · have en0 : decide (n < 0) = false := decide_eq_false hn0
          by_cases hn1 : 200 < n
          · go_wp2
            refine bodyPost_ret (v := .tuple #[.agg #[.slice none 0 0, .slice none 0 0, .slice none 0 0, .bool false], .bool false]) (by simp [results, Tryd.results24, go_sem, s0, s1, s2, s3]) rfl ?_
            exact runR_none rfl (bw_set (bw_set (bw_set (bw_set hw2 (by omega) _ _) (by omega) _ _) (by omega) _ _) (by omega) _ _)
          · have en1 : decide (200 < n) = false := decide_eq_false hn1
            cases o with
            | false =>
              go_wp2
              refine bodyPost_ret (v := .tuple #[.agg #[.slice none 0 0, .slice none 0 0, .slice none 0 0, .bool false], .bool false]) (by simp [results, Tryd.results24, go_sem, s0, s1, s2, s3]) rfl ?_
              exact runR_none rfl (bw_set (bw_set (bw_set (bw_set hw2 (by omega) _ _) (by omega) _ _) (by omega) _ _) (by omega) _ _)
            | true => exact absurd ⟨HQ.out, .inr ⟨rfl, rfl⟩, by omega, by omega⟩ H.out
      · have e1 : (pol != 1) = true := by simp [h1]
        have H0 := Lib.hid h0
        have H1 := Lib.hid h1
        clear h0 h1
        go_wp2
        refine bodyPost_ret (v := .tuple #[.agg #[.slice none 0 0, .slice none 0 0, .slice none 0 0, .bool false], .bool false]) (by simp [results, Tryd.results24, go_sem, s0, s1, s2, s3]) rfl ?_
        exact runR_none rfl (bw_set (bw_set (bw_set (bw_set hw2 (by omega) _ _) (by omega) _ _) (by omega) _ _) (by omega) _ _)
end Go.Proofs.YtaadlgpglfpmpaaDoor

/-
  The walk of the program's RunJobs: where it runs.
-/






namespace Go.Proofs.YtaadlgpglfpmpaaDoor
open Go.RowKit

theorem sorted_len {n : Nat} : ∀ {q : List Nat} (lo : Nat), q.Pairwise (· < ·) → (∀ i ∈ q, lo ≤ i ∧ i < n) → q.length ≤ n - lo
  | [], _, _, _ => by simp
  | a :: q, lo, h, hb => by
    obtain ⟨h1, h2⟩ := List.pairwise_cons.1 h
    have ha := hb a (by simp)
    have := sorted_len (q := q) (a + 1) h2 (fun i hi => ⟨h1 i hi, (hb i (by simp [hi])).2⟩)
    simp only [List.length_cons]; omega
theorem Inv.len {l : List Tk} {js : List Jb} {A : Nat → Prop} {t : Nat} {s : St} (h : Inv l js A t s) : s.left.length ≤ js.length := by
  have := sorted_len 0 h.sorted (fun i hi => ⟨Nat.zero_le _, h.lt i hi⟩); omega
theorem madeI (n : Nat) : (madeCells #[.int .i64 0] n).toList = ints (List.replicate n 0) := by
  simp only [madeCells, Array.toList_map, Array.toList_range, ints, List.map_replicate]
  rw [List.eq_replicate_iff]
  refine ⟨by simp, fun b hb => ?_⟩
  simp at hb
  obtain ⟨a, _, h⟩ := hb
  simp [Nat.mod_one] at h
  exact h.symm
theorem take_grow {C : Array Value} {k n : Nat} {x : Int} (hC : C.size = n) (hk : k < n) (h : C.toList.take k = ints (List.replicate k x)) : (C.setIfInBounds k (vi x)).toList.take (k + 1) = ints (List.replicate (k + 1) x) := by
  rw [Array.toList_setIfInBounds, List.take_succ_eq_append_getElem (by simp; omega)]
  simp only [List.getElem_set_self, List.take_set_of_le (Nat.le_refl k), h]
  simp [ints, List.replicate_succ']
theorem ran_elen (l : List Tk) (js : List Jb) (t1 : Int) (r : Nat) (n : Int) (j : Jb) (T : Tk) (s : St) : (ran l js t1 r n j T s).ended.length = s.ended.length := by
  unfold ran; split
  · simp
  · split
    · simp [dropAll_len]
    · rfl
theorem ran_trace (l : List Tk) (js : List Jb) (t1 : Int) (r : Nat) (n : Int) (j : Jb) (T : Tk) (s : St) : (ran l js t1 r n j T s).trace = s.trace := by
  unfold ran; split
  · rfl
  · split <;> rfl
theorem Own.set {w : World} {base E b : Nat} {ao : Option Addr} {xs : List Value} (h : Own w base E ao xs) (hb : b < base) (i : Nat) (v : Value) : Own (w.setCell ⟨b, i, none⟩ v) base E ao xs := by
  rcases h with h | ⟨g, cur, e, hg, hh, ht⟩
  · exact .inl h
  · exact .inr ⟨g, cur, e, hg, blk_oth hh (by omega) _ _, ht⟩
/-- Some of the blocks, each but once. -/
theorem Dj.pick {L M : List (Option Nat)} (h : Dj L) (ps : List Nat) (hp : ps.Nodup) (hM : M = ps.map fun p => L[p]?.getD none) : Dj M := by
  subst hM
  intro i j g hi hj
  simp only [List.getElem?_map] at hi hj
  cases hpi : ps[i]? with
  | none => rw [hpi] at hi; simp at hi
  | some p =>
    cases hpj : ps[j]? with
    | none => rw [hpj] at hj; simp at hj
    | some q =>
      rw [hpi] at hi; rw [hpj] at hj
      simp only [Option.map_some, Option.some.injEq] at hi hj
      have hL : ∀ p : Nat, L[p]?.getD none = some g → L[p]? = some (some g) := fun p e => by
        cases hx : L[p]? with
        | none => rw [hx] at e; simp at e
        | some v => rw [hx] at e; simp at e; rw [e]
      have := h p q g (hL p hi) (hL q hj)
      subst this
      exact (List.getElem?_inj (List.getElem?_eq_some_iff.1 hpi).1 hp).1 (hpi.trans hpj.symm)
/-- The memory ahead of the first tick: of when jobs ended the first k are laid. -/
structure Pre (wA wr : World) (n k : Nat) : Prop where
  bw : Bw wA wr
  lt : wA.heap.size + 1 + 1 + 1 < wr.heap.size
  r : wr.heap[wA.heap.size + 1 + 1 + 1]? = some (.cells #[.slice (some ⟨wA.heap.size, 0, none⟩) n n, .slice (some ⟨wA.heap.size + 1, 0, none⟩) 0 0, .slice (some ⟨wA.heap.size + 1 + 1, 0, none⟩) 0 0, .bool false] 25 (0, 0))
  t : wr.heap[wA.heap.size + 1]? = some (.cells #[] 3 (0, 0))
  sw : wr.heap[wA.heap.size + 1 + 1]? = some (.cells #[] 3 (0, 0))
  e : ∃ cur, wr.heap[wA.heap.size]? = some (.cells cur 3 (0, 0)) ∧ cur.size = n ∧ cur.toList.take k = ints (List.replicate k (-1))
theorem pre_start (wA : World) (n : Nat) : Pre wA ((((wA.alloc (.cells (madeCells #[.int .i64 0] n) 3)).alloc (.cells #[] 3)).alloc (.cells #[] 3)).alloc (.cells #[.slice (some ⟨wA.heap.size, 0, none⟩) n n, .slice (some ⟨wA.heap.size + 1, 0, none⟩) 0 0, .slice (some ⟨wA.heap.size + 1 + 1, 0, none⟩) 0 0, .bool false] 25)) n 0 := by
  obtain ⟨h1, h2, h3, h4⟩ := box_four (w := wA) (o := .cells (madeCells #[.int .i64 0] n) 3) (p := .cells #[] 3) (q := .cells #[] 3) (r := .cells #[.slice (some ⟨wA.heap.size, 0, none⟩) n n, .slice (some ⟨wA.heap.size + 1, 0, none⟩) 0 0, .slice (some ⟨wA.heap.size + 1 + 1, 0, none⟩) 0 0, .bool false] 25) (Bw.refl _)
  exact ⟨bw_trans (bw_trans (bw_trans (bw_alloc _ _) (bw_alloc _ _)) (bw_alloc _ _)) (bw_alloc _ _), by simp, h4, h2, h3, ⟨_, h1, by simp [madeCells], by simp [ints]⟩⟩
theorem Pre.step {wA wr : World} {n k : Nat} (h : Pre wA wr n k) (hk : k < n) : Pre wA (wr.setCell ⟨wA.heap.size, k, none⟩ (vi (-1))) n (k + 1) := by
  obtain ⟨cur, h1, h2, h3⟩ := h.e
  exact ⟨bw_set h.bw (Nat.le_refl _) _ _, by simpa using h.lt, blk_oth h.r (by omega) _ _, blk_oth h.t (by omega) _ _, blk_oth h.sw (by omega) _ _, ⟨_, blk_set h1 k (vi (-1)), by simpa using h2, take_grow h2 hk h3⟩⟩
theorem Pre.cells {wA wr : World} {n k : Nat} (h : Pre wA wr n k) (hk : k < n) : ∃ v, wr.cell? ⟨wA.heap.size, k, none⟩ = some v := by
  obtain ⟨cur, h1, h2, _⟩ := h.e
  exact ⟨cur[k], blk_cell h1 k (by simp [h2, hk])⟩
theorem Pre.free {wA wr : World} {n k : Nat} (h : Pre wA wr n k) (i : Nat) : wr.frozen? ⟨wA.heap.size, i, none⟩ = false := by
  obtain ⟨cur, h1, _, _⟩ := h.e
  exact blk_free h1 i
/-- The memory at a tick. -/
abbrev MM (w w1 wA wo wr : World) (vt vs vl vk : Value) (s : St) (ks : List Nat) : Prop := Mem wA wr 64 (wA.heap.size + 1 + 1 + 1) wA.heap.size wo.heap.size (wo.heap.size + 1 + 1) (dueV67 w.heap.size (w.heap.size + 1) (wA.heap.size + 1 + 1 + 1) w1.heap.size) vt vs vl vk s ks
theorem cell_new0 (w : World) (y : Int) (E : TypeId) : (w.alloc (.cells #[vi y] E)).cell? ⟨w.heap.size, 0, none⟩ = some (vi y) := blk_cell (heap_alloc_new w _) 0 rfl
theorem cell_new1 (w : World) (o : Obj) (y : Int) (E : TypeId) : ((w.alloc o).alloc (.cells #[vi y] E)).cell? ⟨w.heap.size + 1, 0, none⟩ = some (vi y) := by
  simp
theorem Dj.of_list {L : List (Option Nat)} (h : (L.filterMap id).Pairwise (· ≠ ·)) : Dj L := by
  induction L with
  | nil => intro i j g hi; simp at hi
  | cons a L ih =>
    have ih' : Dj L := by
      cases a with
      | none => exact ih (by simpa using h)
      | some a => exact ih (by simp at h; exact h.2)
    have hno : ∀ (g j : Nat), a = some g → L[j]? = some (some g) → False := fun g j e hj => by
      subst e
      simp only [List.filterMap_cons, id] at h
      exact (List.pairwise_cons.1 h).1 g (List.mem_filterMap.2 ⟨some g, List.mem_of_getElem? hj, rfl⟩) rfl
    intro i j g hi hj
    match i, j, hi, hj with
    | 0, 0, _, _ => rfl
    | 0, j + 1, hi, hj => exact (hno g j (by simpa using hi) (by simpa using hj)).elim
    | i + 1, 0, hi, hj => exact (hno g i (by simpa using hj) (by simpa using hi)).elim
    | i + 1, j + 1, hi, hj => rw [ih' i j g (by simpa using hi) (by simpa using hj)]
theorem Pre.mem {wA wr : World} {n : Nat} (h : Pre wA wr n n) (fv : Value) (TF : Nat) : Mem wA (((wr.alloc (.cells (madeCells #[.int .i64 0] n) 3)).alloc (.cells #[] 3)).alloc (.cells #[fv] TF)) TF (wA.heap.size + 1 + 1 + 1) wA.heap.size wr.heap.size (wr.heap.size + 1 + 1) fv
    (.slice (some ⟨wA.heap.size + 1, 0, none⟩) 0 0) (.slice (some ⟨wA.heap.size + 1 + 1, 0, none⟩) 0 0) (.slice (some ⟨wr.heap.size + 1, 0, none⟩) 0 0) (.slice none 0 0) (st0 n) [] := by
  obtain ⟨cur, h1, h2, h3⟩ := h.e
  have hb : Bw wr (((wr.alloc (.cells (madeCells #[.int .i64 0] n) 3)).alloc (.cells #[] 3)).alloc (.cells #[fv] TF)) := bw_trans (bw_trans (bw_alloc _ _) (bw_alloc _ _)) (bw_alloc _ _)
  obtain ⟨k1, k2, k3⟩ := box_three (w := wr) (o := .cells (madeCells #[.int .i64 0] n) 3) (p := .cells #[] 3) (q := .cells #[fv] TF) (Bw.refl _)
  have hlt := h.lt
  have row : ∀ {W : World} {g : Nat}, wA.heap.size ≤ g → W.heap[g]? = some (.cells #[] 3 (0, 0)) → W.ownsRow wA.heap.size 3 1 (.slice (some ⟨g, 0, none⟩) 0 0) 0 [] := fun {W g} hg hW => ⟨rfl, .inr ⟨g, 0, #[], rfl, hg, hW, Nat.le_refl _, by simp, by simp, by simp⟩⟩
  refine ⟨bw_trans h.bw hb, ⟨by omega, by omega, by omega, by omega⟩, by simpa [st0] using blk_bw hb h.r, k3, ⟨cur, blk_bw hb h1, (?_ : cur.toList = ints (List.replicate n (-1)))⟩, ⟨_, k1, madeI n⟩, row (by omega) (blk_bw hb h.t), row (by omega) (blk_bw hb h.sw), row (by omega) k2, World.ownsRow_nil _ _ _ _, ?_⟩
  · rw [← h3, List.take_of_length_le (by simp [h2])]
  · refine Dj.of_list ?_
    simp [Value.ownBlock]
    omega

end Go.Proofs.YtaadlgpglfpmpaaDoor
