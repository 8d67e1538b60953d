import Derived.Test.YtaadlgpglfpmpaaDoorRd
import Derived.Deep.RegionHeld3
import Derived.Test.YtaadlgpglfpmpaaDoorGA
import Derived.Test.YtaadlgpglfpmpaaDoorRaise

/-
  The walks of the functions that draw tasks. What they return is small; of the blocks that were there only the reader's own turns.
-/



namespace Go.Proofs.YtaadlgpglfpmpaaDoor
open Go.RowKit

/-- Small numbers. -/
def Sm (t : Tk) : Prop := (-100 ≤ t.low ∧ t.low ≤ 100) ∧ (-100 ≤ t.high ∧ t.high ≤ 100) ∧ (-100 ≤ t.due ∧ t.due ≤ 100) ∧ (-100 ≤ t.every ∧ t.every ≤ 100)

theorem cell_oth2 {w : World} {g i j : Nat} {v u : Value} (h : w.cell? ⟨g, i, none⟩ = some v) (hne : i ≠ j) : (w.setCell ⟨g, j, none⟩ u).cell? ⟨g, i, none⟩ = some v := by
  exact (World.cell?_setCell_other w _ _ _ (fun e => hne (by injection e with _ e2 _; exact e2.symm))).trans h
theorem sm_mk {a b c d : Int} {e : Bool} (h1 : -100 ≤ a ∧ a ≤ 100) (h2 : -100 ≤ b ∧ b ≤ 100) (h3 : -100 ≤ c ∧ c ≤ 100) (h4 : -100 ≤ d ∧ d ≤ 100) : Sm ⟨a, b, c, d, e⟩ := ⟨h1, h2, h3, h4⟩
theorem dr_set5 {w w' : World} {base G q g : Nat} {a b c d e : Value} (h : Rd w' base G q) (hh : HitR G (G + 1) w w') (hg : w.heap.size ≤ g) (hG : G < w.heap.size) (hb : base ≤ G := by omega) :
    Dr w (((((w'.setCell ⟨g, 0, none⟩ a).setCell ⟨g, 1, none⟩ b).setCell ⟨g, 2, none⟩ c).setCell ⟨g, 3, none⟩ d).setCell ⟨g, 4, none⟩ e) base G q :=
  ⟨Rd.set (Rd.set (Rd.set (Rd.set (Rd.set h (by omega) (by omega) 0 _) (by omega) (by omega) 1 _) (by omega) (by omega) 2 _) (by omega) (by omega) 3 _) (by omega) (by omega) 4 _,
    hitR_own (hitR_own (hitR_own (hitR_own (hitR_own hh hg 0 _) hg 1 _) hg 2 _) hg 3 _) hg 4 _⟩


def TaskEnd (w : World) (base G p : Nat) (e : Ending) (w' : World) : Prop := ∃ (t : Tk) (q : Nat), e = .returned (tkVal t) ∧ Sm t ∧ q ≤ p + 6 ∧ Dr w w' base G q

set_option maxRecDepth 100000 in
set_option maxHeartbeats 3200000 in
theorem l1Task_any (w : World) (base G p : Nat) (hr : Rd w base G p) (hp : p ≤ 900000) :
    Calls Tryd.prog 89 #[.pointer (some ⟨G, 0, none⟩)] w (TaskEnd w base G p) := by
  have hG := hr.lt
  have hbG := hr.1
  have HR := Lib.hid hr
  clear hr
  go_enter Tryd.func89, Tryd.ntmps89
  go_wp2_with fail
  refine (num_any _ base G p (w.heap.size + 1) [8, 10, 5, 4, 12, 20, 6, 2] 8 (by repeat (first | exact HR.out | refine Rd.bw ?_ (bw_alloc _ _))) (by omega) (by simp) (by simp) (by omega) (ri_lit _ (by have := heap_alloc_new (w.alloc (.cells #[vi 0, vi 0, vi 0, vi 0, .bool false] 76)) (.cells #[vi 8, vi 10, vi 5, vi 4, vi 12, vi 20, vi 6, vi 2] 3); simpa using this) rfl)).mono ?_
  rintro e w1 ⟨ev, rfl, hev, hd1⟩
  have hev1 : 2 ≤ ev ∧ ev ≤ 20 := by simp at hev; omega
  obtain ⟨ev1, ev2⟩ := hev1
  have hz1 := hd1.2.size
  simp only [World.size_alloc] at hz1
  have HR1 := Lib.hid hd1.1
  have HH1 := Lib.hid ((HitR.of_bw (lo := G) (hi := G + 1) (bw_trans (bw_alloc w _) (bw_alloc _ _))).trans hd1.2)
  have RB1 := Lib.hid (blk_hit hd1.2 (blk_bw (bw_alloc _ _) (heap_alloc_new w (.cells #[vi 0, vi 0, vi 0, vi 0, .bool false] 76))) (.inr (by omega)))
  clear hev hd1
  go_wp2_with fail
  refine (pick_any _ base G (p + 1) _ HR1.out (by omega)).mono ?_
  rintro e w2 ⟨r1, rfl, hr1, hd2⟩
  have hz2 := hd2.2.size
  have HR2 := Lib.hid hd2.1
  have HH2 := Lib.hid (HH1.out.trans hd2.2)
  have RB2 := Lib.hid (blk_hit hd2.2 RB1.out (.inr (by omega)))
  have hr1b : (r1 : Int) ≤ 20 := by omega
  clear hd2
  go_wp2_with fail
  refine (pick_any _ base G _ _ (HR2.out.bw (bw_alloc _ _)) (by omega)).mono ?_
  rintro e w3 ⟨r3, rfl, hr3, hd3⟩
  have hz3 := hd3.2.size
  try simp only [World.size_alloc] at hz3
  try simp only [World.size_setCell] at hz3
  have HR3 := Lib.hid hd3.1
  have HH3 := Lib.hid (HitR.trans (hitR_alloc HH2.out _) hd3.2)
  have RB3 := Lib.hid (blk_hit hd3.2 (blk_bw (bw_alloc _ _) RB2.out) (.inr (by omega)))
  have TB3 := Lib.hid (blk_hit hd3.2 (heap_alloc_new w2 _) (.inr (by omega)))
  clear hd3
  by_cases h3 : r3 = 0
  · subst h3
    have t4 := blk_cell TB3.out 4 rfl
    have f4 := blk_free TB3.out 4
    go_wp2_with fail
    refine (pick_any _ base G _ _ (HR3.out.set (by omega) (by omega) 4 (.bool true)) (by omega)).mono ?_
    rintro e w4 ⟨r4, rfl, hr4, hd4⟩
    have hz4 := hd4.2.size
    try simp only [World.size_alloc] at hz4
    try simp only [World.size_setCell] at hz4
    have HR4 := Lib.hid hd4.1
    have HH4 := Lib.hid (HitR.trans (hitR_own HH3.out (by omega) 4 _) hd4.2)
    have RB4 := Lib.hid (blk_hit hd4.2 (blk_oth RB3.out (by omega) 4 _) (.inr (by omega)))
    have TB4 := Lib.hid (blk_hit hd4.2 (show _ = some (Obj.cells #[vi (1 + (r1 : Int)), vi (1 + (r1 : Int)), vi ev, vi ev, .bool true] _ _) from blk_set TB3.out 4 (.bool true)) (.inr (by omega)))
    clear hd4
    clear t4 f4
    have t1 := blk_cell TB4.out 1 rfl
    have f1 := blk_free TB4.out 1
    have hi1 : 1 + (r1 : Int) + r4 ≤ ev := by omega
    have hi0 : decide (ev < 1 + (r1 : Int) + r4) = false := by simp; omega
    go_wp2_with fail
    refine (pick_any _ base G _ _ (HR4.out.set (by omega) (by omega) 1 _) (by omega)).mono ?_
    rintro e w5 ⟨r5, rfl, hr5, hd5⟩
    have hz5 := hd5.2.size
    try simp only [World.size_alloc] at hz5
    try simp only [World.size_setCell] at hz5
    have HR5 := Lib.hid hd5.1
    have HH5 := Lib.hid (HitR.trans (hitR_own HH4.out (by omega) 1 _) hd5.2)
    have RB5 := Lib.hid (blk_hit hd5.2 (blk_oth RB4.out (by omega) 1 _) (.inr (by omega)))
    have TB5 := Lib.hid (blk_hit hd5.2 (show _ = some (Obj.cells #[vi (1 + (r1 : Int)), vi (1 + (r1 : Int) + r4), vi ev, vi ev, .bool true] _ _) from blk_set TB4.out 1 (vi (1 + (r1 : Int) + r4))) (.inr (by omega)))
    clear hd5
    clear t1 f1
    by_cases h5 : r5 = 0
    · subst h5
      have t1 := blk_cell TB5.out 1 rfl
      have t2 := blk_cell TB5.out 2 rfl
      have f2 := blk_free TB5.out 2
      have wr1 := IntWalk.i64_in (ev - (1 + (r1 : Int) + r4)) (by omega)
      have wr2 := IntWalk.i64_in (ev - (1 + (r1 : Int) + r4) + 1) (by omega)
      go_wp2_with fail
      go_region_held3 (fun W => W.cell? ⟨w2.heap.size, 1, none⟩ = some (.int .i64 (1 + (r1 : Int) + r4))) (first | exact t1 | exact cell_hit hd6.2 t1 (.inr (by omega)) | exact cell_oth2 (cell_hit hd6.2 t1 (.inr (by omega))) (by decide)) (first | (go_at_call 42; refine (pick_any _ base G _ _ (HR5.out.bw (bw_drew _)) (by omega)).mono ?_; rintro e w6 ⟨r6, rfl, hr6, hd6⟩; have t2' := cell_hit hd6.2 t2 (.inr (by omega)); have f2' := blk_free (blk_hit hd6.2 TB5.out (.inr (by omega))) 2; have hr6b : (r6 : Int) ≤ 20 := (by omega); have hw6 : IntKind.i64.wrap ((1 + (r1 : Int) + r4) + (r6 : Int)) = (1 + (r1 : Int) + r4) + (r6 : Int) := IntWalk.i64_in _ (by omega)))
      clear wr1 wr2 hw6 t1 t2 f2 t2' f2'
      have HR6 := Lib.hid hd6.1
      have HH6 := Lib.hid (HH5.out.trans ((HitR.of_bw (bw_drew _)).trans hd6.2))
      have RB6 := Lib.hid (blk_oth (blk_hit hd6.2 RB5.out (.inr (by omega))) (show w.heap.size ≠ w2.heap.size by omega) 2 (.int .i64 ((1 + (r1 : Int) + r4) + (r6 : Int))))
      have TB6 := Lib.hid (show _ = some (Obj.cells #[vi (1 + (r1 : Int)), vi (1 + (r1 : Int) + r4), vi ((1 + (r1 : Int) + r4) + (r6 : Int)), vi ev, .bool true] _ _) from blk_set (blk_hit hd6.2 TB5.out (.inr (by omega))) 2 (vi ((1 + (r1 : Int) + r4) + (r6 : Int))))
      clear hd6
      have t0 := blk_cell TB6.out 0 rfl
      have t1 := blk_cell TB6.out 1 rfl
      have t2 := blk_cell TB6.out 2 rfl
      have t3 := blk_cell TB6.out 3 rfl
      have t4 := blk_cell TB6.out 4 rfl
      have s0 := blk_cell RB6.out 0 rfl
      have s1 := blk_cell RB6.out 1 rfl
      have s2 := blk_cell RB6.out 2 rfl
      have s3 := blk_cell RB6.out 3 rfl
      have s4 := blk_cell RB6.out 4 rfl
      have fr := fun j => blk_free RB6.out j
      go_wp2
      refine bodyPost_ret (v := .agg #[.int .i64 (1 + (r1 : Int)), .int .i64 (1 + (r1 : Int) + r4), .int .i64 ((1 + (r1 : Int) + r4) + (r6 : Int)), .int .i64 ev, .bool true]) (by simp [results, Tryd.results89, go_sem, s0, s1, s2, s3, s4]) rfl ?_
      exact ⟨⟨1 + (r1 : Int), (1 + (r1 : Int) + r4), ((1 + (r1 : Int) + r4) + (r6 : Int)), ev, true⟩, _, rfl, sm_mk (by omega) (by omega) (by omega) (by omega), by omega, (dr_set5 (HR6.out.set (by omega) (by omega) 2 _) (hitR_own HH6.out (by omega) 2 _) (by omega) (by omega))⟩
    · have h5b : ((r5 : Int) == 0) = false := by simp; omega
      have t0 := blk_cell TB5.out 0 rfl
      have t1 := blk_cell TB5.out 1 rfl
      have t2 := blk_cell TB5.out 2 rfl
      have t3 := blk_cell TB5.out 3 rfl
      have t4 := blk_cell TB5.out 4 rfl
      have s0 := blk_cell RB5.out 0 rfl
      have s1 := blk_cell RB5.out 1 rfl
      have s2 := blk_cell RB5.out 2 rfl
      have s3 := blk_cell RB5.out 3 rfl
      have s4 := blk_cell RB5.out 4 rfl
      have fr := fun j => blk_free RB5.out j
      clear h5
      go_wp2
      refine bodyPost_ret (v := .agg #[.int .i64 (1 + (r1 : Int)), .int .i64 (1 + (r1 : Int) + r4), .int .i64 ev, .int .i64 ev, .bool true]) (by simp [results, Tryd.results89, go_sem, s0, s1, s2, s3, s4]) rfl ?_
      exact ⟨⟨1 + (r1 : Int), (1 + (r1 : Int) + r4), ev, ev, true⟩, _, rfl, sm_mk (by omega) (by omega) (by omega) (by omega), by omega, (dr_set5 HR5.out HH5.out (by omega) (by omega))⟩
  · have h3b : ((r3 : Int) == 0) = false := by simp; omega
    have t1 := blk_cell TB3.out 1 rfl
    clear h3
    have hi1 : 1 + (r1 : Int) ≤ ev := by omega
    have hi0 : decide (ev < 1 + (r1 : Int)) = false := by simp; omega
    go_wp2_with fail
    refine (pick_any _ base G _ _ HR3.out (by omega)).mono ?_
    rintro e w5 ⟨r5, rfl, hr5, hd5⟩
    have hz5 := hd5.2.size
    try simp only [World.size_alloc] at hz5
    try simp only [World.size_setCell] at hz5
    have HR5 := Lib.hid hd5.1
    have HH5 := Lib.hid (HitR.trans HH3.out hd5.2)
    have RB5 := Lib.hid (blk_hit hd5.2 RB3.out (.inr (by omega)))
    have TB5 := Lib.hid (blk_hit hd5.2 TB3.out (.inr (by omega)))
    clear hd5
    clear t1
    by_cases h5 : r5 = 0
    · subst h5
      have t1 := blk_cell TB5.out 1 rfl
      have t2 := blk_cell TB5.out 2 rfl
      have f2 := blk_free TB5.out 2
      have wr1 := IntWalk.i64_in (ev - (1 + (r1 : Int))) (by omega)
      have wr2 := IntWalk.i64_in (ev - (1 + (r1 : Int)) + 1) (by omega)
      go_wp2_with fail
      go_region_held3 (fun W => W.cell? ⟨w2.heap.size, 1, none⟩ = some (.int .i64 (1 + (r1 : Int)))) (first | exact t1 | exact cell_hit hd6.2 t1 (.inr (by omega)) | exact cell_oth2 (cell_hit hd6.2 t1 (.inr (by omega))) (by decide)) (first | (go_at_call 42; refine (pick_any _ base G _ _ (HR5.out.bw (bw_drew _)) (by omega)).mono ?_; rintro e w6 ⟨r6, rfl, hr6, hd6⟩; have t2' := cell_hit hd6.2 t2 (.inr (by omega)); have f2' := blk_free (blk_hit hd6.2 TB5.out (.inr (by omega))) 2; have hr6b : (r6 : Int) ≤ 20 := (by omega); have hw6 : IntKind.i64.wrap ((1 + (r1 : Int)) + (r6 : Int)) = (1 + (r1 : Int)) + (r6 : Int) := IntWalk.i64_in _ (by omega)))
      clear wr1 wr2 hw6 t1 t2 f2 t2' f2'
      have HR6 := Lib.hid hd6.1
      have HH6 := Lib.hid (HH5.out.trans ((HitR.of_bw (bw_drew _)).trans hd6.2))
      have RB6 := Lib.hid (blk_oth (blk_hit hd6.2 RB5.out (.inr (by omega))) (show w.heap.size ≠ w2.heap.size by omega) 2 (.int .i64 ((1 + (r1 : Int)) + (r6 : Int))))
      have TB6 := Lib.hid (show _ = some (Obj.cells #[vi (1 + (r1 : Int)), vi (1 + (r1 : Int)), vi ((1 + (r1 : Int)) + (r6 : Int)), vi ev, .bool false] _ _) from blk_set (blk_hit hd6.2 TB5.out (.inr (by omega))) 2 (vi ((1 + (r1 : Int)) + (r6 : Int))))
      clear hd6
      have t0 := blk_cell TB6.out 0 rfl
      have t1 := blk_cell TB6.out 1 rfl
      have t2 := blk_cell TB6.out 2 rfl
      have t3 := blk_cell TB6.out 3 rfl
      have t4 := blk_cell TB6.out 4 rfl
      have s0 := blk_cell RB6.out 0 rfl
      have s1 := blk_cell RB6.out 1 rfl
      have s2 := blk_cell RB6.out 2 rfl
      have s3 := blk_cell RB6.out 3 rfl
      have s4 := blk_cell RB6.out 4 rfl
      have fr := fun j => blk_free RB6.out j
      go_wp2
      refine bodyPost_ret (v := .agg #[.int .i64 (1 + (r1 : Int)), .int .i64 (1 + (r1 : Int)), .int .i64 ((1 + (r1 : Int)) + (r6 : Int)), .int .i64 ev, .bool false]) (by simp [results, Tryd.results89, go_sem, s0, s1, s2, s3, s4]) rfl ?_
      exact ⟨⟨1 + (r1 : Int), (1 + (r1 : Int)), ((1 + (r1 : Int)) + (r6 : Int)), ev, false⟩, _, rfl, sm_mk (by omega) (by omega) (by omega) (by omega), by omega, (dr_set5 (HR6.out.set (by omega) (by omega) 2 _) (hitR_own HH6.out (by omega) 2 _) (by omega) (by omega))⟩
    · have h5b : ((r5 : Int) == 0) = false := by simp; omega
      have t0 := blk_cell TB5.out 0 rfl
      have t1 := blk_cell TB5.out 1 rfl
      have t2 := blk_cell TB5.out 2 rfl
      have t3 := blk_cell TB5.out 3 rfl
      have t4 := blk_cell TB5.out 4 rfl
      have s0 := blk_cell RB5.out 0 rfl
      have s1 := blk_cell RB5.out 1 rfl
      have s2 := blk_cell RB5.out 2 rfl
      have s3 := blk_cell RB5.out 3 rfl
      have s4 := blk_cell RB5.out 4 rfl
      have fr := fun j => blk_free RB5.out j
      clear h5
      go_wp2
      refine bodyPost_ret (v := .agg #[.int .i64 (1 + (r1 : Int)), .int .i64 (1 + (r1 : Int)), .int .i64 ev, .int .i64 ev, .bool false]) (by simp [results, Tryd.results89, go_sem, s0, s1, s2, s3, s4]) rfl ?_
      exact ⟨⟨1 + (r1 : Int), (1 + (r1 : Int)), ev, ev, false⟩, _, rfl, sm_mk (by omega) (by omega) (by omega) (by omega), by omega, (dr_set5 HR5.out HH5.out (by omega) (by omega))⟩

def WrongEnd (w : World) (base G p : Nat) (e : Ending) (w' : World) : Prop := ∃ (t : Tk) (q : Nat), e = .returned (tkVal t) ∧ Sm t ∧ q ≤ p + 2 ∧ Dr w w' base G q
theorem mem_sm {x : Int} {l : List Int} (h : x ∈ l) (hl : ∀ y ∈ l, -100 ≤ y ∧ y ≤ 100) : -100 ≤ x ∧ x ≤ 100 := hl x h

set_option maxRecDepth 100000 in
set_option maxHeartbeats 3200000 in
theorem l1Wrong_any (w : World) (base G p : Nat) (t : Tk) (hr : Rd w base G p) (hp : p ≤ 900000) (ht : Sm t) :
    Calls Tryd.prog 67 #[.pointer (some ⟨G, 0, none⟩), tkVal t] w (WrongEnd w base G p) := by
  obtain ⟨t0, t1, t2, t3, t4⟩ := t
  obtain ⟨⟨a0, b0⟩, ⟨a1, b1⟩, ⟨a2, b2⟩, ⟨a3, b3⟩⟩ := ht
  dsimp only at a0 b0 a1 b1 a2 b2 a3 b3
  have hG := hr.lt
  have hbG := hr.1
  have HR := Lib.hid hr
  clear hr
  go_enter Tryd.func67, Tryd.ntmps67
  go_wp2_with fail
  refine (pick_any _ base G _ _ ((HR.out.bw (bw_alloc _ _)).bw (bw_alloc _ _)) (by omega)).mono ?_
  rintro e w1 ⟨r, rfl, hr1, hd1⟩
  have hz1 := hd1.2.size
  simp only [World.size_alloc] at hz1
  have HR1 := Lib.hid hd1.1
  have HH1 := Lib.hid (HitR.trans (hitR_alloc (hitR_alloc (HitR.refl G (G + 1) w) _) _) hd1.2)
  have TB1 := Lib.hid (blk_hit hd1.2 (blk_bw (bw_alloc _ _) (heap_alloc_new w (.cells #[vi t0, vi t1, vi t2, vi t3, .bool t4] 76))) (.inr (by omega)))
  have RB1 := Lib.hid (blk_hit hd1.2 (heap_alloc_new (w.alloc (.cells #[vi t0, vi t1, vi t2, vi t3, .bool t4] 76)) (.cells #[vi 0, vi 0, vi 0, vi 0, .bool false] 76)) (.inr (by simp; omega)))
  simp only [World.size_alloc] at RB1
  clear hd1
  rcases (show r = 0 ∨ r = 1 ∨ r = 2 ∨ r = 3 ∨ r = 4 ∨ 5 ≤ r by omega) with h | h | h | h | h | h
  · subst h
    go_wp2_with fail
    refine (num_any _ base G _ _ [0, -1, 21, 1] 4 (HR1.out.bw (bw_alloc _ _)) (by omega) (by simp) (by simp) (by omega) (ri_lit _ (heap_alloc_new w1 _) rfl)).mono ?_
    rintro e w2 ⟨x, rfl, hx, hd2⟩
    obtain ⟨x0, x1⟩ := mem_sm hx (by decide)
    have hz2 := hd2.2.size
    simp only [World.size_alloc] at hz2
    have HR2 := Lib.hid hd2.1
    have HH2 := Lib.hid (HitR.trans (hitR_alloc HH1.out _) hd2.2)
    have hb1 := blk_lt TB1.out
    have hb2 := blk_lt RB1.out
    have TB3 := Lib.hid (blk_hit hd2.2 (blk_bw (bw_alloc _ _) TB1.out) (.inr (by omega)))
    have RB3 := Lib.hid (blk_hit hd2.2 (blk_bw (bw_alloc _ _) RB1.out) (.inr (by omega)))
    clear hd2 hx
    have f0 := blk_free TB3.out 0
    have e0 := blk_cell TB3.out 0 rfl
    have TB2 := Lib.hid (show (w2.setCell ⟨w.heap.size, 0, none⟩ (vi x)).heap[w.heap.size]? = some (Obj.cells #[vi x, vi t1, vi t2, vi t3, .bool t4] _ _) from blk_set TB3.out 0 (vi x))
    have RB2 := Lib.hid (blk_oth RB3.out (show w.heap.size + 1 ≠ w.heap.size by omega) 0 (vi x))
    have c0 := blk_cell TB2.out 0 rfl
    have c1 := blk_cell TB2.out 1 rfl
    have c2 := blk_cell TB2.out 2 rfl
    have c3 := blk_cell TB2.out 3 rfl
    have c4 := blk_cell TB2.out 4 rfl
    have s0 := blk_cell RB2.out 0 rfl
    have s1 := blk_cell RB2.out 1 rfl
    have s2 := blk_cell RB2.out 2 rfl
    have s3 := blk_cell RB2.out 3 rfl
    have s4 := blk_cell RB2.out 4 rfl
    have fr := fun j => blk_free RB2.out j
    go_wp2
    refine bodyPost_ret (v := .agg #[.int .i64 x, .int .i64 t1, .int .i64 t2, .int .i64 t3, .bool t4]) (by simp [results, Tryd.results67, go_sem, s0, s1, s2, s3, s4]) rfl ?_
    exact ⟨⟨x, t1, t2, t3, t4⟩, _, rfl, sm_mk ⟨by assumption, by assumption⟩ ⟨by assumption, by assumption⟩ ⟨by assumption, by assumption⟩ ⟨by assumption, by assumption⟩, by omega, (dr_set5 (HR2.out.set (by omega) (by omega) 0 _) (hitR_own HH2.out (by omega) 0 _) (by omega) (by omega))⟩
  · subst h
    go_wp2_with fail
    refine (num_any _ base G _ _ [0, 21, 5] 3 (HR1.out.bw (bw_alloc _ _)) (by omega) (by simp) (by simp) (by omega) (ri_lit _ (heap_alloc_new w1 _) rfl)).mono ?_
    rintro e w2 ⟨x, rfl, hx, hd2⟩
    obtain ⟨x0, x1⟩ := mem_sm hx (by decide)
    have hz2 := hd2.2.size
    simp only [World.size_alloc] at hz2
    have HR2 := Lib.hid hd2.1
    have HH2 := Lib.hid (HitR.trans (hitR_alloc HH1.out _) hd2.2)
    have hb1 := blk_lt TB1.out
    have hb2 := blk_lt RB1.out
    have TB3 := Lib.hid (blk_hit hd2.2 (blk_bw (bw_alloc _ _) TB1.out) (.inr (by omega)))
    have RB3 := Lib.hid (blk_hit hd2.2 (blk_bw (bw_alloc _ _) RB1.out) (.inr (by omega)))
    clear hd2 hx
    have f0 := blk_free TB3.out 1
    have e0 := blk_cell TB3.out 1 rfl
    have TB2 := Lib.hid (show (w2.setCell ⟨w.heap.size, 1, none⟩ (vi x)).heap[w.heap.size]? = some (Obj.cells #[vi t0, vi x, vi t2, vi t3, .bool t4] _ _) from blk_set TB3.out 1 (vi x))
    have RB2 := Lib.hid (blk_oth RB3.out (show w.heap.size + 1 ≠ w.heap.size by omega) 1 (vi x))
    have c0 := blk_cell TB2.out 0 rfl
    have c1 := blk_cell TB2.out 1 rfl
    have c2 := blk_cell TB2.out 2 rfl
    have c3 := blk_cell TB2.out 3 rfl
    have c4 := blk_cell TB2.out 4 rfl
    have s0 := blk_cell RB2.out 0 rfl
    have s1 := blk_cell RB2.out 1 rfl
    have s2 := blk_cell RB2.out 2 rfl
    have s3 := blk_cell RB2.out 3 rfl
    have s4 := blk_cell RB2.out 4 rfl
    have fr := fun j => blk_free RB2.out j
    go_wp2
    refine bodyPost_ret (v := .agg #[.int .i64 t0, .int .i64 x, .int .i64 t2, .int .i64 t3, .bool t4]) (by simp [results, Tryd.results67, go_sem, s0, s1, s2, s3, s4]) rfl ?_
    exact ⟨⟨t0, x, t2, t3, t4⟩, _, rfl, sm_mk ⟨by assumption, by assumption⟩ ⟨by assumption, by assumption⟩ ⟨by assumption, by assumption⟩ ⟨by assumption, by assumption⟩, by omega, (dr_set5 (HR2.out.set (by omega) (by omega) 1 _) (hitR_own HH2.out (by omega) 1 _) (by omega) (by omega))⟩
  · subst h
    go_wp2_with fail
    refine (num_any _ base G _ _ [0, 21, 20] 3 (HR1.out.bw (bw_alloc _ _)) (by omega) (by simp) (by simp) (by omega) (ri_lit _ (heap_alloc_new w1 _) rfl)).mono ?_
    rintro e w2 ⟨x, rfl, hx, hd2⟩
    obtain ⟨x0, x1⟩ := mem_sm hx (by decide)
    have hz2 := hd2.2.size
    simp only [World.size_alloc] at hz2
    have HR2 := Lib.hid hd2.1
    have HH2 := Lib.hid (HitR.trans (hitR_alloc HH1.out _) hd2.2)
    have hb1 := blk_lt TB1.out
    have hb2 := blk_lt RB1.out
    have TB3 := Lib.hid (blk_hit hd2.2 (blk_bw (bw_alloc _ _) TB1.out) (.inr (by omega)))
    have RB3 := Lib.hid (blk_hit hd2.2 (blk_bw (bw_alloc _ _) RB1.out) (.inr (by omega)))
    clear hd2 hx
    have f0 := blk_free TB3.out 2
    have e0 := blk_cell TB3.out 2 rfl
    have TB2 := Lib.hid (show (w2.setCell ⟨w.heap.size, 2, none⟩ (vi x)).heap[w.heap.size]? = some (Obj.cells #[vi t0, vi t1, vi x, vi t3, .bool t4] _ _) from blk_set TB3.out 2 (vi x))
    have RB2 := Lib.hid (blk_oth RB3.out (show w.heap.size + 1 ≠ w.heap.size by omega) 2 (vi x))
    have c0 := blk_cell TB2.out 0 rfl
    have c1 := blk_cell TB2.out 1 rfl
    have c2 := blk_cell TB2.out 2 rfl
    have c3 := blk_cell TB2.out 3 rfl
    have c4 := blk_cell TB2.out 4 rfl
    have s0 := blk_cell RB2.out 0 rfl
    have s1 := blk_cell RB2.out 1 rfl
    have s2 := blk_cell RB2.out 2 rfl
    have s3 := blk_cell RB2.out 3 rfl
    have s4 := blk_cell RB2.out 4 rfl
    have fr := fun j => blk_free RB2.out j
    go_wp2
    refine bodyPost_ret (v := .agg #[.int .i64 t0, .int .i64 t1, .int .i64 x, .int .i64 t3, .bool t4]) (by simp [results, Tryd.results67, go_sem, s0, s1, s2, s3, s4]) rfl ?_
    exact ⟨⟨t0, t1, x, t3, t4⟩, _, rfl, sm_mk ⟨by assumption, by assumption⟩ ⟨by assumption, by assumption⟩ ⟨by assumption, by assumption⟩ ⟨by assumption, by assumption⟩, by omega, (dr_set5 (HR2.out.set (by omega) (by omega) 2 _) (hitR_own HH2.out (by omega) 2 _) (by omega) (by omega))⟩
  · subst h
    have f4 := blk_free TB1.out 4
    have e4 := blk_cell TB1.out 4 rfl
    have TB2 := Lib.hid (show (w1.setCell ⟨w.heap.size, 4, none⟩ (.bool !t4)).heap[w.heap.size]? = some (Obj.cells #[vi t0, vi t1, vi t2, vi t3, .bool !t4] _ _) from blk_set TB1.out 4 (.bool !t4))
    have RB2 := Lib.hid (blk_oth RB1.out (show w.heap.size + 1 ≠ w.heap.size by omega) 4 (.bool !t4))
    have c0 := blk_cell TB2.out 0 rfl
    have c1 := blk_cell TB2.out 1 rfl
    have c2 := blk_cell TB2.out 2 rfl
    have c3 := blk_cell TB2.out 3 rfl
    have c4 := blk_cell TB2.out 4 rfl
    have s0 := blk_cell RB2.out 0 rfl
    have s1 := blk_cell RB2.out 1 rfl
    have s2 := blk_cell RB2.out 2 rfl
    have s3 := blk_cell RB2.out 3 rfl
    have s4 := blk_cell RB2.out 4 rfl
    have fr := fun j => blk_free RB2.out j
    go_wp2
    refine bodyPost_ret (v := .agg #[.int .i64 t0, .int .i64 t1, .int .i64 t2, .int .i64 t3, .bool (!t4)]) (by simp [results, Tryd.results67, go_sem, s0, s1, s2, s3, s4]) rfl ?_
    exact ⟨⟨t0, t1, t2, t3, (!t4)⟩, _, rfl, sm_mk ⟨by assumption, by assumption⟩ ⟨by assumption, by assumption⟩ ⟨by assumption, by assumption⟩ ⟨by assumption, by assumption⟩, by omega, (dr_set5 (HR1.out.set (by omega) (by omega) 4 _) (hitR_own HH1.out (by omega) 4 _) (by omega) (by omega))⟩
  · subst h
    go_wp2_with fail
    refine (num_any _ base G _ _ [21, 0, 20] 3 (HR1.out.bw (bw_alloc _ _)) (by omega) (by simp) (by simp) (by omega) (ri_lit _ (heap_alloc_new w1 _) rfl)).mono ?_
    rintro e w2 ⟨x, rfl, hx, hd2⟩
    obtain ⟨x0, x1⟩ := mem_sm hx (by decide)
    have hz2 := hd2.2.size
    simp only [World.size_alloc] at hz2
    have HR2 := Lib.hid hd2.1
    have HH2 := Lib.hid (HitR.trans (hitR_alloc HH1.out _) hd2.2)
    have hb1 := blk_lt TB1.out
    have hb2 := blk_lt RB1.out
    have TB3 := Lib.hid (blk_hit hd2.2 (blk_bw (bw_alloc _ _) TB1.out) (.inr (by omega)))
    have RB3 := Lib.hid (blk_hit hd2.2 (blk_bw (bw_alloc _ _) RB1.out) (.inr (by omega)))
    clear hd2 hx
    have f0 := blk_free TB3.out 3
    have e0 := blk_cell TB3.out 3 rfl
    have TB2 := Lib.hid (show (w2.setCell ⟨w.heap.size, 3, none⟩ (vi x)).heap[w.heap.size]? = some (Obj.cells #[vi t0, vi t1, vi t2, vi x, .bool t4] _ _) from blk_set TB3.out 3 (vi x))
    have RB2 := Lib.hid (blk_oth RB3.out (show w.heap.size + 1 ≠ w.heap.size by omega) 3 (vi x))
    have c0 := blk_cell TB2.out 0 rfl
    have c1 := blk_cell TB2.out 1 rfl
    have c2 := blk_cell TB2.out 2 rfl
    have c3 := blk_cell TB2.out 3 rfl
    have c4 := blk_cell TB2.out 4 rfl
    have s0 := blk_cell RB2.out 0 rfl
    have s1 := blk_cell RB2.out 1 rfl
    have s2 := blk_cell RB2.out 2 rfl
    have s3 := blk_cell RB2.out 3 rfl
    have s4 := blk_cell RB2.out 4 rfl
    have fr := fun j => blk_free RB2.out j
    go_wp2
    refine bodyPost_ret (v := .agg #[.int .i64 t0, .int .i64 t1, .int .i64 t2, .int .i64 x, .bool t4]) (by simp [results, Tryd.results67, go_sem, s0, s1, s2, s3, s4]) rfl ?_
    exact ⟨⟨t0, t1, t2, x, t4⟩, _, rfl, sm_mk ⟨by assumption, by assumption⟩ ⟨by assumption, by assumption⟩ ⟨by assumption, by assumption⟩ ⟨by assumption, by assumption⟩, by omega, (dr_set5 (HR2.out.set (by omega) (by omega) 3 _) (hitR_own HH2.out (by omega) 3 _) (by omega) (by omega))⟩
  · have h0 : ((r : Int) == 0) = false := by simp; omega
    have h1 : ((r : Int) == 1) = false := by simp; omega
    have h2 : ((r : Int) == 2) = false := by simp; omega
    have h3 : ((r : Int) == 3) = false := by simp; omega
    have h4 : ((r : Int) == 4) = false := by simp; omega
    have TB2 := TB1
    have RB2 := RB1
    clear h
    have c0 := blk_cell TB2.out 0 rfl
    have c1 := blk_cell TB2.out 1 rfl
    have c2 := blk_cell TB2.out 2 rfl
    have c3 := blk_cell TB2.out 3 rfl
    have c4 := blk_cell TB2.out 4 rfl
    have s0 := blk_cell RB2.out 0 rfl
    have s1 := blk_cell RB2.out 1 rfl
    have s2 := blk_cell RB2.out 2 rfl
    have s3 := blk_cell RB2.out 3 rfl
    have s4 := blk_cell RB2.out 4 rfl
    have fr := fun j => blk_free RB2.out j
    go_wp2
    refine bodyPost_ret (v := .agg #[.int .i64 t0, .int .i64 t1, .int .i64 t2, .int .i64 t3, .bool t4]) (by simp [results, Tryd.results67, go_sem, s0, s1, s2, s3, s4]) rfl ?_
    exact ⟨⟨t0, t1, t2, t3, t4⟩, _, rfl, sm_mk ⟨by assumption, by assumption⟩ ⟨by assumption, by assumption⟩ ⟨by assumption, by assumption⟩ ⟨by assumption, by assumption⟩, by omega, (dr_set5 HR1.out HH1.out (by omega) (by omega))⟩
end Go.Proofs.YtaadlgpglfpmpaaDoor

/-
  The walks of the functions that draw lists of tasks.
-/


namespace Go.Proofs.YtaadlgpglfpmpaaDoor
open Go.RowKit

theorem row_hit {w w' : World} {lo hi base E size n : Nat} {v : Value} {xs : List Value} (h : w.ownsRow base E size v n xs) (hh : HitR lo hi w w') (hb : hi ≤ base) : w'.ownsRow base E size v n xs := by
  refine ⟨h.1, ?_⟩
  rcases h.2 with hn | ⟨g, cap, cur, rfl, hg, hk, rest⟩
  · exact .inl hn
  · exact .inr ⟨g, cap, cur, rfl, hg, blk_hit hh hk (.inr (by omega)), rest⟩
theorem hitR_grown {lo hi : Nat} {a b c : World} {row : Option Nat} (h : HitR lo hi a b) (hg : b.grownBy c row) (hr : ∀ k, row = some k → a.heap.size ≤ k) : HitR lo hi a c :=
  ⟨hg.os.trans h.os, hg.tape.trans h.tape, hg.output.trans h.output, Nat.le_trans h.size hg.size, fun k hk hx => (hg.block k (Nat.lt_of_lt_of_le hk h.size) (fun e => by have := hr k e.symm; omega)).trans (h.block k hk hx)⟩
theorem Rd.grown {w w' : World} {base G p : Nat} {row : Option Nat} (h : Rd w base G p) (hg : w.grownBy w' row) (hr : ∀ k, row = some k → G < k) : Rd w' base G p := by
  have hlt := h.lt
  obtain ⟨h1, bo, n, c, h2, h3, h4⟩ := h
  refine ⟨h1, bo, n, c, ?_, h3, fun i hi => ?_⟩
  · rw [hg.block G hlt (fun e => by have := hr G e.symm; omega)]; exact h2
  · obtain ⟨b, off, x, e, hb, hc, h5, h6⟩ := h4 i hi
    refine ⟨b, off, x, e, hb, ?_, h5, h6⟩
    rw [World.cell?_of_block (hg.block b (World.block_lt_of_cell? w _ hc) (fun e => by have := hr b e.symm; omega))]; exact hc

def SetEnd (K M : Nat) (w : World) (base G p : Nat) (e : Ending) (w' : World) : Prop := ∃ (ao : Option Addr) (c : Nat) (l : List Tk) (q : Nat), e = .returned (.slice ao l.length c) ∧ w'.ownsRow w.heap.size 76 5 (.slice ao l.length c) l.length (tks l) ∧ l.length ≤ M ∧ (∀ t ∈ l, Sm t) ∧ q ≤ p + K ∧ Dr w w' base G q

set_option maxRecDepth 100000 in
set_option maxHeartbeats 1600000 in
theorem l1Set_any (w : World) (base G p : Nat) (hr : Rd w base G p) (hp : p ≤ 800000) :
    Calls Tryd.prog 65 #[.pointer (some ⟨G, 0, none⟩)] w (SetEnd 31 5 w base G p) := by
  obtain ⟨i0, hi0, hz0, hz1, hz2⟩ := info_parts infoTask
  have hG := hr.lt
  have hbG := hr.1
  have HR := Lib.hid hr
  clear hr
  go_enter Tryd.func65, Tryd.ntmps65
  go_wp2_with fail
  refine (num_any _ base G p (w.heap.size + 1) [3, 2, 4, 1, 5, 0] 6 ((HR.out.bw (bw_alloc _ _)).bw (bw_alloc _ _)) (by omega) (by simp) (by simp) (by omega) (ri_lit _ (by have := heap_alloc_new (w.alloc (.cells #[] 76)) (.cells #[vi 3, vi 2, vi 4, vi 1, vi 5, vi 0] 3); simpa using this) rfl)).mono ?_
  rintro e w1 ⟨x, rfl, hx, hd1⟩
  obtain ⟨n, rfl, hn⟩ : ∃ n : Nat, x = n ∧ n ≤ 5 := by
    have : 0 ≤ x ∧ x ≤ 5 := by simp at hx; omega
    exact ⟨x.toNat, by omega, by omega⟩
  have hz1' := hd1.2.size
  simp only [World.size_alloc] at hz1'
  have HR1 := Lib.hid hd1.1
  have HH1 := Lib.hid (HitR.trans (hitR_alloc (hitR_alloc (HitR.refl G (G + 1) w) _) _) hd1.2)
  have hown0 := row_hit (World.ownsRow.alloc (World.ownsRow_made (base := w.heap.size) (e := 76) (size := 5) w #[] 0 (Nat.le_refl _) (by simp) rfl) (.cells #[vi 3, vi 2, vi 4, vi 1, vi 5, vi 0] 3)) hd1.2 (by omega)
  clear hd1 hx
  go_wp2
  go_loopw [3, 4] (fun u i wr => ∃ (k : Nat) (l : List Tk) (q : Nat), k ≤ n ∧ i = .int .i64 k ∧ l.length + k = n ∧ Hid (∀ t ∈ l, Sm t) ∧ q ≤ p + 1 + 6 * l.length ∧ wr.ownsRow w.heap.size 76 5 u l.length (tks l) ∧ Hid (Rd wr base G q) ∧ Hid (HitR G (G + 1) w wr)) (fun _ i _ => (intOf i).toNat)
  case atStart => exact ⟨n, [], p + 1, Nat.le_refl _, rfl, by simp, by intro t ht; simp at ht, by simp, by simpa [tks] using hown0, HR1.out, HH1.out⟩
  case round =>
    clear hown0
    obtain ⟨k, l, q, hk, rfl, hkl, hsm, hq, hown, hrd, hh⟩ := hrel
    have hz := hh.out.size
    rcases Nat.eq_zero_or_pos k with h0 | h0
    · subst h0
      obtain ⟨ao, c, hu⟩ := own_form hown
      subst hu
      have hlt0 : decide ((0 : Int) < 0) = false := by simp
      go_wp2
      go_ret
      exact ⟨ao, c, l, q, rfl, hown, by omega, hsm.out, by omega, hrd.out, hh.out⟩
    · obtain ⟨k, rfl⟩ : ∃ m, k = m + 1 := ⟨k - 1, by omega⟩
      go_wp2_with fail
      refine (l1Task_any _ base G q hrd.out (by omega)).mono ?_
      rintro e w2 ⟨⟨t0, t1, t2, t3, t4⟩, q2, rfl, hts, hq2, hd2⟩
      have hz2' := hd2.2.size
      have hown2 := row_hit hown hd2.2 (by omega)
      have HSM2 : Hid (∀ t ∈ l ++ [(⟨t0, t1, t2, t3, t4⟩ : Tk)], Sm t) := by
        intro t ht
        rcases List.mem_append.1 ht with ht | ht
        · exact hsm.out t ht
        · simp at ht; subst ht; exact hts
      have HR2 := Lib.hid hd2.1
      have HH2 := Lib.hid (HitR.trans hh.out hd2.2)
      clear hd2 hown hts
      go_wp2_with (at_builtin; refine wpList_append_own _ rfl _ _ 36 rfl w.heap.size 76 i0 zTask 5 40 Tryd.underlying36 hi0 hz0 hz1 hz2 rfl (by decide) _ _ _ rfl (hown2.alloc _) ⟨w2.heap.size, 0, none⟩ 1 1 (tkCells ⟨t0, t1, t2, t3, t4⟩) rfl rfl (cell_task_new w2 ⟨t0, t1, t2, t3, t4⟩ 76) (oneT _) (by unfold maxLen; omega) (by omega) (by simp only [World.size_alloc]; omega) ?_; intro v' w3 hown' hgrow _)
      have hown3 : w3.ownsRow w.heap.size 76 5 v' (l ++ [(⟨t0, t1, t2, t3, t4⟩ : Tk)]).length (tks (l ++ [(⟨t0, t1, t2, t3, t4⟩ : Tk)])) := by simpa [tks] using hown'
      have HR3 := Lib.hid (Rd.grown (HR2.out.bw (bw_alloc _ _)) hgrow (fun g hg => by have := own_cap0 hown2 g hg; omega))
      have HH3 := Lib.hid (hitR_grown (hitR_alloc HH2.out _) hgrow (fun g hg => own_cap0 hown2 g hg))
      clear hown' hgrow hown2
      go_wp2
      go_roundw
      case rel => exact ⟨k, l ++ [(⟨t0, t1, t2, t3, t4⟩ : Tk)], q2, by omega, by go_num, by simp; omega, HSM2.out, by simp; omega, hown3, HR3.out, HH3.out⟩
      case measure => simp [intOf]

theorem set_t {cur : Array Value} {A B : List Tk} {t : Tk} {n : Nat} (h : cur.toList.take n = tks (A ++ t :: B)) (u : Tk) :
    (((((cur.setIfInBounds (A.length * 5) (vi u.low)).setIfInBounds (A.length * 5 + 1) (vi u.high)).setIfInBounds (A.length * 5 + 2) (vi u.due)).setIfInBounds (A.length * 5 + 3) (vi u.every)).setIfInBounds (A.length * 5 + 4) (.bool u.crit)).toList.take n = tks (A ++ u :: B) := by
  simp only [Array.toList_setIfInBounds, List.take_set, h]
  have e : tks (A ++ t :: B) = tks A ++ ([vi t.low, vi t.high, vi t.due, vi t.every, .bool t.crit] ++ tks B) := by simp [tks, tkCells]
  have e2 : tks (A ++ u :: B) = tks A ++ ([vi u.low, vi u.high, vi u.due, vi u.every, .bool u.crit] ++ tks B) := by simp [tks, tkCells]
  have d : ∀ j, A.length * 5 + j - A.length * 5 = j := fun j => by omega
  rw [e, e2, List.set_append_right _ _ (by rw [tks_length]; omega), List.set_append_right _ _ (by rw [tks_length]; omega), List.set_append_right _ _ (by rw [tks_length]; omega), List.set_append_right _ _ (by rw [tks_length]; omega), List.set_append_right _ _ (by rw [tks_length]; omega), tks_length, d, d, d, d, Nat.sub_self]
  rfl
theorem split_at {α : Type} {l : List α} {k : Nat} {t : α} (h : l[k]? = some t) : l = l.take k ++ t :: l.drop (k + 1) := by
  rw [← drop_cons h, List.take_append_drop]
/-- One task of a row of the call's own is put in another one's place. -/
theorem row_sett {w : World} {base g c n : Nat} {l : List Tk} (h : w.ownsRow base 76 5 (.slice (some ⟨g, 0, none⟩) n c) n (tks l)) (hn : n = l.length) {k : Nat} {t : Tk} (ht : l[k]? = some t) (u : Tk) :
    (((((w.setCell ⟨g, k * 5, none⟩ (vi u.low)).setCell ⟨g, k * 5 + 1, none⟩ (vi u.high)).setCell ⟨g, k * 5 + 2, none⟩ (vi u.due)).setCell ⟨g, k * 5 + 3, none⟩ (vi u.every)).setCell ⟨g, k * 5 + 4, none⟩ (.bool u.crit)).ownsRow base 76 5 (.slice (some ⟨g, 0, none⟩) n c) n (tks (l.set k u)) := by
  have hk : k < l.length := (List.getElem?_eq_some_iff.1 ht).1
  have hA : (l.take k).length = k := by rw [List.length_take]; omega
  have hs : l.set k u = l.take k ++ u :: l.drop (k + 1) := by rw [List.set_eq_take_append_cons_drop, if_pos hk]
  rw [hs]
  rcases h.2 with ⟨e, _⟩ | ⟨g', cap, cur, e, hg, hh, a1, a2, a3, a4⟩
  · simp at e
  · simp at e; obtain ⟨rfl, rfl⟩ := e
    rw [split_at ht] at a4
    have hst := set_t a4 u
    rw [hA] at hst
    refine ⟨by rw [tks_length]; simp; omega, .inr ⟨g, c, _, rfl, hg, blk_set (blk_set (blk_set (blk_set (blk_set hh (k * 5) (vi u.low)) (k * 5 + 1) (vi u.high)) (k * 5 + 2) (vi u.due)) (k * 5 + 3) (vi u.every)) (k * 5 + 4) (.bool u.crit), a1, a2, by simpa using a3, hst⟩⟩

def lenV : Value → Nat
  | .slice _ n _ => n
  | _ => 0


end Go.Proofs.YtaadlgpglfpmpaaDoor

/-
  The walks of DrawRaiseAll and of DrawWorstJobs: what they draw is small, lies in memory of its own, and nothing that was there has turned.
-/

namespace Go.Proofs.YtaadlgpglfpmpaaDoor
open Go.RowKit

theorem st_row {w : World} {base c : Nat} {ao : Option Addr} {l : List Tk} (h : w.ownsRow base 76 5 (.slice ao l.length c) l.length (tks l)) (hn : l.length ≤ 1048576) : ST w (.slice ao l.length c) l := by
  refine ⟨⟨ao, c, rfl, (Own.ofRow h).rt, ?_, ?_⟩, hn⟩
  · rcases h.2 with ⟨e, h0⟩ | ⟨g, cap, cur, e, _, _, h, _⟩
    · simp at e; omega
    · simp at e; omega
  · rcases h.2 with ⟨e, h0⟩ | ⟨g, cap, cur, e, _, _, h, _⟩
    · simp at e; exact .inl ⟨e.1, e.2.2⟩
    · simp at e; exact .inr ⟨g, 0, e.1⟩
theorem sj_row {w : World} {base c : Nat} {ao : Option Addr} {l : List Jb} (h : w.ownsRow base 57 3 (.slice ao l.length c) l.length (jbs l)) (hn : l.length ≤ 1048576) : SJ w (.slice ao l.length c) l := by
  refine ⟨⟨ao, c, rfl, (Own.ofRow h).rj, ?_, ?_⟩, hn⟩
  · rcases h.2 with ⟨e, h0⟩ | ⟨g, cap, cur, e, _, _, h, _⟩
    · simp at e; omega
    · simp at e; omega
  · rcases h.2 with ⟨e, h0⟩ | ⟨g, cap, cur, e, _, _, h, _⟩
    · simp at e; exact .inl ⟨e.1, e.2.2⟩
    · simp at e; exact .inr ⟨g, 0, e.1⟩

/-- Some list of small tasks that the call made. -/
def Ts (w w' : World) (ao : Option Addr) (c : Nat) (l : List Tk) : Prop := w'.ownsRow w.heap.size 76 5 (.slice ao l.length c) l.length (tks l) ∧ l.length ≤ 6 ∧ (∀ t ∈ l, Sm t) ∧ Bw w w'
def DrawRaiseAllEnd (w : World) (e : Ending) (w' : World) : Prop := ∃ (ao : Option Addr) (c : Nat) (l : List Tk) (t : Int), e = .returned (.tuple #[.slice ao l.length c, .int .i64 t]) ∧ Ts w w' ao c l ∧ (-1 ≤ t ∧ t ≤ 21)
def DrawWorstJobsEnd (w : World) (e : Ending) (w' : World) : Prop := ∃ (ao : Option Addr) (c : Nat) (l : List Tk) (t : Int) (h : Bool), e = .returned (.tuple #[.slice ao l.length c, .int .i64 t, .bool h]) ∧ Ts w w' ao c l ∧ (-1 ≤ t ∧ t ≤ 201)

end Go.Proofs.YtaadlgpglfpmpaaDoor
