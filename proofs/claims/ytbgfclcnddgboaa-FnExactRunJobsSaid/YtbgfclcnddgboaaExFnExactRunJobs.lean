/-
  The walk of the law FnExactRunJobs: it returns true and writes nothing that was there. No condition.
-/
import Derived.Test.YtbgfclcnddgboaaGH
import Derived.Deep.RegionHeld3

namespace Go.Proofs.Ytbgfclcnddgboaa
open Go.RowKit

/-- The block that turns when a row is marked, if one does. -/
structure RowQ (w : World) (b : Nat) (ao : Option Addr) (n : Nat) (q : Option Nat) : Prop where
  some_ : ∀ g, q = some g → b ≤ g ∧ g < w.heap.size ∧ ao.map (·.block) = some g
  none_ : q = none → n = 0
theorem rowQ {w : World} {b E : Nat} {ao : Option Addr} {l : List Int} (h : Own w b E ao (ints l)) : ∃ q, RowQ w b ao l.length q := by
  rcases h with h | ⟨g, cur, e, hb, hk, ht⟩
  · exact ⟨none, ⟨fun g e => by simp at e, fun _ => by have := congrArg List.length h; rw [ints_length] at this; exact this⟩⟩
  · exact ⟨some g, ⟨fun g' e' => by simp at e'; subst e'; exact ⟨hb, blk_lt hk, by rw [e]; rfl⟩, fun e => by simp at e⟩⟩
theorem own_row' {w w' : World} {b E : Nat} {ao : Option Addr} {l : List Int} {row q : Option Nat} (h : Own w b E ao (ints l)) (hq : RowQ w b ao l.length q) (hg : w.grownBy w' row) (hn : ∀ g, q = some g → row ≠ some g) : Own w' b E ao (ints l) := by
  cases hqq : q with
  | none => left; rw [List.eq_nil_of_length_eq_zero (hq.none_ hqq)]; rfl
  | some g0 =>
    rcases h with h | ⟨g, cur, e, hb, hk, ht⟩
    · exact .inl h
    · have h1 := (hq.some_ g0 hqq).2.2
      rw [e] at h1; simp at h1; subst h1
      refine .inr ⟨g, cur, e, hb, ?_, ht⟩
      rw [hg.block g (blk_lt hk) (fun e2 => hn g hqq e2.symm)]; exact hk
theorem own_marks {w w' : World} {b E : Nat} {ao : Option Addr} {xs : List Value} {row : Option Nat} (h : Own w b E ao xs) (hg : w.grownBy w' row) (hn : xs = [] ∨ ∀ g, ao.map (·.block) = some g → row ≠ some g) : Own w' b E ao xs := by
  rcases hn with hn | hn
  · exact .inl hn
  rcases h with h | ⟨g, cur, e, hb, hk, ht⟩
  · exact .inl h
  · refine .inr ⟨g, cur, e, hb, ?_, ht⟩
    rw [hg.block g (blk_lt hk) (fun e2 => hn g (by rw [e]; rfl) e2.symm)]; exact hk
theorem RowQ.up {w : World} {b n : Nat} {ao : Option Addr} {q : Option Nat} (w' : World) (h : RowQ w b ao n q) (hs : w.heap.size ≤ w'.heap.size) : RowQ w' b ao n q := ⟨fun g e => ⟨(h.some_ g e).1, Nat.lt_of_lt_of_le (h.some_ g e).2.1 hs, (h.some_ g e).2.2⟩, h.none_⟩
theorem dj_q {a1 a2 a3 v1 v2 v3 : Option Nat} (h : Dj [a1, a2, a3]) (h1 : ∀ g, v1 = some g → a1 = some g) (h2 : ∀ g, v2 = some g → a2 = some g) (h3 : ∀ g, v3 = some g → a3 = some g) : Dj [v1, v2, v3] := by
  have up : ∀ (i g : Nat), [v1, v2, v3][i]? = some (some g) → [a1, a2, a3][i]? = some (some g) := fun i g hi => by
    match i, hi with
    | 0, hi => simp at hi ⊢; exact h1 g hi
    | 1, hi => simp at hi ⊢; exact h2 g hi
    | 2, hi => simp at hi ⊢; exact h3 g hi
    | i + 3, hi => simp at hi
  exact fun i j g hi hj => h i j g (up i g hi) (up j g hj)
theorem grown_q {w w' : World} {b n : Nat} {ao : Option Addr} {q : Option Nat} (hq : RowQ w b ao n q) (h : Hit w w' ao) (h0 : n = 0 → w' = w) : w.grownBy w' q := by
  cases hqq : q with
  | none => rw [h0 (hq.none_ hqq)]; exact ⟨rfl, rfl, rfl, Nat.le_refl _, fun _ _ _ => rfl⟩
  | some g =>
    have h1 := (hq.some_ g hqq).2.2
    have h2 : w.grownBy w' (ao.map (·.block)) := h
    rw [h1] at h2; exact h2
def MarkR (w : World) (q1 q2 q3 : Option Nat) (a1 a2 a3 : Option Addr) (r : Rn) (k : Int) (e : Ending) (w' : World) : Prop := e = .returned (.int .i64 (k + r.ended.length + r.trace.length + r.switches.length)) ∧ Turn [q1, q2, q3] w w' ∧
  Own w' 0 3 a1 (ints (marksI k r.ended.length)) ∧ Own w' 0 3 a2 (ints (marksI (k + r.ended.length) r.trace.length)) ∧ Own w' 0 3 a3 (ints (marksI (k + r.ended.length + r.trace.length) r.switches.length))
theorem marks_nil {k : Int} {n : Nat} (h : n = 0) : ints (marksI k n) = [] := by subst h; rfl
set_option maxRecDepth 100000 in
set_option maxHeartbeats 1600000 in
theorem markRunO {w : World} {b : Nat} {a1 a2 a3 : Option Addr} {c1 c2 c3 : Nat} {r : Rn} {q1 q2 q3 : Option Nat} (h1 : Own w b 3 a1 (ints r.ended)) (h2 : Own w b 3 a2 (ints r.trace)) (h3 : Own w b 3 a3 (ints r.switches)) (hd : Dj [q1, q2, q3]) (hbd : RunB r)
    (hq1 : RowQ w b a1 r.ended.length q1) (hq2 : RowQ w b a2 r.trace.length q2) (hq3 : RowQ w b a3 r.switches.length q3) (k : Int) (hk0 : 0 ≤ k) (hk1 : k ≤ 1000) :
    Calls Try.prog 41 #[rnVal a1 r.ended.length c1 a2 r.trace.length c2 a3 r.switches.length c3 r.high, .int .i64 k] w (MarkR w q1 q2 q3 a1 a2 a3 r k) := by
  have n1 := hbd.n1
  have n2 := hbd.n2
  have n3 := hbd.n3
  have d12 : ∀ g, q2 = some g → q1 ≠ some g := fun g x y => by have := hd 0 1 g (by simp [y]) (by simp [x]); omega
  have d13 : ∀ g, q3 = some g → q1 ≠ some g := fun g x y => by have := hd 0 2 g (by simp [y]) (by simp [x]); omega
  have d23 : ∀ g, q3 = some g → q2 ≠ some g := fun g x y => by have := hd 1 2 g (by simp [y]) (by simp [x]); omega
  have m1 : ∀ (k : Int) (q : Option Nat), (∀ g, q1 = some g → q ≠ some g) → ints (marksI k r.ended.length) = [] ∨ ∀ g, a1.map (·.block) = some g → q ≠ some g := fun k q h => by
    cases hh : q1 with
    | none => exact .inl (marks_nil (hq1.none_ hh))
    | some g0 => exact .inr fun g e => by have := (hq1.some_ g0 hh).2.2; rw [e] at this; simp at this; subst this; exact h _ hh
  have m2 : ∀ (k : Int) (q : Option Nat), (∀ g, q2 = some g → q ≠ some g) → ints (marksI k r.trace.length) = [] ∨ ∀ g, a2.map (·.block) = some g → q ≠ some g := fun k q h => by
    cases hh : q2 with
    | none => exact .inl (marks_nil (hq2.none_ hh))
    | some g0 => exact .inr fun g e => by have := (hq2.some_ g0 hh).2.2; rw [e] at this; simp at this; subst this; exact h _ hh
  have M12 := Lib.hid (fun k => m1 k q2 (fun g x y => d12 g y x))
  have M13 := Lib.hid (fun k => m1 k q3 (fun g x y => d13 g y x))
  have M23 := Lib.hid (fun k => m2 k q3 (fun g x y => d23 g y x))
  have lt1 : q1 ≠ some w.heap.size := fun e => by have := (hq1.some_ _ e).2.1; omega
  have lt2 : q2 ≠ some w.heap.size := fun e => by have := (hq2.some_ _ e).2.1; omega
  have H1 := Lib.hid (h1.bw (bw_alloc w (.cells #[.slice a1 r.ended.length c1, .slice a2 r.trace.length c2, .slice a3 r.switches.length c3, .bool r.high] 52)))
  have H2 := Lib.hid (h2.bw (bw_alloc w (.cells #[.slice a1 r.ended.length c1, .slice a2 r.trace.length c2, .slice a3 r.switches.length c3, .bool r.high] 52)))
  have H3 := Lib.hid (h3.bw (bw_alloc w (.cells #[.slice a1 r.ended.length c1, .slice a2 r.trace.length c2, .slice a3 r.switches.length c3, .bool r.high] 52)))
  have Q1 := Lib.hid (RowQ.up (w.alloc (.cells #[.slice a1 r.ended.length c1, .slice a2 r.trace.length c2, .slice a3 r.switches.length c3, .bool r.high] 52)) hq1 (by simp))
  have D12 := Lib.hid d12
  have D13 := Lib.hid d13
  have D23 := Lib.hid d23
  have LT1 := Lib.hid lt1
  have LT2 := Lib.hid lt2
  have HD := Lib.hid hd
  have HQ1 := Lib.hid hq1
  have HQ2 := Lib.hid hq2
  have HQ3 := Lib.hid hq3
  clear d12 d13 d23 lt1 lt2 hd hq1 hq2 hq3
  clear h1 h2 h3 m1 m2
  go_enter Try.func41, Try.ntmps41
  have r1 := own_room H1.out
  rw [ints_length] at r1
  go_wp2_with fail
  refine (markIntS_any a1 3 r.ended.length _ _ _ (by omega) (by omega) (by omega) r1).mono ?_
  rintro e w1 ⟨rfl, t1, o1, z1⟩
  have O1 := Lib.hid o1
  have T1 := Lib.hid (grown_q Q1.out t1 (fun h => z1 (marks_nil h)))
  clear t1 o1 z1 r1
  have z1 := T1.out.size
  simp only [World.size_alloc] at z1
  have H2' := Lib.hid (own_row' H2.out (RowQ.up _ HQ2.out (by simp)) T1.out D12.out)
  have H3' := Lib.hid (own_row' H3.out (RowQ.up _ HQ3.out (by simp)) T1.out D13.out)
  have Q2 := Lib.hid (RowQ.up w1 HQ2.out (by omega))
  have B1 := Lib.hid ((T1.out.block w.heap.size (by simp) (fun e => LT1.out e.symm)).trans (heap_alloc_new w _))
  have b1 := blk_cell B1.out 1 rfl
  have r2 := own_room H2'.out
  rw [ints_length] at r2
  go_wp2_with fail
  refine (markIntS_any a2 3 r.trace.length _ _ _ (by omega) (by omega) (by omega) r2).mono ?_
  rintro e w2 ⟨rfl, t2, o2, z2⟩
  have O2 := Lib.hid o2
  have T2 := Lib.hid (grown_q Q2.out t2 (fun h => z2 (marks_nil h)))
  clear t2 o2 z2 r2
  have z2 := T2.out.size
  have O1' := Lib.hid (own_marks O1.out T2.out (M12.out _))
  have H3'' := Lib.hid (own_row' H3'.out (RowQ.up _ HQ3.out (by omega)) T2.out D23.out)
  have Q3 := Lib.hid (RowQ.up w2 HQ3.out (by omega))
  have B2 := Lib.hid ((T2.out.block w.heap.size (by omega) (fun e => LT2.out e.symm)).trans B1.out)
  clear b1
  have b2 := blk_cell B2.out 2 rfl
  have r3 := own_room H3''.out
  rw [ints_length] at r3
  go_wp2_with fail
  refine (markIntS_any a3 3 r.switches.length _ _ _ (by omega) (by omega) (by omega) r3).mono ?_
  rintro e w3 ⟨rfl, t3, o3, z3⟩
  have O3 := Lib.hid o3
  have T3 := Lib.hid (grown_q Q3.out t3 (fun h => z3 (marks_nil h)))
  clear t3 o3 z3 r3
  have z3 := T3.out.size
  have O1'' := Lib.hid (own_marks O1'.out T3.out (M13.out _))
  have O2' := Lib.hid (own_marks O2.out T3.out (M23.out _))
  clear b2
  go_wp2
  go_ret
  refine ⟨rfl, ⟨T3.out.os.trans (T2.out.os.trans T1.out.os), T3.out.tape.trans (T2.out.tape.trans T1.out.tape), T3.out.output.trans (T2.out.output.trans T1.out.output), by omega, fun g hg hn => ?_⟩, O1''.out, O2'.out, O3.out⟩
  simp only [List.mem_cons, List.not_mem_nil, or_false, not_or] at hn
  rw [T3.out.block g (by omega) hn.2.2, T2.out.block g (by omega) hn.2.1, T1.out.block g (by simp; omega) hn.1]
  exact Below.heap_alloc _ _ _ hg
set_option maxRecDepth 100000 in
set_option maxHeartbeats 800000 in
theorem heldRun_any {w : World} {a1 a2 a3 : Option Addr} {c1 c2 c3 n1 n2 n3 : Nat} {hh : Bool} (k : Int) (hk0 : 0 ≤ k) (hk1 : k ≤ 1000) (m1 : n1 ≤ 1000) (m2 : n2 ≤ 1000) (m3 : n3 ≤ 1000) (h1 : RI w a1 (marksI k n1)) (h2 : RI w a2 (marksI (k + n1) n2)) (h3 : RI w a3 (marksI (k + n1 + n2) n3)) :
    Calls Try.prog 42 #[rnVal a1 n1 c1 a2 n2 c2 a3 n3 c3 hh, .int .i64 k] w fun e w' => e = .returned (.int .i64 (k + n1 + n2 + n3)) ∧ Bw w w' := by
  have H1 := Lib.hid h1
  have H2 := Lib.hid h2
  have H3 := Lib.hid h3
  clear h1 h2 h3
  go_enter Try.func42, Try.ntmps42
  go_wp2_with fail
  refine (heldIntS_any a1 n1 _ k _ (by omega) hk0 (by omega) (H1.out.bw (bw_alloc _ _))).mono ?_
  rintro e w1 ⟨rfl, hb1⟩
  have hw1 := bw_trans (bw_alloc _ _) hb1
  have B1 := Lib.hid (box_last hb1)
  have b1 := blk_cell B1.out 1 rfl
  have e1 : decide (k + (n1 : Int) < 0) = false := decide_eq_false (by omega)
  go_wp2_with fail
  refine (heldIntS_any a2 n2 _ _ _ (by omega) (by omega) (by omega) (H2.out.bw hw1)).mono ?_
  rintro e w2 ⟨rfl, hb2⟩
  have hw2 := bw_trans hw1 hb2
  have B2 := Lib.hid (blk_bw hb2 B1.out)
  clear b1 e1
  have b2 := blk_cell B2.out 2 rfl
  have e2 : decide (k + (n1 : Int) + (n2 : Int) < 0) = false := decide_eq_false (by omega)
  go_wp2_with fail
  refine (heldIntS_any a3 n3 _ _ _ (by omega) (by omega) (by omega) (H3.out.bw hw2)).mono ?_
  rintro e w3 ⟨rfl, hb3⟩
  clear b2 e2
  have e3 : decide (k + (n1 : Int) + (n2 : Int) + (n3 : Int) < 0) = false := decide_eq_false (by omega)
  go_wp2
  go_ret
  exact ⟨rfl, bw_trans hw2 hb3⟩

set_option maxRecDepth 100000 in
set_option maxHeartbeats 8000000 in
theorem law_FnExactRunJobs (v0 : Value) (x0 : List Tk) (v1 : Value) (x1 : List Jb) (x2 : Int) (x3 : Int) (w : World) (g0 : RawT w v0 x0) (g1 : RawJ w v1 x1) (_g2 : I64 x2) (_g3 : I64 x3) :
    Calls Try.prog 6 #[v0, v1, .int .i64 x2, .int .i64 x3] w fun e w' => e = .returned (.bool true) ∧ Bw w w' := by
  have G0 := Lib.hid g0
  obtain ⟨⟨a0, c0, rfl, _⟩, n0, _⟩ := g0
  have G1 := Lib.hid g1
  obtain ⟨⟨a1, c1, rfl, _⟩, n1, _⟩ := g1
  go_enter Try.func6, Try.ntmps6
  go_wp2_with fail
  refine (szTaskE _ _ _ _ _ n0 (by omega) (by omega)).mono ?_
  rintro e w1 ⟨q0, rfl, hb1, hq0⟩
  have hs1 : Bw w w1 := hb1
  have hz1 := hb1.size
  have hw1 : Bw w w1 := hs1
  rcases hq0 with hq0 | ⟨hq0, hp0⟩
  · go_wp2
    go_ret
    exact ⟨rfl, hw1⟩
  · have hm0 : q0 ≤ 1048576 := by omega
    have HP0 := Lib.hid hp0
    clear hp0
    go_wp2_with fail
    refine (szJobE _ _ _ _ _ n1 (by omega) (by omega)).mono ?_
    rintro e w2 ⟨q1, rfl, hb2, hq1⟩
    have hs2 : Bw w1 w2 := hb2
    have hz2 := hb2.size
    have hw2 : Bw w w2 := (bw_trans hw1 hs2)
    rcases hq1 with hq1 | ⟨hq1, hp1⟩
    · go_wp2
      go_ret
      exact ⟨rfl, hw2⟩
    · have hm1 : q1 ≤ 1048576 := by omega
      have HP1 := Lib.hid hp1
      clear hp1
      have l0 : x0.length ≤ 1048576 := by have := HP0.out; omega
      have l1 : x1.length ≤ 1048576 := by have := HP1.out; omega
      go_wp2_with fail
      refine (toTasks G0.out l0 hw2).mono ?_
      rintro e w3 ⟨u, rfl, hu3, hb3⟩
      have hs3 : Bw w2 w3 := hb3
      have hz3 := hb3.size
      have hw3 : Bw w w3 := (bw_trans hw2 hs3)
      have S0 := Lib.hid hu3
      clear hu3
      go_wp2_with fail
      refine (toJobs G1.out l1 hw3).mono ?_
      rintro e w4 ⟨u, rfl, hu4, hb4⟩
      have hs4 : Bw w3 w4 := hb4
      have hz4 := hb4.size
      have hw4 : Bw w w4 := (bw_trans hw3 hs4)
      have S1 := Lib.hid hu4
      clear hu4
      have hbd := runJ_bd x0 x1 x2 x3
      obtain ⟨r, hr⟩ : ∃ r, (runJ x0 x1 x2 x3).1 = r := ⟨_, rfl⟩
      obtain ⟨o, ho⟩ : ∃ o, (runJ x0 x1 x2 x3).2 = o := ⟨_, rfl⟩
      have HSPC := fun (W : World) (v u : Value) (hv : ST W v x0) (hu : SJ W u x1) => runjobs_specR (w := W) hv hu x2 x3
      have HIMP := fun (W : World) (v u : Value) (hv : ST W v x0) (hu : SJ W u x1) => runjobs_implR (w := W) hv hu x2 x3
      rw [hr] at hbd
      rw [hr, ho] at HSPC HIMP
      have SPC := Lib.hid HSPC
      have IMP := Lib.hid HIMP
      have BD := Lib.hid hbd
      clear HSPC HIMP hbd hr ho
      have n1 := BD.out.n1
      have n2 := BD.out.n2
      have n3 := BD.out.n3
      have hoo1 : (o != o) = false := by cases o <;> rfl
      have hoo2 : (o == o) = true := by cases o <;> rfl
      go_wp2_with fail
      refine (SPC.out _ _ _ (S0.out.st.bw hs4) S1.out.st).mono ?_
      rintro e w5 ⟨aw1, cw1, aw2, cw2, aw3, cw3, rfl, o1, o2, o3, _, hb5, _⟩
      have hA5 := bw_alloc w5 (.cells #[.slice aw1 r.ended.length cw1, .slice aw2 r.trace.length cw2, .slice aw3 r.switches.length cw3, .bool r.high] 52)
      have BW := Lib.hid (heap_alloc_new w5 (.cells #[.slice aw1 r.ended.length cw1, .slice aw2 r.trace.length cw2, .slice aw3 r.switches.length cw3, .bool r.high] 52))
      have RW := Lib.hid ((rr_mk (c1 := cw1) (c2 := cw2) (c3 := cw3) o1.ri o2.ri o3.ri BD.out).bw hA5)
      have hw5 := bw_trans hw4 (bw_trans hb5 hA5)
      have hz5 := hb5.size
      clear o1 o2 o3
      go_wp2_with fail
      refine (toTasks G0.out l0 hw5).mono ?_
      rintro e w6 ⟨u, rfl, hu6, hb6⟩
      have hw6 := bw_trans hw5 hb6
      have X0 := Lib.hid hu6
      clear hu6
      have eu0 := X0.out.form
      subst eu0
      have hx0 := X0.out.lt
      have hz6 := hb6.size
      simp only [World.size_alloc] at hz6 hx0 X0
      go_wp2_with fail
      refine (toJobs G1.out l1 hw6).mono ?_
      rintro e w7 ⟨u, rfl, hu7, hb7⟩
      have hw7 := bw_trans hw6 hb7
      have X1 := Lib.hid hu7
      clear hu7
      have eu1 := X1.out.form
      subst eu1
      have hx1 := X1.out.lt
      have hz7 := hb7.size
      go_wp2_with fail
      refine (IMP.out _ _ _ (X0.out.st.bw hb7) X1.out.st).mono ?_
      rintro e w8 ⟨ag1, cg1, ag2, cg2, ag3, cg3, rfl, o1, o2, o3, hdj, hb8, _⟩
      have hz8 := hb8.size
      have hA8 := bw_alloc w8 (.cells #[.slice ag1 r.ended.length cg1, .slice ag2 r.trace.length cg2, .slice ag3 r.switches.length cg3, .bool r.high] 52)
      have hb8A := bw_trans hb8 hA8
      have hw8 := bw_trans hw7 hb8A
      have BG := Lib.hid (heap_alloc_new w8 (.cells #[.slice ag1 r.ended.length cg1, .slice ag2 r.trace.length cg2, .slice ag3 r.switches.length cg3, .bool r.high] 52))
      obtain ⟨v1, hv1⟩ := rowQ o1
      obtain ⟨v2, hv2⟩ := rowQ o2
      obtain ⟨v3, hv3⟩ := rowQ o3
      have VDJ := Lib.hid (dj_q hdj (fun g e => (hv1.some_ g e).2.2) (fun g e => (hv2.some_ g e).2.2) (fun g e => (hv3.some_ g e).2.2))
      have V1 := Lib.hid hv1
      have V2 := Lib.hid hv2
      have V3 := Lib.hid hv3
      clear hv1 hv2 hv3 hdj
      have P1 := Lib.hid (o1.bw hA8)
      have P2 := Lib.hid (o2.bw hA8)
      have P3 := Lib.hid (o3.bw hA8)
      -- the comparison
      have hWb := bw_trans (bw_trans hb6 hb7) hb8A
      have hzA : (w5.alloc (.cells #[.slice aw1 r.ended.length cw1, .slice aw2 r.trace.length cw2, .slice aw3 r.switches.length cw3, .bool r.high] 52)).heap.size = w5.heap.size + 1 := by simp
      have hzG : (w8.alloc (.cells #[.slice ag1 r.ended.length cg1, .slice ag2 r.trace.length cg2, .slice ag3 r.switches.length cg3, .bool r.high] 52)).heap.size = w8.heap.size + 1 := by simp
      have RG := Lib.hid (rr_mk (c1 := cg1) (c2 := cg2) (c3 := cg3) P1.out.ri P2.out.ri P3.out.ri BD.out)
      have sB := Lib.hid (blk_bw hWb BW.out)
      have s0 := blk_cell sB.out 0 rfl
      have s1 := blk_cell sB.out 1 rfl
      have s2 := blk_cell sB.out 2 rfl
      have s3 := blk_cell sB.out 3 rfl
      have sl := blk_lt sB.out
      have tB := Lib.hid (BG.out)
      have t0 := blk_cell tB.out 0 rfl
      have t1 := blk_cell tB.out 1 rfl
      have t2 := blk_cell tB.out 2 rfl
      have t3 := blk_cell tB.out 3 rfl
      have tl := blk_lt tB.out
      go_wp2_with fail
      refine (eqRun_any RG.out (RW.out.bw hWb)).mono ?_
      rw [eqR_refl]
      rintro e w9 ⟨rfl, hb9⟩
      clear s0 s1 s2 s3 sl sB
      clear t0 t1 t2 t3 tl tB
      have hw9 : Bw w w9 := bw_trans hw8 hb9
      have hWb9 := bw_trans hWb hb9
      have hz9 := hb9.size
      rw [hzG] at hz9
      go_wp2_with fail
      refine (toTasks G0.out l0 hw9).mono ?_
      rintro e w10 ⟨u, rfl, hu, hb10⟩
      obtain ⟨⟨ae, ce, eu, he, _⟩, _⟩ := hu.st
      clear hu
      subst eu
      have hw10 : Bw w w10 := bw_trans hw9 hb10
      have hWb10 := bw_trans hWb9 hb10
      have hz10 := hb10.size
      obtain ⟨⟨af, cf, ef, hf, _⟩, _⟩ := ((((X0.out.st.bw hb7).bw hb8A).bw hb9).bw hb10)
      simp only [Value.slice.injEq] at ef
      obtain ⟨rfl, _, rfl⟩ := ef
      have HE := Lib.hid he
      have HF := Lib.hid hf
      clear he hf
      go_wp2_with fail
      refine (eqTaskS_any _ _ _ _ _ _ _ HF.out HE.out l0 l0).mono ?_
      rw [decide_eq_true rfl]
      rintro e w11 ⟨rfl, hb11⟩
      have hw11 : Bw w w11 := bw_trans hw10 hb11
      have hWb11 := bw_trans hWb10 hb11
      have hz11 := hb11.size
      clear HE HF
      go_wp2_with fail
      refine (toJobs G1.out l1 hw11).mono ?_
      rintro e w12 ⟨u, rfl, hu, hb12⟩
      obtain ⟨⟨ae, ce, eu, he, _⟩, _⟩ := hu.st
      clear hu
      subst eu
      have hw12 : Bw w w12 := bw_trans hw11 hb12
      have hWb12 := bw_trans hWb11 hb12
      have hz12 := hb12.size
      obtain ⟨⟨af, cf, ef, hf, _⟩, _⟩ := (((((X1.out.st.bw hb8A).bw hb9).bw hb10).bw hb11).bw hb12)
      simp only [Value.slice.injEq] at ef
      obtain ⟨rfl, _, rfl⟩ := ef
      have HE := Lib.hid he
      have HF := Lib.hid hf
      clear he hf
      go_wp2_with fail
      refine (eqJobS_any _ _ _ _ _ _ _ HF.out HE.out l1 l1).mono ?_
      rw [decide_eq_true rfl]
      rintro e w13 ⟨rfl, hb13⟩
      have hw13 : Bw w w13 := bw_trans hw12 hb13
      have hWb13 := bw_trans hWb12 hb13
      have hz13 := hb13.size
      clear HE HF
      go_wp2_with fail
      refine (markTasks (NT.bw' hb13 (NT.bw' hb12 (NT.bw' hb11 (NT.bw' hb10 (NT.bw' hb9 (NT.bw' hb8A (NT.bw' hb7 X0.out))))))) _ (by omega) (by omega)).mono ?_
      rintro e w14 ⟨rfl, t14⟩
      have hw14 : Bw w w14 := bw_hit hw13 t14 (by have := hw5.size; omega)
      have hWb14 := bw_hit hWb13 t14 (by omega)
      have hz14 := t14.size
      go_wp2_with fail
      refine (markJobs (NJ.hit' t14 (NJ.bw' hb13 (NJ.bw' hb12 (NJ.bw' hb11 (NJ.bw' hb10 (NJ.bw' hb9 (NJ.bw' hb8A X1.out)))))) (by omega)) _ (by omega) (by omega)).mono ?_
      rintro e w15 ⟨rfl, t15⟩
      have hw15 : Bw w w15 := bw_hit hw14 t15 (by have := hw5.size; omega)
      have hWb15 := bw_hit hWb14 t15 (by omega)
      have hz15 := t15.size
      have dk : decide ((1 : Int) + 5 * (x0.length : Int) + 3 * (x1.length : Int) < 0) = false := decide_eq_false (by omega)
      have PA1 := Lib.hid (show Own w15 _ 3 ag1 _ from (Own.hit' t15 (Own.hit' t14 (Own.bw' hb13 (Own.bw' hb12 (Own.bw' hb11 (Own.bw' hb10 (Own.bw' hb9 P1.out))))) (by omega)) (by omega)))
      have PA2 := Lib.hid (show Own w15 _ 3 ag2 _ from (Own.hit' t15 (Own.hit' t14 (Own.bw' hb13 (Own.bw' hb12 (Own.bw' hb11 (Own.bw' hb10 (Own.bw' hb9 P2.out))))) (by omega)) (by omega)))
      have PA3 := Lib.hid (show Own w15 _ 3 ag3 _ from (Own.hit' t15 (Own.hit' t14 (Own.bw' hb13 (Own.bw' hb12 (Own.bw' hb11 (Own.bw' hb10 (Own.bw' hb9 P3.out))))) (by omega)) (by omega)))
      have RGA := Lib.hid (rr_mk (c1 := cg1) (c2 := cg2) (c3 := cg3) PA1.out.ri PA2.out.ri PA3.out.ri BD.out)
      have sB := Lib.hid (blk_bw hWb15 BW.out)
      have s0 := blk_cell sB.out 0 rfl
      have s1 := blk_cell sB.out 1 rfl
      have s2 := blk_cell sB.out 2 rfl
      have s3 := blk_cell sB.out 3 rfl
      have sl := blk_lt sB.out
      have tB := Lib.hid ((blk_hit t15 (blk_hit t14 (blk_bw hb13 (blk_bw hb12 (blk_bw hb11 (blk_bw hb10 (blk_bw hb9 BG.out))))) (.inr (by omega))) (.inr (by omega))))
      have t0 := blk_cell tB.out 0 rfl
      have t1 := blk_cell tB.out 1 rfl
      have t2 := blk_cell tB.out 2 rfl
      have t3 := blk_cell tB.out 3 rfl
      have tl := blk_lt tB.out
      go_wp2_with fail
      refine (eqRun_any RGA.out (RW.out.bw hWb15)).mono ?_
      rw [eqR_refl]
      rintro e w16 ⟨rfl, hb16⟩
      clear s0 s1 s2 s3 sl sB
      clear t0 t1 t2 t3 tl tB
      have hw16 : Bw w w16 := bw_trans hw15 hb16
      have hWb16 := bw_trans hWb15 hb16
      have hz16 := hb16.size
      clear dk
      have PB1 := Lib.hid (PA1.out.bw hb16)
      have PB2 := Lib.hid (PA2.out.bw hb16)
      have PB3 := Lib.hid (PA3.out.bw hb16)
      have Q1 := Lib.hid (RowQ.up w16 V1.out (by omega))
      have Q2 := Lib.hid (RowQ.up w16 V2.out (by omega))
      have Q3 := Lib.hid (RowQ.up w16 V3.out (by omega))
      have BG16 := Lib.hid ((blk_bw hb16 (blk_hit t15 (blk_hit t14 (blk_bw hb13 (blk_bw hb12 (blk_bw hb11 (blk_bw hb10 (blk_bw hb9 BG.out))))) (.inr (by omega))) (.inr (by omega)))))
      have tB := Lib.hid (BG16.out)
      have t0 := blk_cell tB.out 0 rfl
      have t1 := blk_cell tB.out 1 rfl
      have t2 := blk_cell tB.out 2 rfl
      have t3 := blk_cell tB.out 3 rfl
      have tl := blk_lt tB.out
      go_wp2_with fail
      refine (markRunO PB1.out PB2.out PB3.out VDJ.out BD.out Q1.out Q2.out Q3.out 1 (by omega) (by omega)).mono ?_
      rintro e w17 ⟨rfl, T17, om1, om2, om3⟩
      clear t0 t1 t2 t3 tl tB
      have hge : ∀ g, some g ∈ [v1, v2, v3] → w7.heap.size ≤ g ∧ g < w8.heap.size := fun g hg => by
        simp only [List.mem_cons, List.not_mem_nil, or_false] at hg
        rcases hg with hg | hg | hg
        · exact ⟨(V1.out.some_ g hg.symm).1, (V1.out.some_ g hg.symm).2.1⟩
        · exact ⟨(V2.out.some_ g hg.symm).1, (V2.out.some_ g hg.symm).2.1⟩
        · exact ⟨(V3.out.some_ g hg.symm).1, (V3.out.some_ g hg.symm).2.1⟩
      have hw17 : Bw w w17 := Turn.below hw16 T17 (fun g hg => by have := (hge g hg).1; have := hw5.size; omega)
      have hWb17 := Turn.below hWb16 T17 (fun g hg => by have := (hge g hg).1; omega)
      have BG17 := Lib.hid (T17.heap BG16.out (fun hg => by have := (hge _ hg).2; omega))
      have M1 := Lib.hid om1.ri
      have M2 := Lib.hid om2.ri
      have M3 := Lib.hid om3.ri
      clear om1 om2 om3 hge T17
      have hm1 : decide ((1 : Int) + (r.ended.length : Int) + (r.trace.length : Int) + (r.switches.length : Int) < 0) = false := decide_eq_false (by omega)
      have hm2 : (((1 : Int) + (r.ended.length : Int) + (r.trace.length : Int) + (r.switches.length : Int)) != ((1 : Int) + (r.ended.length : Int) + (r.trace.length : Int) + (r.switches.length : Int))) = false := by simp
      have tB := Lib.hid (BG17.out)
      have t0 := blk_cell tB.out 0 rfl
      have t1 := blk_cell tB.out 1 rfl
      have t2 := blk_cell tB.out 2 rfl
      have t3 := blk_cell tB.out 3 rfl
      have tl := blk_lt tB.out
      go_wp2_with fail
      refine (heldRun_any 1 (by omega) (by omega) (by omega) (by omega) (by omega) M1.out M2.out M3.out).mono ?_
      rintro e w18 ⟨rfl, hb18⟩
      clear t0 t1 t2 t3 tl tB
      have hw18 := bw_trans hw17 hb18
      have hWb18 := bw_trans hWb17 hb18
      go_wp2_with fail
      refine (toTasks G0.out l0 hw18).mono ?_
      rintro e w19 ⟨u, rfl, hu19, hb19⟩
      have hw19 := bw_trans hw18 hb19
      have Y0 := Lib.hid hu19
      clear hu19
      go_wp2_with fail
      refine (toJobs G1.out l1 hw19).mono ?_
      rintro e w20 ⟨u, rfl, hu20, hb20⟩
      have hw20 := bw_trans hw19 hb20
      have Y1 := Lib.hid hu20
      clear hu20
      go_wp2_with fail
      refine (IMP.out _ _ _ (Y0.out.st.bw hb20) Y1.out.st).mono ?_
      rintro e w21 ⟨ah1, ch1, ah2, ch2, ah3, ch3, rfl, o1, o2, o3, _, hb21, _⟩
      have hAH := bw_alloc w21 (.cells #[.slice ah1 r.ended.length ch1, .slice ah2 r.trace.length ch2, .slice ah3 r.switches.length ch3, .bool r.high] 52)
      have h1821 := bw_trans (bw_trans (bw_trans hb19 hb20) hb21) hAH
      have BH := Lib.hid (heap_alloc_new w21 (.cells #[.slice ah1 r.ended.length ch1, .slice ah2 r.trace.length ch2, .slice ah3 r.switches.length ch3, .bool r.high] 52))
      have RH := Lib.hid ((rr_mk (c1 := ch1) (c2 := ch2) (c3 := ch3) o1.ri o2.ri o3.ri BD.out).bw hAH)
      clear o1 o2 o3
      have hWb21 := bw_trans hWb18 h1821
      have sB := Lib.hid (blk_bw hWb21 BW.out)
      have s0 := blk_cell sB.out 0 rfl
      have s1 := blk_cell sB.out 1 rfl
      have s2 := blk_cell sB.out 2 rfl
      have s3 := blk_cell sB.out 3 rfl
      have sl := blk_lt sB.out
      have tB := Lib.hid (BH.out)
      have t0 := blk_cell tB.out 0 rfl
      have t1 := blk_cell tB.out 1 rfl
      have t2 := blk_cell tB.out 2 rfl
      have t3 := blk_cell tB.out 3 rfl
      have tl := blk_lt tB.out
      go_wp2_with fail
      refine (eqRun_any RH.out (RW.out.bw hWb21)).mono ?_
      rw [eqR_refl]
      rintro e w22 ⟨rfl, hb22⟩
      clear s0 s1 s2 s3 sl sB
      clear t0 t1 t2 t3 tl tB
      have h1822 := bw_trans h1821 hb22
      have tB := Lib.hid (blk_bw (bw_trans hb18 h1822) BG17.out)
      have t0 := blk_cell tB.out 0 rfl
      have t1 := blk_cell tB.out 1 rfl
      have t2 := blk_cell tB.out 2 rfl
      have t3 := blk_cell tB.out 3 rfl
      have tl := blk_lt tB.out
      go_wp2_with fail
      refine (heldRun_any 1 (by omega) (by omega) (by omega) (by omega) (by omega) (M1.out.bw (bw_trans hb18 h1822)) (M2.out.bw (bw_trans hb18 h1822)) (M3.out.bw (bw_trans hb18 h1822))).mono ?_
      rintro e w23 ⟨rfl, hb23⟩
      clear t0 t1 t2 t3 tl tB
      go_wp2
      go_ret
      exact ⟨rfl, bw_trans (bw_trans hw18 h1822) hb23⟩
end Go.Proofs.Ytbgfclcnddgboaa
