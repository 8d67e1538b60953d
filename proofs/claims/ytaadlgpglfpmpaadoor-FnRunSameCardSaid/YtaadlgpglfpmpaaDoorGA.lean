import Derived.Test.YtaadlgpglfpmpaaDoorTo
import Derived.Test.YtaadlgpglfpmpaaDoorNum

/-
  The walks of the functions that mark a result's cells and look whether the marks are held. Lengths at most 2^20.
-/

namespace Go.Proofs.YtaadlgpglfpmpaaDoor
open Go.RowKit

/-- Only the block of this address may have turned. -/
abbrev Hit (w w' : World) (ao : Option Addr) : Prop := w.grownBy w' (ao.map (·.block))

theorem hit_refl (w : World) (ao : Option Addr) : Hit w w ao := ⟨rfl, rfl, rfl, Nat.le_refl _, fun _ _ _ => rfl⟩
theorem hit_drewN {w w' : World} {ao : Option Addr} (h : Hit w w' ao) (n : Nat) : Hit w (w'.drewN n) ao := ⟨h.os, h.tape, h.output, h.size, h.block⟩
theorem hit_set {w w' : World} {g : Nat} (h : Hit w w' (some ⟨g, 0, none⟩)) (j : Nat) (v : Value) : Hit w (w'.setCell ⟨g, j, none⟩ v) (some ⟨g, 0, none⟩) :=
  ⟨h.os, h.tape, h.output, by simpa using h.size, fun k hk hne => by rw [Below.heap_setCell _ _ _ _ (fun e => hne (by simp [e]))]; exact h.block k hk hne⟩

def marksI (k : Int) : Nat → List Int
  | 0 => []
  | n + 1 => marksI k n ++ [k + n]
def marksJ (k : Int) : Nat → List Jb
  | 0 => []
  | n + 1 => marksJ k n ++ [⟨k + 3 * n, k + 3 * n + 1, k + 3 * n + 1 + 1⟩]
def marksT (k : Int) : Nat → List Tk
  | 0 => []
  | n + 1 => marksT k n ++ [⟨k + 5 * n, k + 5 * n + 1, k + 5 * n + 1 + 1, k + 5 * n + 1 + 1 + 1, (k + 5 * n + 1 + 1 + 1 + 1) % 3 == 0⟩]
theorem marksI_len (k : Int) (n : Nat) : (marksI k n).length = n := by induction n <;> simp_all [marksI]
theorem marksJ_len (k : Int) (n : Nat) : (marksJ k n).length = n := by induction n <;> simp_all [marksJ]
theorem marksT_len (k : Int) (n : Nat) : (marksT k n).length = n := by induction n <;> simp_all [marksT]
theorem marksI_get (k : Int) (n i : Nat) (h : i < n) : (marksI k n)[i]? = some (k + i) := by
  induction n with
  | zero => omega
  | succ n ih =>
    rw [marksI]
    by_cases hi : i < n
    · rw [List.getElem?_append_left (by rw [marksI_len]; exact hi)]; exact ih hi
    · obtain rfl : i = n := by omega
      rw [List.getElem?_append_right (by rw [marksI_len]; exact Nat.le_refl _), marksI_len]; simp
theorem marksJ_get (k : Int) (n i : Nat) (h : i < n) : (marksJ k n)[i]? = some ⟨k + 3 * i, k + 3 * i + 1, k + 3 * i + 1 + 1⟩ := by
  induction n with
  | zero => omega
  | succ n ih =>
    rw [marksJ]
    by_cases hi : i < n
    · rw [List.getElem?_append_left (by rw [marksJ_len]; exact hi)]; exact ih hi
    · obtain rfl : i = n := by omega
      rw [List.getElem?_append_right (by rw [marksJ_len]; exact Nat.le_refl _), marksJ_len]; simp
theorem marksT_get (k : Int) (n i : Nat) (h : i < n) : (marksT k n)[i]? = some ⟨k + 5 * i, k + 5 * i + 1, k + 5 * i + 1 + 1, k + 5 * i + 1 + 1 + 1, (k + 5 * i + 1 + 1 + 1 + 1) % 3 == 0⟩ := by
  induction n with
  | zero => omega
  | succ n ih =>
    rw [marksT]
    by_cases hi : i < n
    · rw [List.getElem?_append_left (by rw [marksT_len]; exact hi)]; exact ih hi
    · obtain rfl : i = n := by omega
      rw [List.getElem?_append_right (by rw [marksT_len]; exact Nat.le_refl _), marksT_len]; simp

/-- The end of a mark: how far it has counted, what turned, what lies there now. -/
def MarkEnd (w : World) (ao : Option Addr) (E : Nat) (q : Int) (xs : List Value) (e : Ending) (w' : World) : Prop := e = .returned (.int .i64 q) ∧ Hit w w' ao ∧ Own w' 0 E ao xs ∧ (xs = [] → w' = w)

theorem own_len {w : World} {E : Nat} {ao : Option Addr} {xs : List Value} (h : Own w 0 E ao xs) (hne : xs ≠ []) : ∃ g cur, ao = some ⟨g, 0, none⟩ ∧ w.heap[g]? = some (.cells cur E (0, 0)) ∧ xs.length ≤ cur.size := by
  rcases h with h | ⟨g, cur, e, _, hh, ht⟩
  · exact absurd h hne
  · refine ⟨g, cur, e, hh, ?_⟩
    rw [← ht]; simp only [List.length_take, Array.length_toList]; omega

end Go.Proofs.YtaadlgpglfpmpaaDoor

/-
  The walks of DroppedOf, of the marks on a run and of RunSame. Lengths at most 2^20.
-/

namespace Go.Proofs.YtaadlgpglfpmpaaDoor
open Go.RowKit

/-- The places from i on at which -2 stands. -/
def dropFrom : List Int → Nat → List Int
  | [], _ => []
  | x :: l, i => if x = -2 then (i : Int) :: dropFrom l (i + 1) else dropFrom l (i + 1)
abbrev dropped (l : List Int) : List Int := dropFrom l 0
theorem dropFrom_len (l : List Int) : ∀ i, (dropFrom l i).length ≤ l.length := by
  induction l with
  | nil => intro i; simp [dropFrom]
  | cons x l ih => intro i; simp only [dropFrom, List.length_cons]; split <;> (have := ih (i + 1); simp; omega)

/-- A slice of the call's own: what it owns, and that its capacity is known. -/
def Ret (w : World) (E size : Nat) (xs : List Value) (n : Nat) (e : Ending) (w' : World) : Prop := ∃ ao c, e = .returned (.slice ao n c) ∧ w'.ownsRow w.heap.size E size (.slice ao n c) n xs ∧ Bw w w'

theorem own_form {w : World} {base E size n : Nat} {v : Value} {xs : List Value} (h : w.ownsRow base E size v n xs) : ∃ ao c, v = .slice ao n c := by
  rcases h.2 with ⟨rfl, rfl⟩ | ⟨g, cap, cur, rfl, _⟩
  · exact ⟨none, 0, rfl⟩
  · exact ⟨_, _, rfl⟩

theorem own_cap0 {w : World} {base E size n : Nat} {v : Value} {xs : List Value} (h : w.ownsRow base E size v n xs) : ∀ k, v.ownBlock = some k → base ≤ k := fun k hk => (h.lt k hk).1

end Go.Proofs.YtaadlgpglfpmpaaDoor

/-
  The walks of the functions that copy, compare, mark and hold slices of jobs and of tasks. Lengths at most 2^20.
-/

namespace Go.Proofs.YtaadlgpglfpmpaaDoor
open Go.RowKit

abbrev zJob : Value := .agg #[.int .i64 0, .int .i64 0, .int .i64 0]
abbrev zTask : Value := .agg #[.int .i64 0, .int .i64 0, .int .i64 0, .int .i64 0, .bool false]
theorem infoJob : (Tryd.prog.info? 57).map (fun i => (i.zero, i.size, i.bytes)) = some (some zJob, 3, 24) := by kernel_rfl
theorem infoTask : (Tryd.prog.info? 76).map (fun i => (i.zero, i.size, i.bytes)) = some (some zTask, 5, 40) := by kernel_rfl

theorem mkJob (n : Nat) (hn : n ≤ 1048576) : ∃ C : Array Value, C.size = n * 3 ∧ ∀ w : World, (Instr.makeSlice 37 (.int .i64 (n : Int)) (.int .i64 (n : Int))).run Tryd.prog w = .ok (.slice (some ⟨w.heap.size, 0, none⟩) n n) (w.alloc (.cells C 57)) := by
  obtain ⟨i, hi, hz, hs, hb⟩ := info_parts infoJob
  refine ⟨madeCells (Value.cells zJob) (n * i.size), by rw [size_madeCells, hs], fun w => ?_⟩
  have h := run_make (P := Tryd.prog) w 37 57 i _ Tryd.underlying37 hi hz .i64 .i64 n n (by omega) (Int.le_refl _) (by rw [hb]; omega) (by omega)
  simp only [Int.toNat_natCast] at h
  exact h
theorem mkTask (n : Nat) (hn : n ≤ 1048576) : ∃ C : Array Value, C.size = n * 5 ∧ ∀ w : World, (Instr.makeSlice 36 (.int .i64 (n : Int)) (.int .i64 (n : Int))).run Tryd.prog w = .ok (.slice (some ⟨w.heap.size, 0, none⟩) n n) (w.alloc (.cells C 76)) := by
  obtain ⟨i, hi, hz, hs, hb⟩ := info_parts infoTask
  refine ⟨madeCells (Value.cells zTask) (n * i.size), by rw [size_madeCells, hs], fun w => ?_⟩
  have h := run_make (P := Tryd.prog) w 36 76 i _ Tryd.underlying36 hi hz .i64 .i64 n n (by omega) (Int.le_refl _) (by rw [hb]; omega) (by omega)
  simp only [Int.toNat_natCast] at h
  exact h

set_option maxHeartbeats 400000 in
theorem szJobS_any (ao : Option Addr) (n c : Nat) (left : Int) (w : World) (hn : n ≤ maxLen) (h0 : 0 ≤ left) (h1 : left ≤ 1048576) :
    Calls Tryd.prog 29 #[.slice ao n c, .int .i64 left] w fun e w' => e = .returned (.int .i64 (if left - n < 0 then -1 else left - n)) ∧ w = w' := by
  unfold maxLen at hn
  by_cases h : left - n < 0
  · have E : (if left - (n : Int) < 0 then (-1 : Int) else left - n) = -1 := if_pos h
    rw [E]; clear E
    go_enter Tryd.func29, Tryd.ntmps29
    go_wp2
    go_ret
    exact ⟨rfl, rfl⟩
  · have E : (if left - (n : Int) < 0 then (-1 : Int) else left - n) = left - n := if_neg h
    rw [E]; clear E
    go_enter Tryd.func29, Tryd.ntmps29
    go_wp2
    go_ret
    exact ⟨rfl, rfl⟩
set_option maxHeartbeats 400000 in
theorem toJob_any (x y z : Int) (w : World) :
    Calls Tryd.prog 59 #[.agg #[.int .i64 x, .int .i64 y, .int .i64 z]] w fun e w' => e = .returned (.agg #[.int .i64 x, .int .i64 y, .int .i64 z]) ∧ Bw w w' := by
  go_enter Tryd.func59, Tryd.ntmps59
  go_wp2
  exact bodyPost_ret (v := .agg #[.int .i64 x, .int .i64 y, .int .i64 z]) (by simp [results, Tryd.results59, go_sem]) rfl ⟨rfl, bw_trans (bw_alloc _ _) (bw_trans (bw_alloc _ _) (bw_alloc _ _))⟩

theorem fill3 {cur : Array Value} {done : List Value} {n : Nat} {a b c : Value} (h : cur.toList.take n = done) (hk : n + 3 ≤ cur.size) :
    (((cur.setIfInBounds n a).setIfInBounds (n + 1) b).setIfInBounds (n + 2) c).toList.take (n + 3) = done ++ [a, b, c] := by
  have h1 := fill_one (v := a) h (by omega)
  have h2 := fill_one (v := b) h1 (by simp; omega)
  have h3 := fill_one (v := c) h2 (by simp; omega)
  simpa using h3
theorem fill5 {cur : Array Value} {done : List Value} {n : Nat} {a b c d e : Value} (h : cur.toList.take n = done) (hk : n + 5 ≤ cur.size) :
    (((((cur.setIfInBounds n a).setIfInBounds (n + 1) b).setIfInBounds (n + 2) c).setIfInBounds (n + 3) d).setIfInBounds (n + 4) e).toList.take (n + 5) = done ++ [a, b, c, d, e] := by
  have h1 := fill3 (a := a) (b := b) (c := c) h (by omega)
  have h2 := fill_one (v := d) h1 (by simp; omega)
  have h3 := fill_one (v := e) h2 (by simp; omega)
  simpa using h3
theorem cell_ex {w : World} {g E : Nat} {cur : Array Value} (h : w.heap[g]? = some (.cells cur E (0, 0))) {j : Nat} (hj : j < cur.size) : ∃ v, w.cell? ⟨g, j, none⟩ = some v := ⟨cur[j], blk_cell h j (by simp [hj])⟩

set_option maxHeartbeats 1600000 in
theorem toJobS_any (ao : Option Addr) (c : Nat) (w : World) (l : List Jb) (hl : l.length ≤ 1048576) (hr : RJ w ao l) :
    Calls Tryd.prog 31 #[.slice ao l.length c] w fun e w' => e = .returned (.slice (some ⟨w.heap.size, 0, none⟩) l.length l.length) ∧ Bw w w' ∧ ∃ cur, w'.heap[w.heap.size]? = some (.cells cur 57 (0, 0)) ∧ cur.toList = jbs l := by
  have HR := Lib.hid hr
  clear hr
  obtain ⟨C, hC, hmk⟩ := mkJob l.length hl
  have HC := Lib.hid hC
  clear hC
  go_enter Tryd.func31, Tryd.ntmps31
  go_wp2
  clear hmk
  go_loopw [4] (fun i wr => ∃ (k : Nat) (cur : Array Value), k ≤ l.length ∧ i = .int .i64 k ∧ Hid (wr.heap[w.heap.size]? = some (.cells cur 57 (0, 0))) ∧ Hid (cur.size = l.length * 3) ∧ Hid (cur.toList.take (k * 3) = jbs (l.take k)) ∧ Bw w wr)
    (fun i _ => l.length - (intOf i).toNat)
  case atStart => exact ⟨0, _, Nat.zero_le _, rfl, heap_alloc_new w _, HC.out, by simp [Hid, jbs], bw_alloc _ _⟩
  case round =>
    obtain ⟨k, cur, hk, rfl, HB, HZ, hx, hbw⟩ := hrel
    by_cases hlt : k < l.length
    · obtain ⟨⟨x, y, z⟩, b, off, hxk, hao, hbs, c0, c1, c2⟩ := HR.out.get hbw hlt
      dsimp only at c0 c1 c2
      have HXK := Lib.hid hxk
      clear hxk
      subst hao
      have hks : k * 3 + 3 ≤ cur.size := by rw [HZ.out]; omega
      go_wp2_with fail
      refine (toJob_any _ _ _ _).mono ?_
      rintro e w1 ⟨rfl, hb1⟩
      clear c0 c1 c2
      have HB1 := Lib.hid (blk_bw hb1 HB.out)
      obtain ⟨o0, e0⟩ := cell_ex HB1.out (j := k * 3) (by omega)
      obtain ⟨o1, e1⟩ := cell_ex HB1.out (j := k * 3 + 1) (by omega)
      obtain ⟨o2, e2⟩ := cell_ex HB1.out (j := k * 3 + 2) (by omega)
      have hfree := fun j => blk_free HB1.out j
      have HKS := Lib.hid hks
      clear hks
      go_wp2
      go_roundw
      case rel => exact ⟨k + 1, _, by omega, by go_num, blk_set (blk_set (blk_set HB1.out (k * 3) (vi x)) (k * 3 + 1) (vi y)) (k * 3 + 2) (vi z), by show _ = _; simp [HZ.out], by
          show _ = _
          rw [show (k + 1) * 3 = k * 3 + 3 from by omega, fill3 hx.out HKS.out, take_snoc HXK.out, jbs_append]; rfl, bw_set (bw_set (bw_set (bw_trans hbw hb1) (by simp) _ _) (by simp) _ _) (by simp) _ _⟩
      case measure => simp [intOf]; omega
    · have hcu : cur.toList = jbs l := by
        have := hx.out
        rw [List.take_of_length_le (by simp [HZ.out]; omega), take_end hlt] at this
        exact this
      have HCU := Lib.hid hcu
      clear hcu
      go_wp2
      go_ret
      exact ⟨rfl, hbw, cur, HB.out, HCU.out⟩

end Go.Proofs.YtaadlgpglfpmpaaDoor

/-
  The walks of the functions that compare slices of jobs and of tasks. Lengths at most 2^20.
-/

namespace Go.Proofs.YtaadlgpglfpmpaaDoor
open Go.RowKit

def eqJ (a b : Jb) : Bool := decide (a = b)
def eqT (a b : Tk) : Bool := decide (a = b)
theorem eqJ_refl (a : Jb) : eqJ a a = true := by simp [eqJ]
theorem eqT_refl (a : Tk) : eqT a a = true := by simp [eqT]

set_option maxHeartbeats 800000 in
theorem eqJob_any (x y z x' y' z' : Int) (w : World) :
    Calls Tryd.prog 62 #[.agg #[.int .i64 x, .int .i64 y, .int .i64 z], .agg #[.int .i64 x', .int .i64 y', .int .i64 z']] w fun e w' => e = .returned (.bool (eqJ ⟨x, y, z⟩ ⟨x', y', z'⟩)) ∧ Bw w w' := by
  have h2 := bw_trans (bw_alloc w (.cells #[.int .i64 x, .int .i64 y, .int .i64 z] 57)) (bw_alloc _ (.cells #[.int .i64 x', .int .i64 y', .int .i64 z'] 57))
  have no : ¬ (x = x' ∧ y = y' ∧ z = z') → false = eqJ ⟨x, y, z⟩ ⟨x', y', z'⟩ := fun h => (decide_eq_false (by simpa using h)).symm
  have NO := Lib.hid no
  clear no
  by_cases h0 : x = x'
  · by_cases h1 : y = y'
    · by_cases h2' : z = z'
      · subst h0 h1 h2'
        have q0 : (x != x) = false := by simp
        have q1 : (y != y) = false := by simp
        have q2 : (z != z) = false := by simp
        have HY : Hid (true = eqJ ⟨x, y, z⟩ ⟨x, y, z⟩) := by simp [Hid, eqJ]
        go_enter Tryd.func62, Tryd.ntmps62
        go_wp2
        go_ret
        exact ⟨ret_b HY.out, h2⟩
      · have q : (z != z') = true := by simp [h2']
        have HN := Lib.hid (NO.out (fun h => h2' h.2.2))
        subst h0 h1
        have q0 : (x != x) = false := by simp
        have q1 : (y != y) = false := by simp
        clear h2'
        go_enter Tryd.func62, Tryd.ntmps62
        go_wp2
        go_ret
        exact ⟨ret_b HN.out, h2⟩
    · have q : (y != y') = true := by simp [h1]
      have HN := Lib.hid (NO.out (fun h => h1 h.2.1))
      subst h0
      have q0 : (x != x) = false := by simp
      clear h1
      go_enter Tryd.func62, Tryd.ntmps62
      go_wp2
      go_ret
      exact ⟨ret_b HN.out, h2⟩
  · have q : (x != x') = true := by simp [h0]
    have HN := Lib.hid (NO.out (fun h => h0 h.1))
    clear h0
    go_enter Tryd.func62, Tryd.ntmps62
    go_wp2
    go_ret
    exact ⟨ret_b HN.out, h2⟩

set_option maxHeartbeats 1600000 in
theorem eqJobS_any (ao bo : Option Addr) (la lb : List Jb) (ca cb : Nat) (w : World) (ha : RJ w ao la) (hb : RJ w bo lb) (na : la.length ≤ 1048576) (_nb : lb.length ≤ 1048576) :
    Calls Tryd.prog 33 #[.slice ao la.length ca, .slice bo lb.length cb] w fun e w' => e = .returned (.bool (decide (la = lb))) ∧ Bw w w' := by
  have HA := Lib.hid ha
  have HB := Lib.hid hb
  clear ha hb
  by_cases hl : la.length = lb.length
  · have hL : ((la.length : Int) != (lb.length : Int)) = false := by simp [hl]
    have HL := Lib.hid hl
    clear hl
    go_enter Tryd.func33, Tryd.ntmps33
    go_wp2
    go_loopw [5] (fun i wr => ∃ k : Nat, k ≤ la.length ∧ i = .int .i64 k ∧ Hid (decide (la = lb) = decide (la.drop k = lb.drop k)) ∧ Bw w wr) (fun i _ => la.length - (intOf i).toNat)
    case atStart => exact ⟨0, Nat.zero_le _, rfl, rfl, Bw.refl _⟩
    case round =>
      obtain ⟨k, hk, rfl, hx, hbw⟩ := hrel
      by_cases hlt : k < la.length
      · have hltb : k < lb.length := by rw [← HL.out]; exact hlt
        obtain ⟨⟨x0, x1, x2⟩, b, off, hxk, hao, hbs, c0, c1, c2⟩ := HA.out.get hbw hlt
        obtain ⟨⟨y0, y1, y2⟩, b2, off2, hyk, hbo, hbs2, d0, d1, d2⟩ := HB.out.get hbw hltb
        dsimp only at c0 c1 c2 d0 d1 d2
        have HXK := Lib.hid hxk
        have HYK := Lib.hid hyk
        clear hxk hyk
        subst hao; subst hbo
        have hst : decide (la.drop k = lb.drop k) = (eqJ ⟨x0, x1, x2⟩ ⟨y0, y1, y2⟩ && decide (la.drop (k + 1) = lb.drop (k + 1))) := by
          rw [drop_cons HXK.out, drop_cons HYK.out]; simp [eqJ]
        obtain ⟨q, HQ⟩ : ∃ q, Hid (eqJ ⟨x0, x1, x2⟩ ⟨y0, y1, y2⟩ = q) := ⟨_, rfl⟩
        have hcon := fun W => eqJob_any x0 x1 x2 y0 y1 y2 W
        simp only [HQ.out] at hcon
        have HST := Lib.hid hst
        have HCON := Lib.hid hcon
        clear hst hcon
        have k0 := fun d os => cell_regrown c0 d os
        have m0 := fun d os => cell_regrown d0 d os
        have k1 := fun d os => cell_regrown c1 d os
        have m1 := fun d os => cell_regrown d1 d os
        have k2 := fun d os => cell_regrown c2 d os
        have m2 := fun d os => cell_regrown d2 d os
        clear c0 c1 c2 d0 d1 d2
        cases q with
        | true =>
          go_wp2_with fail
          refine wp_region_quiet_below (by kernel_rfl) (by kernel_rfl) ?_
          repeat (go_big_quiet_step ((go_at_call 62; exact Calls.regrown_of (HCON.out _))))
          refine wpQuiet_nil ?_
          intro wq hw'
          have hbq := bw_of_ex hw'
          clear hw'
          go_wp2
          go_roundw
          case rel => exact ⟨k + 1, by omega, by go_num, by show _ = _; rw [hx.out, HST.out, HQ.out, Bool.true_and], bw_trans hbw hbq⟩
          case measure => simp [intOf]; omega
        | false =>
          go_wp2_with fail
          refine wp_region_quiet_below (by kernel_rfl) (by kernel_rfl) ?_
          repeat (go_big_quiet_step ((go_at_call 62; exact Calls.regrown_of (HCON.out _))))
          refine wpQuiet_nil ?_
          intro wq hw'
          have hbq := bw_of_ex hw'
          clear hw'
          go_wp2
          go_ret
          exact ⟨ret_b (by rw [hx.out, HST.out, HQ.out, Bool.false_and]), bw_trans hbw hbq⟩
      · have HD : Hid (true = decide (la = lb)) := by
          have h2 : ¬ k < lb.length := by rw [← HL.out]; exact hlt
          show _ = _
          rw [hx.out, drop_end hlt, drop_end h2]; simp
        go_wp2
        go_ret
        exact ⟨ret_b HD.out, hbw⟩
  · have hL : ((la.length : Int) != (lb.length : Int)) = true := by simp; omega
    have HF : Hid (false = decide (la = lb)) := by show _ = _; rw [decide_eq_false (fun e => hl (by rw [e]))]
    clear hl
    go_enter Tryd.func33, Tryd.ntmps33
    go_wp2
    go_ret
    exact ⟨ret_b HF.out, Bw.refl _⟩

end Go.Proofs.YtaadlgpglfpmpaaDoor

/-
  The walks of the functions that mark slices of jobs and of tasks and look whether the marks are held. Lengths at most 2^20.
-/

namespace Go.Proofs.YtaadlgpglfpmpaaDoor
open Go.RowKit

end Go.Proofs.YtaadlgpglfpmpaaDoor

/-
  The walks of the functions that mark slices of jobs and of tasks and look whether the marks are held. Lengths at most 2^20.
-/

namespace Go.Proofs.YtaadlgpglfpmpaaDoor
open Go.RowKit

end Go.Proofs.YtaadlgpglfpmpaaDoor

/-
  The walks of the functions that check tasks: each returns what its mirror says and writes nothing that was there.
-/

namespace Go.Proofs.YtaadlgpglfpmpaaDoor
open Go.RowKit

def isOk (a b c d : Int) (e : Bool) : Bool := decide (1 ≤ a ∧ a ≤ b ∧ b ≤ c ∧ c ≤ d ∧ d ≤ 20 ∧ (e = true ∨ a = b))
abbrev Tk.ok (t : Tk) : Bool := isOk t.low t.high t.due t.every t.crit
theorem Tk.ok_iff (t : Tk) : t.ok = true ↔ 1 ≤ t.low ∧ t.low ≤ t.high ∧ t.high ≤ t.due ∧ t.due ≤ t.every ∧ t.every ≤ 20 ∧ (t.crit = true ∨ t.low = t.high) := by simp [isOk]
def setOk (l : List Tk) : Bool := decide (l.length ≤ 5) && l.all Tk.ok
theorem setOk_len {l : List Tk} (h : setOk l = true) : l.length ≤ 5 := by simp [setOk] at h; exact h.1
theorem setOk_all {l : List Tk} (h : setOk l = true) : ∀ t ∈ l, t.ok = true := by simp [setOk] at h; simpa using h.2
theorem setOk_at {l : List Tk} (h : setOk l = true) {k : Nat} {t : Tk} (ht : l[k]? = some t) : t.ok = true := setOk_all h t (List.mem_of_getElem? ht)

theorem ok_y {a b c d : Int} {e : Bool} (h1 : 1 ≤ a) (h2 : a ≤ b) (h3 : b ≤ c) (h4 : c ≤ d) (h5 : d ≤ 20) (h6 : e = true ∨ a = b) : Ending.returned (.bool true) = .returned (.bool (isOk a b c d e)) := by
  rw [isOk, decide_eq_true ⟨h1, h2, h3, h4, h5, h6⟩]
theorem ok_n {a b c d : Int} {e : Bool} (h : ¬ (1 ≤ a ∧ a ≤ b ∧ b ≤ c ∧ c ≤ d ∧ d ≤ 20 ∧ (e = true ∨ a = b))) : Ending.returned (.bool false) = .returned (.bool (isOk a b c d e)) := by
  rw [isOk, decide_eq_false h]

set_option maxHeartbeats 800000 in
theorem impl.TaskValid_walk (a b c d : Int) (e : Bool) (w : World) :
    Calls Tryd.prog 95 #[.agg #[.int .i64 a, .int .i64 b, .int .i64 c, .int .i64 d, .bool e]] w fun r w' => r = .returned (.bool (isOk a b c d e)) ∧ Bw w w' := by
  cases e with
  | true =>
    go_enter Tryd.func95, Tryd.ntmps95
    go_wp2
    · go_ret
      exact ⟨ok_y (by assumption) (by assumption) (by assumption) (by assumption) (by assumption) (.inl rfl), bw_alloc _ _⟩
    all_goals
      go_ret
      exact ⟨ok_n (by omega), bw_alloc _ _⟩
  | false =>
    by_cases hab : a = b
    · subst hab
      go_enter Tryd.func95, Tryd.ntmps95
      go_wp2
      · go_ret
        exact ⟨ok_y (by assumption) (Int.le_refl _) (by assumption) (by assumption) (by assumption) (.inr rfl), bw_alloc _ _⟩
      all_goals
        go_ret
        exact ⟨ok_n (by omega), bw_alloc _ _⟩
    · have hne : (a == b) = false := by simp [hab]
      have HF : Hid (¬ (1 ≤ a ∧ a ≤ b ∧ b ≤ c ∧ c ≤ d ∧ d ≤ 20 ∧ (false = true ∨ a = b))) := fun h => by rcases h.2.2.2.2.2 with h | h <;> simp_all
      clear hab
      go_enter Tryd.func95, Tryd.ntmps95
      go_wp2
      all_goals
        go_ret
        exact ⟨ok_n HF.out, bw_alloc _ _⟩

set_option maxHeartbeats 800000 in
theorem spec.TaskValid_walk (a b c d : Int) (e : Bool) (w : World) :
    Calls Tryd.prog 104 #[.agg #[.int .i64 a, .int .i64 b, .int .i64 c, .int .i64 d, .bool e]] w fun r w' => r = .returned (.bool (isOk a b c d e)) ∧ Bw w w' := by
  cases e with
  | true =>
    go_enter Tryd.func104, Tryd.ntmps104
    go_wp2
    · go_ret
      exact ⟨ok_y (by assumption) (by assumption) (by assumption) (by assumption) (by assumption) (.inl rfl), bw_alloc _ _⟩
    all_goals
      go_ret
      exact ⟨ok_n (by omega), bw_alloc _ _⟩
  | false =>
    by_cases hab : a = b
    · subst hab
      go_enter Tryd.func104, Tryd.ntmps104
      go_wp2
      · go_ret
        exact ⟨ok_y (by assumption) (Int.le_refl _) (by assumption) (by assumption) (by assumption) (.inr rfl), bw_alloc _ _⟩
      all_goals
        go_ret
        exact ⟨ok_n (by omega), bw_alloc _ _⟩
    · have hne : (a == b) = false := by simp [hab]
      have HF : Hid (¬ (1 ≤ a ∧ a ≤ b ∧ b ≤ c ∧ c ≤ d ∧ d ≤ 20 ∧ (false = true ∨ a = b))) := fun h => by rcases h.2.2.2.2.2 with h | h <;> simp_all
      clear hab
      go_enter Tryd.func104, Tryd.ntmps104
      go_wp2
      all_goals
        go_ret
        exact ⟨ok_n HF.out, bw_alloc _ _⟩

set_option maxHeartbeats 800000 in
theorem impl.SetValid_walk (ao : Option Addr) (c : Nat) (w : World) (l : List Tk) (hl : l.length ≤ 1048576) (hr : RT w ao l) :
    Calls Tryd.prog 74 #[.slice ao l.length c] w fun r w' => r = .returned (.bool (setOk l)) ∧ Bw w w' := by
  have HR := Lib.hid hr
  clear hr
  by_cases h5 : l.length ≤ 5
  · have HS : Hid (setOk l = l.all Tk.ok) := by show _ = _; simp [setOk, h5]
    go_enter Tryd.func74, Tryd.ntmps74
    go_wp2
    go_loopw [10] (fun i wr => ∃ k : Nat, k ≤ l.length ∧ i = .int .i64 k ∧ Hid (l.all Tk.ok = (l.drop k).all Tk.ok) ∧ Bw w wr) (fun i _ => l.length - (intOf i).toNat)
    case atStart => exact ⟨0, Nat.zero_le _, rfl, rfl, Bw.refl _⟩
    case round =>
      obtain ⟨k, hk, rfl, hx, hbw⟩ := hrel
      by_cases hlt : k < l.length
      · obtain ⟨t, b, off, htk, hao, hbs, c0, c1, c2, c3, c4⟩ := HR.out.get hbw hlt
        have HT := Lib.hid htk
        clear htk
        subst hao
        have hst : (l.drop k).all Tk.ok = (isOk t.low t.high t.due t.every t.crit && (l.drop (k + 1)).all Tk.ok) := by rw [drop_cons HT.out]; rfl
        have HST := Lib.hid hst
        clear hst
        go_wp2_with fail
        refine (impl.TaskValid_walk _ _ _ _ _ _).mono ?_
        obtain ⟨q, HQ⟩ : ∃ q, Hid (isOk t.low t.high t.due t.every t.crit = q) := ⟨_, rfl⟩
        rw [HQ.out]
        rintro e w1 ⟨rfl, hb1⟩
        have hw1 := bw_trans hbw (bw_trans (bw_alloc _ _) hb1)
        cases q with
        | true =>
          go_wp2
          go_roundw
          case rel => exact ⟨k + 1, by omega, by go_num, by show _ = _; rw [hx.out, HST.out, HQ.out, Bool.true_and], hw1⟩
          case measure => simp [intOf]; omega
        | false =>
          go_wp2
          go_ret
          exact ⟨ret_b (by rw [HS.out, hx.out, HST.out, HQ.out, Bool.false_and]), hw1⟩
      · have HD : Hid (true = setOk l) := by show _ = _; rw [HS.out, hx.out, drop_end hlt]; rfl
        go_wp2
        go_ret
        exact ⟨ret_b HD.out, hbw⟩
  · have HS : Hid (false = setOk l) := by show _ = _; simp [setOk, h5]
    go_enter Tryd.func74, Tryd.ntmps74
    go_wp2
    go_ret
    exact ⟨ret_b HS.out, Bw.refl _⟩

set_option maxHeartbeats 800000 in
theorem spec.SetValid_walk (ao : Option Addr) (c : Nat) (w : World) (l : List Tk) (hl : l.length ≤ 1048576) (hr : RT w ao l) :
    Calls Tryd.prog 78 #[.slice ao l.length c] w fun r w' => r = .returned (.bool (setOk l)) ∧ Bw w w' := by
  have HR := Lib.hid hr
  clear hr
  go_enter Tryd.func78, Tryd.ntmps78
  go_wp2
  go_loopw [3] (fun i wr => ∃ k : Nat, k ≤ l.length ∧ k ≤ 6 ∧ i = .int .i64 k ∧ Hid (l.all Tk.ok = (l.drop k).all Tk.ok) ∧ Bw w wr) (fun i _ => l.length - (intOf i).toNat)
  case atStart => exact ⟨0, Nat.zero_le _, by omega, rfl, rfl, Bw.refl _⟩
  case round =>
    obtain ⟨k, hk, hk6, rfl, hx, hbw⟩ := hrel
    by_cases hlt : k < l.length
    · by_cases h6 : k ≤ 5
      · obtain ⟨t, b, off, htk, hao, hbs, c0, c1, c2, c3, c4⟩ := HR.out.get hbw hlt
        have HT := Lib.hid htk
        clear htk
        subst hao
        have hst : (l.drop k).all Tk.ok = (isOk t.low t.high t.due t.every t.crit && (l.drop (k + 1)).all Tk.ok) := by rw [drop_cons HT.out]; rfl
        have HST := Lib.hid hst
        clear hst
        go_wp2_with fail
        refine (spec.TaskValid_walk _ _ _ _ _ _).mono ?_
        obtain ⟨q, HQ⟩ : ∃ q, Hid (isOk t.low t.high t.due t.every t.crit = q) := ⟨_, rfl⟩
        rw [HQ.out]
        rintro e w1 ⟨rfl, hb1⟩
        have hw1 := bw_trans hbw hb1
        cases q with
        | true =>
          go_wp2
          go_roundw
          case rel => exact ⟨k + 1, by omega, by omega, by go_num, by show _ = _; rw [hx.out, HST.out, HQ.out, Bool.true_and], hw1⟩
          case measure => simp [intOf]; omega
        | false =>
          go_wp2
          go_ret
          exact ⟨ret_b (by rw [setOk, hx.out, HST.out, HQ.out, Bool.false_and, Bool.and_false]), hw1⟩
      · have HD : Hid (decide ((l.length : Int) ≤ 5) = setOk l) := by
          show _ = _
          rw [decide_eq_false (by omega)]; simp [setOk]; omega
        go_wp2
        go_ret
        exact ⟨ret_b HD.out, hbw⟩
    · have HD : Hid (decide ((l.length : Int) ≤ 5) = setOk l) := by
        show _ = _; rw [setOk, hx.out, drop_end hlt]; simp; omega
      clear hk6
      go_wp2
      all_goals
        go_ret
        exact ⟨ret_b HD.out, hbw⟩

end Go.Proofs.YtaadlgpglfpmpaaDoor
