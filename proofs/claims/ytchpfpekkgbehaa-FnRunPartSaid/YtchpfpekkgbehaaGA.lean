import Derived.Test.YtchpfpekkgbehaaTo
import Derived.Test.YtchpfpekkgbehaaNum

/-
  The walks of the functions that mark a result's cells and look whether the marks are held. Lengths at most 2^20.
-/

namespace Go.Proofs.Ytchpfpekkgbehaa
open Go.RowKit

/-- Only the block of this address may have turned. -/
abbrev Hit (w w' : World) (ao : Option Addr) : Prop := w.grownBy w' (ao.map (·.block))

theorem hit_refl (w : World) (ao : Option Addr) : Hit w w ao := ⟨rfl, rfl, rfl, Nat.le_refl _, fun _ _ _ => rfl⟩
theorem hit_drewN {w w' : World} {ao : Option Addr} (h : Hit w w' ao) (n : Nat) : Hit w (w'.drewN n) ao := ⟨h.os, h.tape, h.output, h.size, h.block⟩
theorem hit_set {w w' : World} {g : Nat} (h : Hit w w' (some ⟨g, 0, none⟩)) (j : Nat) (v : Value) : Hit w (w'.setCell ⟨g, j, none⟩ v) (some ⟨g, 0, none⟩) :=
  ⟨h.os, h.tape, h.output, by simpa using h.size, fun k hk hne => by rw [Below.heap_setCell _ _ _ _ (fun e => hne (by simp [e]))]; exact h.block k hk hne⟩

def marksI (k : Int) : Nat → List Int
  | 0 => []
  | n + 1 => marksI k n ++ [k + n]
def marksJ (k : Int) : Nat → List Jb
  | 0 => []
  | n + 1 => marksJ k n ++ [⟨k + 3 * n, k + 3 * n + 1, k + 3 * n + 1 + 1⟩]
def marksT (k : Int) : Nat → List Tk
  | 0 => []
  | n + 1 => marksT k n ++ [⟨k + 5 * n, k + 5 * n + 1, k + 5 * n + 1 + 1, k + 5 * n + 1 + 1 + 1, (k + 5 * n + 1 + 1 + 1 + 1) % 3 == 0⟩]
theorem marksI_len (k : Int) (n : Nat) : (marksI k n).length = n := by induction n <;> simp_all [marksI]
theorem marksJ_len (k : Int) (n : Nat) : (marksJ k n).length = n := by induction n <;> simp_all [marksJ]
theorem marksT_len (k : Int) (n : Nat) : (marksT k n).length = n := by induction n <;> simp_all [marksT]
theorem marksI_get (k : Int) (n i : Nat) (h : i < n) : (marksI k n)[i]? = some (k + i) := by
  induction n with
  | zero => omega
  | succ n ih =>
    rw [marksI]
    by_cases hi : i < n
    · rw [List.getElem?_append_left (by rw [marksI_len]; exact hi)]; exact ih hi
    · obtain rfl : i = n := by omega
      rw [List.getElem?_append_right (by rw [marksI_len]; exact Nat.le_refl _), marksI_len]; simp
theorem marksJ_get (k : Int) (n i : Nat) (h : i < n) : (marksJ k n)[i]? = some ⟨k + 3 * i, k + 3 * i + 1, k + 3 * i + 1 + 1⟩ := by
  induction n with
  | zero => omega
  | succ n ih =>
    rw [marksJ]
    by_cases hi : i < n
    · rw [List.getElem?_append_left (by rw [marksJ_len]; exact hi)]; exact ih hi
    · obtain rfl : i = n := by omega
      rw [List.getElem?_append_right (by rw [marksJ_len]; exact Nat.le_refl _), marksJ_len]; simp
theorem marksT_get (k : Int) (n i : Nat) (h : i < n) : (marksT k n)[i]? = some ⟨k + 5 * i, k + 5 * i + 1, k + 5 * i + 1 + 1, k + 5 * i + 1 + 1 + 1, (k + 5 * i + 1 + 1 + 1 + 1) % 3 == 0⟩ := by
  induction n with
  | zero => omega
  | succ n ih =>
    rw [marksT]
    by_cases hi : i < n
    · rw [List.getElem?_append_left (by rw [marksT_len]; exact hi)]; exact ih hi
    · obtain rfl : i = n := by omega
      rw [List.getElem?_append_right (by rw [marksT_len]; exact Nat.le_refl _), marksT_len]; simp

/-- The end of a mark: how far it has counted, what turned, what lies there now. -/
def MarkEnd (w : World) (ao : Option Addr) (E : Nat) (q : Int) (xs : List Value) (e : Ending) (w' : World) : Prop := e = .returned (.int .i64 q) ∧ Hit w w' ao ∧ Own w' 0 E ao xs ∧ (xs = [] → w' = w)

theorem own_len {w : World} {E : Nat} {ao : Option Addr} {xs : List Value} (h : Own w 0 E ao xs) (hne : xs ≠ []) : ∃ g cur, ao = some ⟨g, 0, none⟩ ∧ w.heap[g]? = some (.cells cur E (0, 0)) ∧ xs.length ≤ cur.size := by
  rcases h with h | ⟨g, cur, e, _, hh, ht⟩
  · exact absurd h hne
  · refine ⟨g, cur, e, hh, ?_⟩
    rw [← ht]; simp only [List.length_take, Array.length_toList]; omega

end Go.Proofs.Ytchpfpekkgbehaa

/-
  The walks of DroppedOf, of the marks on a run and of RunSame. Lengths at most 2^20.
-/

namespace Go.Proofs.Ytchpfpekkgbehaa
open Go.RowKit

/-- The places from i on at which -2 stands. -/
def dropFrom : List Int → Nat → List Int
  | [], _ => []
  | x :: l, i => if x = -2 then (i : Int) :: dropFrom l (i + 1) else dropFrom l (i + 1)
abbrev dropped (l : List Int) : List Int := dropFrom l 0
theorem dropFrom_len (l : List Int) : ∀ i, (dropFrom l i).length ≤ l.length := by
  induction l with
  | nil => intro i; simp [dropFrom]
  | cons x l ih => intro i; simp only [dropFrom, List.length_cons]; split <;> (have := ih (i + 1); simp; omega)

/-- A slice of the call's own: what it owns, and that its capacity is known. -/
def Ret (w : World) (E size : Nat) (xs : List Value) (n : Nat) (e : Ending) (w' : World) : Prop := ∃ ao c, e = .returned (.slice ao n c) ∧ w'.ownsRow w.heap.size E size (.slice ao n c) n xs ∧ Bw w w'

theorem own_form {w : World} {base E size n : Nat} {v : Value} {xs : List Value} (h : w.ownsRow base E size v n xs) : ∃ ao c, v = .slice ao n c := by
  rcases h.2 with ⟨rfl, rfl⟩ | ⟨g, cap, cur, rfl, _⟩
  · exact ⟨none, 0, rfl⟩
  · exact ⟨_, _, rfl⟩

theorem own_cap0 {w : World} {base E size n : Nat} {v : Value} {xs : List Value} (h : w.ownsRow base E size v n xs) : ∀ k, v.ownBlock = some k → base ≤ k := fun k hk => (h.lt k hk).1

set_option maxHeartbeats 1600000 in
theorem DroppedOf_impl (v1 v2 : Value) (ao : Option Addr) (c : Nat) (hi : Bool) (w : World) (l : List Int) (hl : l.length ≤ 1048576) (hr : RI w ao l) :
    Calls Try.prog 23 #[.agg #[.slice ao l.length c, v1, v2, .bool hi]] w (Ret w 3 1 (ints (dropped l)) (dropped l).length) := by
  obtain ⟨i0, hi0, hz0, hz1, hz2⟩ := info_parts infoInt
  have HR := Lib.hid hr
  clear hr
  go_enter Try.func23, Try.ntmps23
  go_wp2
  go_loopw [3, 10] (fun u i wr => ∃ (k : Nat) (q : List Int), k ≤ l.length ∧ i = .int .i64 k ∧ wr.ownsRow (w.heap.size + 1) 3 1 u q.length (ints q) ∧ q.length ≤ k ∧ Hid (dropped l = q ++ dropFrom (l.drop k) k) ∧ Bw w wr ∧ Hid (wr.heap[w.heap.size]? = some (.cells #[.slice ao l.length c, v1, v2, .bool hi] 29 (0, 0)))) (fun _ i _ => l.length - (intOf i).toNat)
  case atStart => exact ⟨0, [], Nat.zero_le _, rfl, by simpa [ints] using World.ownsRow_made (w.alloc _) #[] 0 (by simp) (by simp) rfl, Nat.le_refl _, rfl, bw_trans (bw_alloc _ _) (bw_alloc _ _), blk_bw (bw_alloc _ _) (heap_alloc_new w _)⟩
  case round =>
    obtain ⟨k, q, hk, rfl, hown, hq, hx, hbw, hbox⟩ := hrel
    by_cases hlt : k < l.length
    · obtain ⟨x, b, off, hxk, hao, hbs, hcell⟩ := HR.out.get hbw hlt
      have HXK := Lib.hid hxk
      clear hxk
      subst hao
      have p0 := blk_cell hbox.out 0 rfl
      have hz := hbw.size
      have hbl : w.heap.size < wr.heap.size := blk_lt hbox.out
      have hstep : dropFrom (l.drop k) k = if x = -2 then (k : Int) :: dropFrom (l.drop (k + 1)) (k + 1) else dropFrom (l.drop (k + 1)) (k + 1) := by rw [drop_cons HXK.out]; rfl
      have HSTEP := Lib.hid hstep
      clear hstep
      by_cases he : x = -2
      · subst he
        have hq2 : ((-2 : Int) == -2) = true := by simp
        have hst2 : dropped l = (q ++ [(k : Int)]) ++ dropFrom (l.drop (k + 1)) (k + 1) := by rw [hx.out, HSTEP.out]; simp
        have HST2 := Lib.hid hst2
        clear hst2
        go_wp2_with (at_builtin; refine wpList_append_own _ rfl _ _ 27 rfl (w.heap.size + 1) 3 i0 (.int .i64 0) 1 8 Try.underlying27 hi0 hz0 hz1 hz2 rfl (by decide) _ _ _ rfl (hown.alloc _) ⟨wr.heap.size, 0, none⟩ 1 1 [.int .i64 k] rfl rfl (cell_one_new _ _ _) (oneI _) (by unfold maxLen; omega) (by omega) (by simp; omega) ?_; intro v' w1 hown' hgrow _)
        have hb1 : Bw w w1 := Below.grown (Below.alloc hbw hz _) hgrow (by simp; omega) (fun g hg => by have := own_cap0 hown g hg; omega)
        have hbox1 : Hid (w1.heap[w.heap.size]? = some (.cells #[.slice (some ⟨b, off, none⟩) l.length c, v1, v2, .bool hi] 29 (0, 0))) := by
          show _ = _
          rw [hgrow.block w.heap.size (by simp; omega) (fun e => by have := own_cap0 hown w.heap.size e.symm; omega)]
          exact blk_bw (bw_alloc _ _) hbox.out
        have hown2 : w1.ownsRow (w.heap.size + 1) 3 1 v' (q ++ [(k : Int)]).length (ints (q ++ [(k : Int)])) := by simpa [ints] using hown'
        clear hown' hgrow hown hbox p0 hcell
        go_wp2
        go_roundw
        case rel => exact ⟨k + 1, q ++ [(k : Int)], by omega, by go_num, hown2, by simp; omega, HST2.out, hb1, hbox1⟩
        case measure => simp [intOf]; omega
      · have hq2 : (x == -2) = false := by simp [he]
        have hst2 : dropped l = q ++ dropFrom (l.drop (k + 1)) (k + 1) := by rw [hx.out, HSTEP.out, if_neg he]
        have HST2 := Lib.hid hst2
        have HE := Lib.hid he
        clear hst2 he
        go_wp2
        go_roundw
        case rel => exact ⟨k + 1, q, by omega, by go_num, hown, by omega, HST2.out, hbw, hbox⟩
        case measure => simp [intOf]; omega
    · have hfin : dropped l = q := by rw [hx.out, drop_end hlt]; simp [dropFrom]
      have HFIN := Lib.hid hfin
      clear hfin
      have p0 := blk_cell hbox.out 0 rfl
      obtain ⟨ao', c', hu⟩ := own_form hown
      subst hu
      go_wp2
      go_ret
      exact ⟨ao', c', by rw [HFIN.out]; rfl, by rw [HFIN.out]; exact Go.Joins.ownsRow_le hown (by omega), hbw⟩
set_option maxHeartbeats 1600000 in
theorem DroppedOf_spec (v1 v2 : Value) (ao : Option Addr) (c : Nat) (hi : Bool) (w : World) (l : List Int) (hl : l.length ≤ 1048576) (hr : RI w ao l) :
    Calls Try.prog 30 #[.agg #[.slice ao l.length c, v1, v2, .bool hi]] w (Ret w 3 1 (ints (dropped l)) (dropped l).length) := by
  obtain ⟨i0, hi0, hz0, hz1, hz2⟩ := info_parts infoInt
  have HR := Lib.hid hr
  clear hr
  go_enter Try.func30, Try.ntmps30
  go_wp2
  go_loopw [3, 4] (fun u i wr => ∃ (k : Nat) (q : List Int), k ≤ l.length ∧ i = .int .i64 k ∧ wr.ownsRow (w.heap.size + 1) 3 1 u q.length (ints q) ∧ q.length ≤ k ∧ Hid (dropped l = q ++ dropFrom (l.drop k) k) ∧ Bw w wr ∧ Hid (wr.heap[w.heap.size]? = some (.cells #[.slice ao l.length c, v1, v2, .bool hi] 29 (0, 0)))) (fun _ i _ => l.length - (intOf i).toNat)
  case atStart => exact ⟨0, [], Nat.zero_le _, rfl, by simpa [ints] using World.ownsRow_made (w.alloc _) #[] 0 (by simp) (by simp) rfl, Nat.le_refl _, rfl, bw_trans (bw_alloc _ _) (bw_alloc _ _), blk_bw (bw_alloc _ _) (heap_alloc_new w _)⟩
  case round =>
    obtain ⟨k, q, hk, rfl, hown, hq, hx, hbw, hbox⟩ := hrel
    by_cases hlt : k < l.length
    · obtain ⟨x, b, off, hxk, hao, hbs, hcell⟩ := HR.out.get hbw hlt
      have HXK := Lib.hid hxk
      clear hxk
      subst hao
      have p0 := blk_cell hbox.out 0 rfl
      have hz := hbw.size
      have hbl : w.heap.size < wr.heap.size := blk_lt hbox.out
      have hstep : dropFrom (l.drop k) k = if x = -2 then (k : Int) :: dropFrom (l.drop (k + 1)) (k + 1) else dropFrom (l.drop (k + 1)) (k + 1) := by rw [drop_cons HXK.out]; rfl
      have HSTEP := Lib.hid hstep
      clear hstep
      by_cases he : x = -2
      · subst he
        have hq2 : ((-2 : Int) == -2) = true := by simp
        have hst2 : dropped l = (q ++ [(k : Int)]) ++ dropFrom (l.drop (k + 1)) (k + 1) := by rw [hx.out, HSTEP.out]; simp
        have HST2 := Lib.hid hst2
        clear hst2
        go_wp2_with (at_builtin; refine wpList_append_own _ rfl _ _ 27 rfl (w.heap.size + 1) 3 i0 (.int .i64 0) 1 8 Try.underlying27 hi0 hz0 hz1 hz2 rfl (by decide) _ _ _ rfl (hown.alloc _) ⟨wr.heap.size, 0, none⟩ 1 1 [.int .i64 k] rfl rfl (cell_one_new _ _ _) (oneI _) (by unfold maxLen; omega) (by omega) (by simp; omega) ?_; intro v' w1 hown' hgrow _)
        have hb1 : Bw w w1 := Below.grown (Below.alloc hbw hz _) hgrow (by simp; omega) (fun g hg => by have := own_cap0 hown g hg; omega)
        have hbox1 : Hid (w1.heap[w.heap.size]? = some (.cells #[.slice (some ⟨b, off, none⟩) l.length c, v1, v2, .bool hi] 29 (0, 0))) := by
          show _ = _
          rw [hgrow.block w.heap.size (by simp; omega) (fun e => by have := own_cap0 hown w.heap.size e.symm; omega)]
          exact blk_bw (bw_alloc _ _) hbox.out
        have hown2 : w1.ownsRow (w.heap.size + 1) 3 1 v' (q ++ [(k : Int)]).length (ints (q ++ [(k : Int)])) := by simpa [ints] using hown'
        clear hown' hgrow hown hbox p0 hcell
        go_wp2
        go_roundw
        case rel => exact ⟨k + 1, q ++ [(k : Int)], by omega, by go_num, hown2, by simp; omega, HST2.out, hb1, hbox1⟩
        case measure => simp [intOf]; omega
      · have hq2 : (x == -2) = false := by simp [he]
        have hst2 : dropped l = q ++ dropFrom (l.drop (k + 1)) (k + 1) := by rw [hx.out, HSTEP.out, if_neg he]
        have HST2 := Lib.hid hst2
        have HE := Lib.hid he
        clear hst2 he
        go_wp2
        go_roundw
        case rel => exact ⟨k + 1, q, by omega, by go_num, hown, by omega, HST2.out, hbw, hbox⟩
        case measure => simp [intOf]; omega
    · have hfin : dropped l = q := by rw [hx.out, drop_end hlt]; simp [dropFrom]
      have HFIN := Lib.hid hfin
      clear hfin
      have p0 := blk_cell hbox.out 0 rfl
      obtain ⟨ao', c', hu⟩ := own_form hown
      subst hu
      go_wp2
      go_ret
      exact ⟨ao', c', by rw [HFIN.out]; rfl, by rw [HFIN.out]; exact Go.Joins.ownsRow_le hown (by omega), hbw⟩
end Go.Proofs.Ytchpfpekkgbehaa

/-
  The walks of the functions that copy, compare, mark and hold slices of jobs and of tasks. Lengths at most 2^20.
-/

namespace Go.Proofs.Ytchpfpekkgbehaa
open Go.RowKit

abbrev zJob : Value := .agg #[.int .i64 0, .int .i64 0, .int .i64 0]
abbrev zTask : Value := .agg #[.int .i64 0, .int .i64 0, .int .i64 0, .int .i64 0, .bool false]
theorem infoJob : (Try.prog.info? 45).map (fun i => (i.zero, i.size, i.bytes)) = some (some zJob, 3, 24) := by kernel_rfl
theorem infoTask : (Try.prog.info? 56).map (fun i => (i.zero, i.size, i.bytes)) = some (some zTask, 5, 40) := by kernel_rfl

theorem mkJob (n : Nat) (hn : n ≤ 1048576) : ∃ C : Array Value, C.size = n * 3 ∧ ∀ w : World, (Instr.makeSlice 24 (.int .i64 (n : Int)) (.int .i64 (n : Int))).run Try.prog w = .ok (.slice (some ⟨w.heap.size, 0, none⟩) n n) (w.alloc (.cells C 45)) := by
  obtain ⟨i, hi, hz, hs, hb⟩ := info_parts infoJob
  refine ⟨madeCells (Value.cells zJob) (n * i.size), by rw [size_madeCells, hs], fun w => ?_⟩
  have h := run_make (P := Try.prog) w 24 45 i _ Try.underlying24 hi hz .i64 .i64 n n (by omega) (Int.le_refl _) (by rw [hb]; omega) (by omega)
  simp only [Int.toNat_natCast] at h
  exact h
theorem mkTask (n : Nat) (hn : n ≤ 1048576) : ∃ C : Array Value, C.size = n * 5 ∧ ∀ w : World, (Instr.makeSlice 23 (.int .i64 (n : Int)) (.int .i64 (n : Int))).run Try.prog w = .ok (.slice (some ⟨w.heap.size, 0, none⟩) n n) (w.alloc (.cells C 56)) := by
  obtain ⟨i, hi, hz, hs, hb⟩ := info_parts infoTask
  refine ⟨madeCells (Value.cells zTask) (n * i.size), by rw [size_madeCells, hs], fun w => ?_⟩
  have h := run_make (P := Try.prog) w 23 56 i _ Try.underlying23 hi hz .i64 .i64 n n (by omega) (Int.le_refl _) (by rw [hb]; omega) (by omega)
  simp only [Int.toNat_natCast] at h
  exact h

theorem fill3 {cur : Array Value} {done : List Value} {n : Nat} {a b c : Value} (h : cur.toList.take n = done) (hk : n + 3 ≤ cur.size) :
    (((cur.setIfInBounds n a).setIfInBounds (n + 1) b).setIfInBounds (n + 2) c).toList.take (n + 3) = done ++ [a, b, c] := by
  have h1 := fill_one (v := a) h (by omega)
  have h2 := fill_one (v := b) h1 (by simp; omega)
  have h3 := fill_one (v := c) h2 (by simp; omega)
  simpa using h3
theorem fill5 {cur : Array Value} {done : List Value} {n : Nat} {a b c d e : Value} (h : cur.toList.take n = done) (hk : n + 5 ≤ cur.size) :
    (((((cur.setIfInBounds n a).setIfInBounds (n + 1) b).setIfInBounds (n + 2) c).setIfInBounds (n + 3) d).setIfInBounds (n + 4) e).toList.take (n + 5) = done ++ [a, b, c, d, e] := by
  have h1 := fill3 (a := a) (b := b) (c := c) h (by omega)
  have h2 := fill_one (v := d) h1 (by simp; omega)
  have h3 := fill_one (v := e) h2 (by simp; omega)
  simpa using h3
theorem cell_ex {w : World} {g E : Nat} {cur : Array Value} (h : w.heap[g]? = some (.cells cur E (0, 0))) {j : Nat} (hj : j < cur.size) : ∃ v, w.cell? ⟨g, j, none⟩ = some v := ⟨cur[j], blk_cell h j (by simp [hj])⟩

end Go.Proofs.Ytchpfpekkgbehaa

/-
  The walks of the functions that compare slices of jobs and of tasks. Lengths at most 2^20.
-/

namespace Go.Proofs.Ytchpfpekkgbehaa
open Go.RowKit

def eqJ (a b : Jb) : Bool := decide (a = b)
def eqT (a b : Tk) : Bool := decide (a = b)
theorem eqJ_refl (a : Jb) : eqJ a a = true := by simp [eqJ]
theorem eqT_refl (a : Tk) : eqT a a = true := by simp [eqT]

end Go.Proofs.Ytchpfpekkgbehaa

/-
  The walks of the functions that mark slices of jobs and of tasks and look whether the marks are held. Lengths at most 2^20.
-/

namespace Go.Proofs.Ytchpfpekkgbehaa
open Go.RowKit

end Go.Proofs.Ytchpfpekkgbehaa

/-
  The walks of the functions that mark slices of jobs and of tasks and look whether the marks are held. Lengths at most 2^20.
-/

namespace Go.Proofs.Ytchpfpekkgbehaa
open Go.RowKit

end Go.Proofs.Ytchpfpekkgbehaa

/-
  The walks of the functions that check tasks: each returns what its mirror says and writes nothing that was there.
-/

namespace Go.Proofs.Ytchpfpekkgbehaa
open Go.RowKit

def isOk (a b c d : Int) (e : Bool) : Bool := decide (1 ≤ a ∧ a ≤ b ∧ b ≤ c ∧ c ≤ d ∧ d ≤ 20 ∧ (e = true ∨ a = b))
abbrev Tk.ok (t : Tk) : Bool := isOk t.low t.high t.due t.every t.crit
theorem Tk.ok_iff (t : Tk) : t.ok = true ↔ 1 ≤ t.low ∧ t.low ≤ t.high ∧ t.high ≤ t.due ∧ t.due ≤ t.every ∧ t.every ≤ 20 ∧ (t.crit = true ∨ t.low = t.high) := by simp [isOk]
def setOk (l : List Tk) : Bool := decide (l.length ≤ 5) && l.all Tk.ok
theorem setOk_len {l : List Tk} (h : setOk l = true) : l.length ≤ 5 := by simp [setOk] at h; exact h.1
theorem setOk_all {l : List Tk} (h : setOk l = true) : ∀ t ∈ l, t.ok = true := by simp [setOk] at h; simpa using h.2
theorem setOk_at {l : List Tk} (h : setOk l = true) {k : Nat} {t : Tk} (ht : l[k]? = some t) : t.ok = true := setOk_all h t (List.mem_of_getElem? ht)

theorem ok_y {a b c d : Int} {e : Bool} (h1 : 1 ≤ a) (h2 : a ≤ b) (h3 : b ≤ c) (h4 : c ≤ d) (h5 : d ≤ 20) (h6 : e = true ∨ a = b) : Ending.returned (.bool true) = .returned (.bool (isOk a b c d e)) := by
  rw [isOk, decide_eq_true ⟨h1, h2, h3, h4, h5, h6⟩]
theorem ok_n {a b c d : Int} {e : Bool} (h : ¬ (1 ≤ a ∧ a ≤ b ∧ b ≤ c ∧ c ≤ d ∧ d ≤ 20 ∧ (e = true ∨ a = b))) : Ending.returned (.bool false) = .returned (.bool (isOk a b c d e)) := by
  rw [isOk, decide_eq_false h]

set_option maxHeartbeats 800000 in
theorem impl.TaskValid_walk (a b c d : Int) (e : Bool) (w : World) :
    Calls Try.prog 81 #[.agg #[.int .i64 a, .int .i64 b, .int .i64 c, .int .i64 d, .bool e]] w fun r w' => r = .returned (.bool (isOk a b c d e)) ∧ Bw w w' := by
  cases e with
  | true =>
    go_enter Try.func81, Try.ntmps81
    go_wp2
    · go_ret
      exact ⟨ok_y (by assumption) (by assumption) (by assumption) (by assumption) (by assumption) (.inl rfl), bw_alloc _ _⟩
    all_goals
      go_ret
      exact ⟨ok_n (by omega), bw_alloc _ _⟩
  | false =>
    by_cases hab : a = b
    · subst hab
      go_enter Try.func81, Try.ntmps81
      go_wp2
      · go_ret
        exact ⟨ok_y (by assumption) (Int.le_refl _) (by assumption) (by assumption) (by assumption) (.inr rfl), bw_alloc _ _⟩
      all_goals
        go_ret
        exact ⟨ok_n (by omega), bw_alloc _ _⟩
    · have hne : (a == b) = false := by simp [hab]
      have HF : Hid (¬ (1 ≤ a ∧ a ≤ b ∧ b ≤ c ∧ c ≤ d ∧ d ≤ 20 ∧ (false = true ∨ a = b))) := fun h => by rcases h.2.2.2.2.2 with h | h <;> simp_all
      clear hab
      go_enter Try.func81, Try.ntmps81
      go_wp2
      all_goals
        go_ret
        exact ⟨ok_n HF.out, bw_alloc _ _⟩

set_option maxHeartbeats 800000 in
theorem spec.TaskValid_walk (a b c d : Int) (e : Bool) (w : World) :
    Calls Try.prog 97 #[.agg #[.int .i64 a, .int .i64 b, .int .i64 c, .int .i64 d, .bool e]] w fun r w' => r = .returned (.bool (isOk a b c d e)) ∧ Bw w w' := by
  cases e with
  | true =>
    go_enter Try.func97, Try.ntmps97
    go_wp2
    · go_ret
      exact ⟨ok_y (by assumption) (by assumption) (by assumption) (by assumption) (by assumption) (.inl rfl), bw_alloc _ _⟩
    all_goals
      go_ret
      exact ⟨ok_n (by omega), bw_alloc _ _⟩
  | false =>
    by_cases hab : a = b
    · subst hab
      go_enter Try.func97, Try.ntmps97
      go_wp2
      · go_ret
        exact ⟨ok_y (by assumption) (Int.le_refl _) (by assumption) (by assumption) (by assumption) (.inr rfl), bw_alloc _ _⟩
      all_goals
        go_ret
        exact ⟨ok_n (by omega), bw_alloc _ _⟩
    · have hne : (a == b) = false := by simp [hab]
      have HF : Hid (¬ (1 ≤ a ∧ a ≤ b ∧ b ≤ c ∧ c ≤ d ∧ d ≤ 20 ∧ (false = true ∨ a = b))) := fun h => by rcases h.2.2.2.2.2 with h | h <;> simp_all
      clear hab
      go_enter Try.func97, Try.ntmps97
      go_wp2
      all_goals
        go_ret
        exact ⟨ok_n HF.out, bw_alloc _ _⟩

set_option maxHeartbeats 800000 in
theorem impl.SetValid_walk (ao : Option Addr) (c : Nat) (w : World) (l : List Tk) (hl : l.length ≤ 1048576) (hr : RT w ao l) :
    Calls Try.prog 56 #[.slice ao l.length c] w fun r w' => r = .returned (.bool (setOk l)) ∧ Bw w w' := by
  have HR := Lib.hid hr
  clear hr
  by_cases h5 : l.length ≤ 5
  · have HS : Hid (setOk l = l.all Tk.ok) := by show _ = _; simp [setOk, h5]
    go_enter Try.func56, Try.ntmps56
    go_wp2
    go_loopw [10] (fun i wr => ∃ k : Nat, k ≤ l.length ∧ i = .int .i64 k ∧ Hid (l.all Tk.ok = (l.drop k).all Tk.ok) ∧ Bw w wr) (fun i _ => l.length - (intOf i).toNat)
    case atStart => exact ⟨0, Nat.zero_le _, rfl, rfl, Bw.refl _⟩
    case round =>
      obtain ⟨k, hk, rfl, hx, hbw⟩ := hrel
      by_cases hlt : k < l.length
      · obtain ⟨t, b, off, htk, hao, hbs, c0, c1, c2, c3, c4⟩ := HR.out.get hbw hlt
        have HT := Lib.hid htk
        clear htk
        subst hao
        have hst : (l.drop k).all Tk.ok = (isOk t.low t.high t.due t.every t.crit && (l.drop (k + 1)).all Tk.ok) := by rw [drop_cons HT.out]; rfl
        have HST := Lib.hid hst
        clear hst
        go_wp2_with fail
        refine (impl.TaskValid_walk _ _ _ _ _ _).mono ?_
        obtain ⟨q, HQ⟩ : ∃ q, Hid (isOk t.low t.high t.due t.every t.crit = q) := ⟨_, rfl⟩
        rw [HQ.out]
        rintro e w1 ⟨rfl, hb1⟩
        have hw1 := bw_trans hbw (bw_trans (bw_alloc _ _) hb1)
        cases q with
        | true =>
          go_wp2
          go_roundw
          case rel => exact ⟨k + 1, by omega, by go_num, by show _ = _; rw [hx.out, HST.out, HQ.out, Bool.true_and], hw1⟩
          case measure => simp [intOf]; omega
        | false =>
          go_wp2
          go_ret
          exact ⟨ret_b (by rw [HS.out, hx.out, HST.out, HQ.out, Bool.false_and]), hw1⟩
      · have HD : Hid (true = setOk l) := by show _ = _; rw [HS.out, hx.out, drop_end hlt]; rfl
        go_wp2
        go_ret
        exact ⟨ret_b HD.out, hbw⟩
  · have HS : Hid (false = setOk l) := by show _ = _; simp [setOk, h5]
    go_enter Try.func56, Try.ntmps56
    go_wp2
    go_ret
    exact ⟨ret_b HS.out, Bw.refl _⟩

set_option maxHeartbeats 800000 in
theorem spec.SetValid_walk (ao : Option Addr) (c : Nat) (w : World) (l : List Tk) (hl : l.length ≤ 1048576) (hr : RT w ao l) :
    Calls Try.prog 75 #[.slice ao l.length c] w fun r w' => r = .returned (.bool (setOk l)) ∧ Bw w w' := by
  have HR := Lib.hid hr
  clear hr
  go_enter Try.func75, Try.ntmps75
  go_wp2
  go_loopw [3] (fun i wr => ∃ k : Nat, k ≤ l.length ∧ k ≤ 6 ∧ i = .int .i64 k ∧ Hid (l.all Tk.ok = (l.drop k).all Tk.ok) ∧ Bw w wr) (fun i _ => l.length - (intOf i).toNat)
  case atStart => exact ⟨0, Nat.zero_le _, by omega, rfl, rfl, Bw.refl _⟩
  case round =>
    obtain ⟨k, hk, hk6, rfl, hx, hbw⟩ := hrel
    by_cases hlt : k < l.length
    · by_cases h6 : k ≤ 5
      · obtain ⟨t, b, off, htk, hao, hbs, c0, c1, c2, c3, c4⟩ := HR.out.get hbw hlt
        have HT := Lib.hid htk
        clear htk
        subst hao
        have hst : (l.drop k).all Tk.ok = (isOk t.low t.high t.due t.every t.crit && (l.drop (k + 1)).all Tk.ok) := by rw [drop_cons HT.out]; rfl
        have HST := Lib.hid hst
        clear hst
        go_wp2_with fail
        refine (spec.TaskValid_walk _ _ _ _ _ _).mono ?_
        obtain ⟨q, HQ⟩ : ∃ q, Hid (isOk t.low t.high t.due t.every t.crit = q) := ⟨_, rfl⟩
        rw [HQ.out]
        rintro e w1 ⟨rfl, hb1⟩
        have hw1 := bw_trans hbw hb1
        cases q with
        | true =>
          go_wp2
          go_roundw
          case rel => exact ⟨k + 1, by omega, by omega, by go_num, by show _ = _; rw [hx.out, HST.out, HQ.out, Bool.true_and], hw1⟩
          case measure => simp [intOf]; omega
        | false =>
          go_wp2
          go_ret
          exact ⟨ret_b (by rw [setOk, hx.out, HST.out, HQ.out, Bool.false_and, Bool.and_false]), hw1⟩
      · have HD : Hid (decide ((l.length : Int) ≤ 5) = setOk l) := by
          show _ = _
          rw [decide_eq_false (by omega)]; simp [setOk]; omega
        go_wp2
        go_ret
        exact ⟨ret_b HD.out, hbw⟩
    · have HD : Hid (decide ((l.length : Int) ≤ 5) = setOk l) := by
        show _ = _; rw [setOk, hx.out, drop_end hlt]; simp; omega
      clear hk6
      go_wp2
      all_goals
        go_ret
        exact ⟨ret_b HD.out, hbw⟩

end Go.Proofs.Ytchpfpekkgbehaa
