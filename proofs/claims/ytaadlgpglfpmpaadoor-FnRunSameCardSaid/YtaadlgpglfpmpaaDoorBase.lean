/-
  The plain data of the program (tasks, jobs, runs), how slices of them lie in memory, and how such facts are carried from world to world. No condition.
-/
import Derived.WalkKit
import Derived.WalkSpells
import Derived.WalkLawsBesides
import Derived.Lib.Hide
import Derived.Laws.CopyOwn
import Derived.Lib.QuietBelow





namespace Go.Proofs.YtaadlgpglfpmpaaDoor
open Go.RowKit

/-! ### Numbers and records -/

structure Tk where
  low : Int
  high : Int
  due : Int
  every : Int
  crit : Bool

structure Jb where
  task : Int
  at_ : Int
  need : Int

instance : DecidableEq Tk := fun a b =>
  decidable_of_iff (a.low = b.low ∧ a.high = b.high ∧ a.due = b.due ∧ a.every = b.every ∧ a.crit = b.crit) (by cases a; cases b; simp)
instance : DecidableEq Jb := fun a b =>
  decidable_of_iff (a.task = b.task ∧ a.at_ = b.at_ ∧ a.need = b.need) (by cases a; cases b; simp)

abbrev vi (n : Int) : Value := .int .i64 n
def ints (l : List Int) : List Value := l.map vi
def tkCells (t : Tk) : List Value := [vi t.low, vi t.high, vi t.due, vi t.every, .bool t.crit]
def jbCells (j : Jb) : List Value := [vi j.task, vi j.at_, vi j.need]
abbrev tkVal (t : Tk) : Value := .agg #[vi t.low, vi t.high, vi t.due, vi t.every, .bool t.crit]
abbrev jbVal (j : Jb) : Value := .agg #[vi j.task, vi j.at_, vi j.need]
def tks (l : List Tk) : List Value := l.flatMap tkCells
def jbs (l : List Jb) : List Value := l.flatMap jbCells

theorem ints_length (l : List Int) : (ints l).length = l.length := by simp [ints]
theorem tks_length (l : List Tk) : (tks l).length = l.length * 5 := by
  induction l with
  | nil => rfl
  | cons t l ih => simp [tks, tkCells] at ih ⊢; omega
theorem jbs_length (l : List Jb) : (jbs l).length = l.length * 3 := by
  induction l with
  | nil => rfl
  | cons t l ih => simp [jbs, jbCells] at ih ⊢; omega
theorem ints_get (l : List Int) (k : Nat) (x : Int) (h : l[k]? = some x) : (ints l)[k]? = some (vi x) := by simp [ints, h]
theorem ints_append (l m : List Int) : ints (l ++ m) = ints l ++ ints m := by simp [ints]
theorem tks_append (l m : List Tk) : tks (l ++ m) = tks l ++ tks m := by simp [tks]
theorem jbs_append (l m : List Jb) : jbs (l ++ m) = jbs l ++ jbs m := by simp [jbs]
theorem tks_get (l : List Tk) (k : Nat) (t : Tk) (h : l[k]? = some t) (i : Nat) (hi : i < 5) : (tks l)[k * 5 + i]? = (tkCells t)[i]? := by
  induction l generalizing k with
  | nil => simp at h
  | cons a l ih =>
    cases k with
    | zero => simp at h; subst h; simp only [tks, List.flatMap_cons, Nat.zero_mul, Nat.zero_add]; rw [List.getElem?_append_left (by simp [tkCells]; omega)]
    | succ k =>
      have h' : l[k]? = some t := by simpa using h
      simp only [tks, List.flatMap_cons]
      rw [List.getElem?_append_right (by simp [tkCells]; omega)]
      rw [show (k + 1) * 5 + i - (tkCells a).length = k * 5 + i from by simp [tkCells]; omega]
      exact ih k h'
theorem jbs_get (l : List Jb) (k : Nat) (t : Jb) (h : l[k]? = some t) (i : Nat) (hi : i < 3) : (jbs l)[k * 3 + i]? = (jbCells t)[i]? := by
  induction l generalizing k with
  | nil => simp at h
  | cons a l ih =>
    cases k with
    | zero => simp at h; subst h; simp only [jbs, List.flatMap_cons, Nat.zero_mul, Nat.zero_add]; rw [List.getElem?_append_left (by simp [jbCells]; omega)]
    | succ k =>
      have h' : l[k]? = some t := by simpa using h
      simp only [jbs, List.flatMap_cons]
      rw [List.getElem?_append_right (by simp [jbCells]; omega)]
      rw [show (k + 1) * 3 + i - (jbCells a).length = k * 3 + i from by simp [jbCells]; omega]
      exact ih k h'

theorem getSome {α : Type} {l : List α} {k : Nat} (h : k < l.length) : ∃ x, l[k]? = some x := ⟨l[k], by simp [h]⟩
theorem drop_cons {α : Type} {l : List α} {k : Nat} {x : α} (h : l[k]? = some x) : l.drop k = x :: l.drop (k + 1) := by
  obtain ⟨hk, e⟩ := List.getElem?_eq_some_iff.1 h
  rw [List.drop_eq_getElem_cons hk, e]
theorem drop_end {α : Type} {l : List α} {k : Nat} (h : ¬ k < l.length) : l.drop k = [] := by simp; omega
theorem take_snoc {α : Type} {l : List α} {k : Nat} {x : α} (h : l[k]? = some x) : l.take (k + 1) = l.take k ++ [x] := by
  obtain ⟨hk, e⟩ := List.getElem?_eq_some_iff.1 h
  rw [List.take_succ_eq_append_getElem hk, e]
theorem take_end {α : Type} {l : List α} {k : Nat} (h : ¬ k < l.length) : l.take k = l := List.take_of_length_le (by omega)

theorem ret_n {a b : Nat} (h : a = b) : Ending.returned (.int .i64 (a : Int)) = .returned (.int .i64 (b : Int)) := by rw [h]
theorem ret_i {a b : Int} (h : a = b) : Ending.returned (.int .i64 a) = .returned (.int .i64 b) := by rw [h]
theorem ret_b {a b : Bool} (h : a = b) : Ending.returned (.bool a) = .returned (.bool b) := by rw [h]

theorem oneI (n : Int) : ∀ u ∈ [Value.int .i64 n], u.oneCell' = true := by intro u hu; simp at hu; subst hu; rfl
theorem oneJ (j : Jb) : ∀ u ∈ jbCells j, u.oneCell' = true := by intro u hu; simp [jbCells] at hu; rcases hu with rfl | rfl | rfl <;> rfl
theorem oneT (t : Tk) : ∀ u ∈ tkCells t, u.oneCell' = true := by intro u hu; simp [tkCells] at hu; rcases hu with rfl | rfl | rfl | rfl | rfl <;> rfl

/-! ### Worlds: below -/

/-- Nothing that was there has turned. -/
abbrev Bw (w w' : World) : Prop := Below w.heap.size w w'
theorem Bw.refl (w : World) : Bw w w := Below.refl _ _
theorem bw_trans {a b c : World} (h : Bw a b) (k : Bw b c) : Bw a c := Below.trans h (Below.mono k h.size)
theorem bw_alloc (w : World) (o : Obj) : Bw w (w.alloc o) := (Below.refl _ _).alloc (Nat.le_refl _) _
theorem bw_drew (w : World) : Bw w w.drew := ⟨rfl, rfl, rfl, Nat.le_refl _, fun _ _ => rfl⟩
theorem bw_drewN (w : World) (n : Nat) : Bw w (w.drewN n) := ⟨rfl, rfl, rfl, Nat.le_refl _, fun _ _ => rfl⟩
theorem blw_drewN {B : Nat} {a w : World} (h : Below B a w) (n : Nat) : Below B a (w.drewN n) := ⟨h.os, h.tape, h.output, h.size, h.block⟩

theorem bw_of_ex {w w' : World} (h : ∃ p : Regrown, w' = Go.Sort.grow (redrawn w p.d) p.os) : Bw w w' := by
  obtain ⟨p, rfl⟩ := h
  exact below_regrown _ _ _
theorem cell_bw {w w' : World} (hb : Bw w w') {b o : Nat} {v : Value} (h : w.cell? ⟨b, o, none⟩ = some v) : w'.cell? ⟨b, o, none⟩ = some v := by
  have hlt : b < w.heap.size := World.block_lt_of_cell? w _ h
  rw [Below.cell hb (p := ⟨b, o, none⟩) hlt]; exact h
theorem blk_bw {w w' : World} (hb : Bw w w') {g : Nat} {x : Obj} (h : w.heap[g]? = some x) : w'.heap[g]? = some x := by
  rw [hb.block g (Array.getElem?_eq_some_iff.1 h).1]; exact h
theorem blk_lt {w : World} {g : Nat} {x : Obj} (h : w.heap[g]? = some x) : g < w.heap.size := (Array.getElem?_eq_some_iff.1 h).1

/-! ### Boxes: blocks that the call laid ahead of a step -/

theorem box_last {w w' : World} {o : Obj} (hb : Bw (w.alloc o) w') : w'.heap[w.heap.size]? = some o := blk_bw hb (heap_alloc_new w o)
theorem box_two {w w' : World} {o p : Obj} (hb : Bw ((w.alloc o).alloc p) w') : w'.heap[w.heap.size]? = some o ∧ w'.heap[w.heap.size + 1]? = some p := by
  refine ⟨blk_bw hb (blk_bw (bw_alloc _ _) (heap_alloc_new w o)), ?_⟩
  have := box_last hb
  simpa using this
theorem box_three {w w' : World} {o p q : Obj} (hb : Bw (((w.alloc o).alloc p).alloc q) w') : w'.heap[w.heap.size]? = some o ∧ w'.heap[w.heap.size + 1]? = some p ∧ w'.heap[w.heap.size + 2]? = some q := by
  obtain ⟨h1, h2⟩ := box_two (w' := ((w.alloc o).alloc p).alloc q) (bw_alloc _ _)
  refine ⟨blk_bw hb h1, blk_bw hb h2, ?_⟩
  have := box_last hb
  simpa using this
theorem blk_cell {w : World} {g : Nat} {c : Array Value} {E : TypeId} {fr : Nat × Nat} (h : w.heap[g]? = some (.cells c E fr)) (j : Nat) {v : Value} (hv : c[j]? = some v) : w.cell? ⟨g, j, none⟩ = some v := by simp [World.cell?, h, hv]
theorem blk_free {w : World} {g : Nat} {c : Array Value} {E : TypeId} (h : w.heap[g]? = some (.cells c E (0, 0))) (j : Nat) : w.frozen? ⟨g, j, none⟩ = false := by simp [World.frozen?, h]

theorem blk_set {w : World} {g : Nat} {c : Array Value} {E : TypeId} (h : w.heap[g]? = some (.cells c E (0, 0))) (j : Nat) (v : Value) : (w.setCell ⟨g, j, none⟩ v).heap[g]? = some (.cells (c.setIfInBounds j v) E (0, 0)) := heap_setCell_same _ _ _ _ _ _ h
theorem blk_oth {w : World} {g k : Nat} {x : Obj} (h : w.heap[k]? = some x) (hne : k ≠ g) (j : Nat) (v : Value) : (w.setCell ⟨g, j, none⟩ v).heap[k]? = some x := by
  rw [Below.heap_setCell _ _ _ _ hne]; exact h
theorem bw_set {w0 w : World} (hb : Bw w0 w) {g : Nat} (hg : w0.heap.size ≤ g) (j : Nat) (v : Value) : Bw w0 (w.setCell ⟨g, j, none⟩ v) := Below.setCell hb hg v

/-- Eight cells of two boxes, carried to a later world. -/
theorem keep8 {w5 W : World} {g h : Nat} {v0 v1 v2 v3 u0 u1 u2 u3 : Value} (hb : Bw w5 W)
    (hs : w5.cell? ⟨g, 0, none⟩ = some v0 ∧ w5.cell? ⟨g, 1, none⟩ = some v1 ∧ w5.cell? ⟨g, 2, none⟩ = some v2 ∧ w5.cell? ⟨g, 3, none⟩ = some v3 ∧
      w5.cell? ⟨h, 0, none⟩ = some u0 ∧ w5.cell? ⟨h, 1, none⟩ = some u1 ∧ w5.cell? ⟨h, 2, none⟩ = some u2 ∧ w5.cell? ⟨h, 3, none⟩ = some u3) :
    W.cell? ⟨g, 0, none⟩ = some v0 ∧ W.cell? ⟨g, 1, none⟩ = some v1 ∧ W.cell? ⟨g, 2, none⟩ = some v2 ∧ W.cell? ⟨g, 3, none⟩ = some v3 ∧
      W.cell? ⟨h, 0, none⟩ = some u0 ∧ W.cell? ⟨h, 1, none⟩ = some u1 ∧ W.cell? ⟨h, 2, none⟩ = some u2 ∧ W.cell? ⟨h, 3, none⟩ = some u3 := by
  obtain ⟨a, b, c, d, e, f, i, j⟩ := hs
  exact ⟨cell_bw hb a, cell_bw hb b, cell_bw hb c, cell_bw hb d, cell_bw hb e, cell_bw hb f, cell_bw hb i, cell_bw hb j⟩

/-! ### Reading: what the slice at an address reads as -/

def RI (w : World) (ao : Option Addr) (l : List Int) : Prop :=
  ∀ k x, l[k]? = some x → ∃ b off, ao = some ⟨b, off, none⟩ ∧ b < w.heap.size ∧ w.cell? ⟨b, off + k, none⟩ = some (vi x)
def RT (w : World) (ao : Option Addr) (l : List Tk) : Prop :=
  ∀ k t, l[k]? = some t → ∃ b off, ao = some ⟨b, off, none⟩ ∧ b < w.heap.size ∧ w.cell? ⟨b, off + k * 5, none⟩ = some (vi t.low) ∧ w.cell? ⟨b, off + k * 5 + 1, none⟩ = some (vi t.high) ∧
    w.cell? ⟨b, off + k * 5 + 2, none⟩ = some (vi t.due) ∧ w.cell? ⟨b, off + k * 5 + 3, none⟩ = some (vi t.every) ∧ w.cell? ⟨b, off + k * 5 + 4, none⟩ = some (.bool t.crit)
def RJ (w : World) (ao : Option Addr) (l : List Jb) : Prop :=
  ∀ k t, l[k]? = some t → ∃ b off, ao = some ⟨b, off, none⟩ ∧ b < w.heap.size ∧ w.cell? ⟨b, off + k * 3, none⟩ = some (vi t.task) ∧ w.cell? ⟨b, off + k * 3 + 1, none⟩ = some (vi t.at_) ∧
    w.cell? ⟨b, off + k * 3 + 2, none⟩ = some (vi t.need)

theorem RI.nil (w : World) (ao : Option Addr) : RI w ao [] := fun k x h => by simp at h
theorem RT.nil (w : World) (ao : Option Addr) : RT w ao [] := fun k x h => by simp at h
theorem RJ.nil (w : World) (ao : Option Addr) : RJ w ao [] := fun k x h => by simp at h
theorem RI.bw {w w' : World} {ao : Option Addr} {l : List Int} (h : RI w ao l) (hb : Bw w w') : RI w' ao l := fun k x hx => by
  obtain ⟨b, off, e, hlt, hc⟩ := h k x hx
  exact ⟨b, off, e, Nat.lt_of_lt_of_le hlt hb.size, cell_bw hb hc⟩
theorem RT.bw {w w' : World} {ao : Option Addr} {l : List Tk} (h : RT w ao l) (hb : Bw w w') : RT w' ao l := fun k x hx => by
  obtain ⟨b, off, e, hlt, c0, c1, c2, c3, c4⟩ := h k x hx
  exact ⟨b, off, e, Nat.lt_of_lt_of_le hlt hb.size, cell_bw hb c0, cell_bw hb c1, cell_bw hb c2, cell_bw hb c3, cell_bw hb c4⟩
theorem RJ.bw {w w' : World} {ao : Option Addr} {l : List Jb} (h : RJ w ao l) (hb : Bw w w') : RJ w' ao l := fun k x hx => by
  obtain ⟨b, off, e, hlt, c0, c1, c2⟩ := h k x hx
  exact ⟨b, off, e, Nat.lt_of_lt_of_le hlt hb.size, cell_bw hb c0, cell_bw hb c1, cell_bw hb c2⟩

/-- A round's element, its address open, in the round's own world. -/
theorem RI.get {w w' : World} {ao : Option Addr} {l : List Int} (h : RI w ao l) (hb : Bw w w') {k : Nat} (hk : k < l.length) :
    ∃ x b off, l[k]? = some x ∧ ao = some ⟨b, off, none⟩ ∧ b < w'.heap.size ∧ w'.cell? ⟨b, off + k, none⟩ = some (vi x) := by
  obtain ⟨x, hx⟩ := getSome hk
  obtain ⟨b, off, r⟩ := h.bw hb k x hx
  exact ⟨x, b, off, hx, r⟩
theorem RT.get {w w' : World} {ao : Option Addr} {l : List Tk} (h : RT w ao l) (hb : Bw w w') {k : Nat} (hk : k < l.length) :
    ∃ t b off, l[k]? = some t ∧ ao = some ⟨b, off, none⟩ ∧ b < w'.heap.size ∧ w'.cell? ⟨b, off + k * 5, none⟩ = some (vi t.low) ∧ w'.cell? ⟨b, off + k * 5 + 1, none⟩ = some (vi t.high) ∧
    w'.cell? ⟨b, off + k * 5 + 2, none⟩ = some (vi t.due) ∧ w'.cell? ⟨b, off + k * 5 + 3, none⟩ = some (vi t.every) ∧ w'.cell? ⟨b, off + k * 5 + 4, none⟩ = some (.bool t.crit) := by
  obtain ⟨x, hx⟩ := getSome hk
  obtain ⟨b, off, r⟩ := h.bw hb k x hx
  exact ⟨x, b, off, hx, r⟩
theorem RJ.get {w w' : World} {ao : Option Addr} {l : List Jb} (h : RJ w ao l) (hb : Bw w w') {k : Nat} (hk : k < l.length) :
    ∃ t b off, l[k]? = some t ∧ ao = some ⟨b, off, none⟩ ∧ b < w'.heap.size ∧ w'.cell? ⟨b, off + k * 3, none⟩ = some (vi t.task) ∧ w'.cell? ⟨b, off + k * 3 + 1, none⟩ = some (vi t.at_) ∧
    w'.cell? ⟨b, off + k * 3 + 2, none⟩ = some (vi t.need) := by
  obtain ⟨x, hx⟩ := getSome hk
  obtain ⟨b, off, r⟩ := h.bw hb k x hx
  exact ⟨x, b, off, hx, r⟩

/-! ### Rows that were made: a slice over the head of a block of the call's own -/

/-- The slice at this address lies at the head of an unfrozen block from 'base' on and its cells are xs; or it has none. -/
def Own (w : World) (base E : Nat) (ao : Option Addr) (xs : List Value) : Prop :=
  xs = [] ∨ ∃ g cur, ao = some ⟨g, 0, none⟩ ∧ base ≤ g ∧ w.heap[g]? = some (.cells cur E (0, 0)) ∧ cur.toList.take xs.length = xs

theorem Own.bw {w w' : World} {base E : Nat} {ao : Option Addr} {xs : List Value} (h : Own w base E ao xs) (hb : Bw w w') : Own w' base E ao xs := by
  rcases h with h | ⟨g, cur, e, hg, hh, ht⟩
  · exact .inl h
  · exact .inr ⟨g, cur, e, hg, blk_bw hb hh, ht⟩
theorem Own.mono {w : World} {base base' E : Nat} {ao : Option Addr} {xs : List Value} (h : Own w base E ao xs) (hb : base' ≤ base) : Own w base' E ao xs := by
  rcases h with h | ⟨g, cur, e, hg, r⟩
  · exact .inl h
  · exact .inr ⟨g, cur, e, Nat.le_trans hb hg, r⟩
theorem Own.nil {w : World} {base E : Nat} {ao : Option Addr} : Own w base E ao [] := .inl rfl
theorem Own.ofRow {w : World} {base E size : Nat} {ao : Option Addr} {n cap : Nat} {xs : List Value} (h : w.ownsRow base E size (.slice ao n cap) n xs) : Own w base E ao xs := by
  obtain ⟨hl, h⟩ := h
  rcases h with ⟨e, h0⟩ | ⟨g, cap', cur, e, hg, hh, _, _, _, ht⟩
  · subst h0; exact .inl (List.eq_nil_of_length_eq_zero (by simpa using hl))
  · simp at e; obtain ⟨rfl, rfl⟩ := e
    exact .inr ⟨g, cur, rfl, hg, hh, by rw [hl]; exact ht⟩
theorem Own.cell {w : World} {base E : Nat} {ao : Option Addr} {xs : List Value} (h : Own w base E ao xs) {j : Nat} {v : Value} (hj : xs[j]? = some v) :
    ∃ g, ao = some ⟨g, 0, none⟩ ∧ base ≤ g ∧ g < w.heap.size ∧ w.cell? ⟨g, j, none⟩ = some v := by
  rcases h with rfl | ⟨g, cur, e, hg, hh, ht⟩
  · simp at hj
  · refine ⟨g, e, hg, blk_lt hh, ?_⟩
    have : (cur.toList.take xs.length)[j]? = some v := by rw [ht]; exact hj
    rw [List.getElem?_take] at this
    split at this
    · simpa [World.cell?, hh] using this
    · simp at this
theorem Own.ri {w : World} {base E : Nat} {ao : Option Addr} {l : List Int} (h : Own w base E ao (ints l)) : RI w ao l := fun k x hx => by
  obtain ⟨g, e, _, hlt, hc⟩ := h.cell (ints_get l k x hx)
  exact ⟨g, 0, e, hlt, by simpa using hc⟩
theorem Own.rt {w : World} {base E : Nat} {ao : Option Addr} {l : List Tk} (h : Own w base E ao (tks l)) : RT w ao l := fun k t ht => by
  have c := fun i hi => tks_get l k t ht i hi
  obtain ⟨g, e, _, hlt, h0⟩ := h.cell (c 0 (by omega))
  have hx : ∀ i hi v, (tkCells t)[i]? = some v → w.cell? ⟨g, 0 + k * 5 + i, none⟩ = some v := fun i hi v hv => by
    obtain ⟨g', e', _, _, h'⟩ := h.cell ((c i hi).trans hv)
    rw [e] at e'; simp at e'; subst e'; simpa using h'
  exact ⟨g, 0, e, hlt, hx 0 (by omega) _ rfl, hx 1 (by omega) _ rfl, hx 2 (by omega) _ rfl, hx 3 (by omega) _ rfl, hx 4 (by omega) _ rfl⟩
theorem Own.rj {w : World} {base E : Nat} {ao : Option Addr} {l : List Jb} (h : Own w base E ao (jbs l)) : RJ w ao l := fun k t ht => by
  have c := fun i hi => jbs_get l k t ht i hi
  obtain ⟨g, e, _, hlt, h0⟩ := h.cell (c 0 (by omega))
  have hx : ∀ i hi v, (jbCells t)[i]? = some v → w.cell? ⟨g, 0 + k * 3 + i, none⟩ = some v := fun i hi v hv => by
    obtain ⟨g', e', _, _, h'⟩ := h.cell ((c i hi).trans hv)
    rw [e] at e'; simp at e'; subst e'; simpa using h'
  exact ⟨g, 0, e, hlt, hx 0 (by omega) _ rfl, hx 1 (by omega) _ rfl, hx 2 (by omega) _ rfl⟩

/-! ### Writing: only one block turns -/

/-- Of the blocks that were there only block g may have turned. -/
abbrev But (w w' : World) (g : Nat) : Prop := w.grownBy w' (some g)
theorem But.bw {w0 w w' : World} {g : Nat} (h : But w w' g) (hb : Bw w0 w) (hg : w0.heap.size ≤ g) : Bw w0 w' :=
  Below.grown hb h hb.size (fun k e => by simp at e; omega)

end Go.Proofs.YtaadlgpglfpmpaaDoor
