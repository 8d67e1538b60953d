/-
  The walk of the draw of two runs. Its copy is made by a region that draws its order (three appends in a chain, three new rows and a box beside them): by an invariant on what has come up.
-/
import Derived.Test.YtaadlgpglfpmpaaDoorDr9
import Derived.Test.YtaadlgpglfpmpaaDoorInv

namespace Go.Proofs.YtaadlgpglfpmpaaDoor
open Go.RowKit

theorem wpOp_run {P : Program} {ops : Array Oper} {Q : Exit → Act → World → Prop} {i : Nat} {o : Oper} {K : Act → World → Prop} {a : Act} {w : World} (hi : ops[i]? = some o) (hg : o.guard = none) (h : o.wp P a w K Q) : wpOp P ops Q i K a w := by
  have hw : Region.wanted o (yielded ops a.tmps) = true := by simp [Region.wanted, hg]
  unfold wpOp
  simp only [hi, hw, if_true]
  exact .inl h
theorem wp_val {P : Program} {Q : Exit → Act → World → Prop} {o : Oper} {K : Act → World → Prop} {a : Act} {w w' : World} {v : Value} (h : (execOp a.eval o).run P w = .ok (.value v) w') (hk : K (a.put o.dst v) w') : o.wp P a w K Q := by
  unfold Oper.wp
  rw [h]
  exact hk
theorem wp_skip {P : Program} {Q : Exit → Act → World → Prop} {o : Oper} {K : Act → World → Prop} {a : Act} {w w' : World} (h : (execOp a.eval o).run P w = .ok .skip w') (hk : K (a.put o.dst undef) w') : o.wp P a w K Q := by
  unfold Oper.wp
  rw [h]
  exact hk
theorem wp_app {P : Program} {Q : Exit → Act → World → Prop} {o : Oper} {K : Act → World → Prop} {a : Act} {w w' : World} {s x : Operand} {t : TypeId} {vs vx v' : Value} (ho : o.op = .call { callee := .builtin .append, args := #[s, x], argTypes := #[t, t] })
    (hs : a.eval s = vs) (hx : a.eval x = vx) (hr : (Builtin.append_ #[t, t] o.type #[vs, vx]).run P w = .ok v' w') (hk : K (a.put o.dst v') w') : o.wp P a w K Q := by
  unfold Oper.wp execOp
  simp only [ho, resolve, invoke, builtin, Sem.run_bind, Sem.run_pure, Result.andThen_ok, List.map_toArray, List.map_cons, List.map_nil, hs, hx, hr]
  exact hk
theorem ready_of {md : Region.Mode} {ops : Array Oper} {listed : Array Bool} {i : Nat} {o : Oper} (hi : ops[i]? = some o) (hl : listed.getD i true = false) (hd : ∀ e ∈ o.after, Region.binds md e = true → listed.getD e.on false = true) : i ∈ Region.ready md ops listed := by
  unfold Region.ready
  refine List.mem_filter.2 ⟨List.mem_range.2 (Array.getElem?_eq_some_iff.1 hi).1, ?_⟩
  rw [hl, hi]
  simp only [Option.map_some, Option.getD_some, Bool.not_false, Bool.true_and]
  rw [Array.all_eq_true']
  intro e he
  cases hb : Region.binds md e with
  | false => rfl
  | true => rw [hd e he hb]; rfl
theorem of_ready {md : Region.Mode} {ops : Array Oper} {listed : Array Bool} {i : Nat} (h : i ∈ Region.ready md ops listed) : i < ops.size ∧ listed.getD i true = false ∧ ∀ o, ops[i]? = some o → ∀ e ∈ o.after, Region.binds md e = true → listed.getD e.on false = true := by
  unfold Region.ready at h
  obtain ⟨h1, h2⟩ := List.mem_filter.1 h
  have hs := List.mem_range.1 h1
  rw [Bool.and_eq_true] at h2
  obtain ⟨h3, h4⟩ := h2
  refine ⟨hs, by simpa using h3, fun o hi e he hb => ?_⟩
  rw [hi] at h4
  simp only [Option.map_some, Option.getD_some] at h4
  rw [Array.all_eq_true'] at h4
  have := h4 e he
  rw [hb] at this
  simpa using this
theorem append_zero {P : Program} {w : World} (t ty e : TypeId) (i : TypeInfo) (ht : P.underlying t = some (.slice e)) (hi : P.info? e = some i) (g : Nat) (ao : Option Addr) (c : Nat) :
    (Builtin.append_ #[t, t] ty #[.slice (some ⟨g, 0, none⟩) 0 0, .slice ao 0 c]).run P w = .ok (.slice (some ⟨g, 0, none⟩) 0 0) w := by
  cases ao with
  | none => simp [Builtin.append_, run_underlying ht, sizeOf, typeInfo, hi, Builtin.lenOf, Builtin.firstCells, storeCells]
  | some a => simp [Builtin.append_, run_underlying ht, sizeOf, typeInfo, hi, Builtin.lenOf, Builtin.firstCells, loadCells, loadCellsFrom, storeCells]

/-! ### What has come up -/
abbrev intRow : Array Value → Obj := fun c => .cells c 3 (0, 0)
/-- A new row of no cell. -/
def ZRow (base : Nat) (v : Value) (w : World) : Prop := ∃ k, v = .slice (some ⟨k, 0, none⟩) 0 0 ∧ base ≤ k ∧ w.heap[k]? = some (intRow #[])
/-- A row of the draw's own. -/
def ORow (base : Nat) (L : List Int) (v : Value) (w : World) : Prop := w.ownsRow base 3 1 v L.length (ints L) ∧ ∃ k cp, v = .slice (some ⟨k, 0, none⟩) L.length cp ∧ k < w.heap.size
theorem ZRow.bw {base : Nat} {v : Value} {w w' : World} (h : ZRow base v w) (hb : Bw w w') : ZRow base v w' := by
  obtain ⟨k, e, h1, h2⟩ := h
  exact ⟨k, e, h1, blk_bw hb h2⟩
theorem ORow.bw {base : Nat} {L : List Int} {v : Value} {w w' : World} (h : ORow base L v w) (hb : Bw w w') : ORow base L v w' := by
  obtain ⟨h1, k, cp, h2, h3⟩ := h
  exact ⟨row_bw h1 hb, k, cp, h2, Nat.lt_of_lt_of_le h3 hb.size⟩
theorem ORow.lt {base : Nat} {L : List Int} {v : Value} {w : World} (h : ORow base L v w) : ∃ k, v.ownBlock = some k ∧ k < w.heap.size := by
  obtain ⟨_, k, cp, rfl, h3⟩ := h
  exact ⟨k, rfl, h3⟩
theorem ZRow.lt {base : Nat} {v : Value} {w : World} (h : ZRow base v w) : ∃ k, v.ownBlock = some k ∧ k < w.heap.size := by
  obtain ⟨k, rfl, _, h2⟩ := h
  exact ⟨k, rfl, blk_lt h2⟩
structure Src where
  base : Nat
  g : Nat
  R : Rn
  a1 : Option Addr
  c1 : Nat
  a2 : Option Addr
  c2 : Nat
  a3 : Option Addr
  c3 : Nat
def Three (s : Src) (x y z : Value) (w : World) : Prop := ORow s.base s.R.ended x w ∧ ORow s.base s.R.trace y w ∧ ORow s.base s.R.switches z w ∧ x.ownBlock ≠ y.ownBlock ∧ x.ownBlock ≠ z.ownBlock ∧ y.ownBlock ≠ z.ownBlock
theorem Three.bw {s : Src} {x y z : Value} {w w' : World} (h : Three s x y z w) (hb : Bw w w') : Three s x y z w' := ⟨h.1.bw hb, h.2.1.bw hb, h.2.2.1.bw hb, h.2.2.2⟩
def fact (s : Src) : Nat → Value → World → Prop
  | 0, v, w => ZRow s.base v w
  | 1, v, _ => v = .pointer (some ⟨s.g, 0, none⟩)
  | 2, v, _ => v = .slice s.a1 s.R.ended.length s.c1
  | 3, v, w => ORow s.base s.R.ended v w
  | 4, v, w => ZRow s.base v w
  | 5, v, _ => v = .pointer (some ⟨s.g, 1, none⟩)
  | 6, v, _ => v = .slice s.a2 s.R.trace.length s.c2
  | 7, v, w => ORow s.base s.R.trace v w
  | 8, v, w => ZRow s.base v w
  | 9, v, _ => v = .pointer (some ⟨s.g, 2, none⟩)
  | 10, v, _ => v = .slice s.a3 s.R.switches.length s.c3
  | 11, v, w => ORow s.base s.R.switches v w
  | 12, v, _ => v = .pointer (some ⟨s.g, 3, none⟩)
  | 13, v, _ => v = .bool s.R.high
  | 14, v, w => ∃ x y z, v = .agg #[x, y, z, .bool s.R.high] ∧ Three s x y z w
  | 15, v, w => ∃ B, v = .pointer (some ⟨B, 0, none⟩) ∧ s.base ≤ B ∧ w.heap[B]? = some zRun
  | _, _, _ => True
theorem fact_bw {s : Src} {w w' : World} (hb : Bw w w') : ∀ (i : Nat) (v : Value), fact s i v w → fact s i v w'
  | 0, _, h => ZRow.bw h hb
  | 1, _, h => h
  | 2, _, h => h
  | 3, _, h => ORow.bw h hb
  | 4, _, h => ZRow.bw h hb
  | 5, _, h => h
  | 6, _, h => h
  | 7, _, h => ORow.bw h hb
  | 8, _, h => ZRow.bw h hb
  | 9, _, h => h
  | 10, _, h => h
  | 11, _, h => ORow.bw h hb
  | 12, _, h => h
  | 13, _, h => h
  | 14, _, ⟨x, y, z, e, h⟩ => ⟨x, y, z, e, h.bw hb⟩
  | 15, _, ⟨B, e, h1, h2⟩ => ⟨B, e, h1, blk_bw hb h2⟩
  | _ + 16, _, _ => trivial
/-- Whose row an operation makes. -/
def col : Nat → Nat
  | 0 => 1
  | 3 => 1
  | 4 => 2
  | 7 => 2
  | 8 => 3
  | 11 => 3
  | _ => 0
def slot (i : Nat) : Nat := if i = 15 then 7 else i + 14
theorem slot_inj {i j : Nat} (hi : i < 16) (hj : j < 16) (h : slot i = slot j) : i = j := by
  unfold slot at h
  split at h <;> split at h <;> omega
def upd (V : Nat → Value) (d : Nat) (v : Value) : Nat → Value := fun n => if n = d then v else V n
theorem upd_same (V : Nat → Value) (d : Nat) (v : Value) : upd V d v d = v := if_pos rfl
theorem upd_other (V : Nat → Value) {d n : Nat} (v : Value) (h : n ≠ d) : upd V d v n = V n := if_neg h
structure Upto (s : Src) (W1 : World) (listed : Array Bool) (V : Nat → Value) (w : World) : Prop where
  size : listed.size = 17
  last : listed.getD 16 true = false
  bw : Bw W1 w
  facts : ∀ i, i < 16 → listed.getD i false = true → fact s i (V (slot i)) w
  apart : ∀ i j, i < 16 → j < 16 → listed.getD i false = true → listed.getD j false = true → col i ≠ 0 → col j ≠ 0 → col i ≠ col j → (V (slot i)).ownBlock ≠ (V (slot j)).ownBlock
theorem col_lt {s : Src} {w : World} {i : Nat} {v : Value} (h : fact s i v w) (hc : col i ≠ 0) (hi : i < 16) : ∃ k, v.ownBlock = some k ∧ k < w.heap.size := by
  rcases (show i = 0 ∨ i = 3 ∨ i = 4 ∨ i = 7 ∨ i = 8 ∨ i = 11 by
    rcases (show i = 0 ∨ i = 1 ∨ i = 2 ∨ i = 3 ∨ i = 4 ∨ i = 5 ∨ i = 6 ∨ i = 7 ∨ i = 8 ∨ i = 9 ∨ i = 10 ∨ i = 11 ∨ i = 12 ∨ i = 13 ∨ i = 14 ∨ i = 15 by omega) with rfl | rfl | rfl | rfl | rfl | rfl | rfl | rfl | rfl | rfl | rfl | rfl | rfl | rfl | rfl | rfl <;> first | omega | exact absurd rfl hc) with rfl | rfl | rfl | rfl | rfl | rfl
  · exact ZRow.lt h
  · exact ORow.lt h
  · exact ZRow.lt h
  · exact ORow.lt h
  · exact ZRow.lt h
  · exact ORow.lt h
theorem getD_set {l : Array Bool} {i j : Nat} (hj : (l.setIfInBounds i true).getD j false = true) : j = i ∨ l.getD j false = true := by
  by_cases e : j = i
  · exact .inl e
  · right
    simp only [Array.getD_eq_getD_getElem?, Array.getElem?_setIfInBounds_ne (Ne.symm e)] at hj ⊢
    exact hj
theorem Upto.step {s : Src} {W1 : World} {listed : Array Bool} {V : Nat → Value} {w w' : World} {i : Nat} {v : Value} (h : Upto s W1 listed V w) (hi : i < 16) (hl : listed.getD i true = false) (hb : Bw w w') (hf : fact s i v w')
    (hd : col i ≠ 0 → ∀ j, j < 16 → listed.getD j false = true → col j ≠ 0 → col i ≠ col j → v.ownBlock ≠ (V (slot j)).ownBlock) : Upto s W1 (listed.setIfInBounds i true) (upd V (slot i) v) w' := by
  have hu : ∀ j, j < 16 → j ≠ i → upd V (slot i) v (slot j) = V (slot j) := fun j hj hne => upd_other _ _ (fun e => hne (slot_inj hj hi e))
  have hno : listed.getD i false = true → False := fun h1 => by
    have hs := h.size
    simp only [Array.getD_eq_getD_getElem?] at hl h1
    rw [Array.getElem?_eq_getElem (by omega)] at hl h1
    simp only [Option.getD_some] at hl h1
    rw [hl] at h1; cases h1
  refine ⟨by simp [h.size], ?_, bw_trans h.bw hb, fun j hj hlj => ?_, fun j k hj hk hlj hlk cj ck hne => ?_⟩
  · have := h.last
    simp only [Array.getD_eq_getD_getElem?, Array.getElem?_setIfInBounds_ne (show i ≠ 16 by omega)] at this ⊢
    exact this
  · by_cases e : j = i
    · subst e; rw [upd_same]; exact hf
    · rw [hu j hj e]
      exact fact_bw hb _ _ (h.facts j hj ((getD_set hlj).resolve_left e))
  · by_cases e : j = i
    · by_cases e' : k = i
      · exact absurd (by rw [e, e']) hne
      · rw [e, upd_same, hu k hk e']
        exact hd (by rw [← e]; exact cj) k hk ((getD_set hlk).resolve_left e') ck (by rw [← e]; exact hne)
    · by_cases e' : k = i
      · rw [e', upd_same, hu j hj e]
        exact Ne.symm (hd (by rw [← e']; exact ck) j hj ((getD_set hlj).resolve_left e) cj (by rw [← e']; exact Ne.symm hne))
      · rw [hu j hj e, hu k hk e']
        exact h.apart j k hj hk ((getD_set hlj).resolve_left e) ((getD_set hlk).resolve_left e') cj ck hne
/-- A fresh block is nobody's. -/
theorem Upto.fresh {s : Src} {W1 : World} {listed : Array Bool} {V : Nat → Value} {w : World} (h : Upto s W1 listed V w) {v : Value} (hv : v.ownBlock = some w.heap.size) : ∀ j, j < 16 → listed.getD j false = true → col j ≠ 0 → v.ownBlock ≠ (V (slot j)).ownBlock := fun j hj hl hc e => by
  obtain ⟨k, h1, h2⟩ := col_lt (h.facts j hj hl) hc hj
  rw [hv, h1] at e
  have := Option.some.inj e
  omega
/-! ### The walk -/
abbrev drA (x0 x2 x3 x4 x5 x6 x8 x9 x10 x11 x12 x13 : Value) (V : Nat → Value) : Act := ⟨#[x0, undef, x2, x3, x4, x5, x6, V 7, x8, x9, x10, x11, x12, x13, V 14, V 15, V 16, V 17, V 18, V 19, V 20, V 21, V 22, V 23, V 24, V 25, V 26, V 27, V 28, undef, undef, undef, undef, undef, undef, undef, undef, undef, undef, undef, undef, undef, undef, undef, undef, undef, undef, undef, undef, undef, undef, undef, undef, undef], []⟩
theorem new_row {w : World} {base : Nat} {L : List Int} (hb : base ≤ w.heap.size) (hL : L.length ≤ 1000) : ORow base L (.slice (some ⟨w.heap.size, 0, none⟩) L.length (grownCap w L.length 0 3)) (w.drew.alloc (.cells (([] : List Value).toArray ++ (ints L).toArray ++ Builtin.zeroCells (Value.int .i64 0).cells (grownCap w L.length 0 3 - L.length)) 3)) := by
  have hge := grownCap_ge w L.length 0 3
  have hcm := grownCap_le_maxLen w L.length 0 3 (by unfold maxLen; omega)
  refine ⟨⟨by rw [ints_length]; simp, .inr ⟨w.heap.size, _, _, rfl, hb, heap_alloc_new w.drew _, hge, hcm, ?_, ?_⟩⟩, w.heap.size, _, rfl, by simp⟩
  · have : (Value.int IntKind.i64 0).cells.size = 1 := rfl
    simp only [Array.size_append, List.size_toArray, size_zeroCells, ints_length, List.length_nil, this]
    omega
  · simp [ints_length]
theorem all_set {l : Array Bool} (hs : l.size = 17) (h0 : l.getD 0 false = true) (h1 : l.getD 1 false = true) (h2 : l.getD 2 false = true) (h3 : l.getD 3 false = true) (h4 : l.getD 4 false = true) (h5 : l.getD 5 false = true) (h6 : l.getD 6 false = true) (h7 : l.getD 7 false = true) (h8 : l.getD 8 false = true) (h9 : l.getD 9 false = true) (h10 : l.getD 10 false = true) (h11 : l.getD 11 false = true) (h12 : l.getD 12 false = true) (h13 : l.getD 13 false = true) (h14 : l.getD 14 false = true) (h15 : l.getD 15 false = true) : l.setIfInBounds 16 true = Array.replicate 17 true := by
  obtain ⟨l⟩ := l
  match l, hs with
  | [a0, a1, a2, a3, a4, a5, a6, a7, a8, a9, a10, a11, a12, a13, a14, a15, a16], _ =>
    simp at h0 h1 h2 h3 h4 h5 h6 h7 h8 h9 h10 h11 h12 h13 h14 h15
    subst h0 h1 h2 h3 h4 h5 h6 h7 h8 h9 h10 h11 h12 h13 h14 h15
    rfl
theorem row_held {w w' : World} {base E size n : Nat} {v : Value} {xs : List Value} (h : w.ownsRow base E size v n xs) (hk : ∀ g, v.ownBlock = some g → w'.heap[g]? = w.heap[g]?) : w'.ownsRow base E size v n xs := by
  refine ⟨h.1, ?_⟩
  rcases h.2 with h | ⟨g, cap, cur, rfl, a, b, c⟩
  · exact .inl h
  · exact .inr ⟨g, cap, cur, rfl, a, by rw [hk g rfl]; exact b, c⟩
theorem orow_set {w : World} {base B j : Nat} {L : List Int} {v u : Value} (h : ORow base L v w) (hne : some B ≠ v.ownBlock) : ORow base L v (w.setCell ⟨B, j, none⟩ u) := by
  obtain ⟨h1, k, cp, h2, h3⟩ := h
  refine ⟨row_held h1 fun g hg => ?_, k, cp, h2, by simpa using h3⟩
  exact Below.heap_setCell _ _ _ _ (fun e => hne (by rw [hg, e]))
theorem orow_set4 {w : World} {base B : Nat} {L : List Int} {v : Value} (h : ORow base L v w) (hne : some B ≠ v.ownBlock) (a b c d : Value) : ORow base L v ((((w.setCell ⟨B, 0, none⟩ a).setCell ⟨B, 1, none⟩ b).setCell ⟨B, 2, none⟩ c).setCell ⟨B, 3, none⟩ d) := orow_set (orow_set (orow_set (orow_set h hne) hne) hne) hne
theorem orow_ne {w : World} {base B : Nat} {L : List Int} {v : Value} {o : Array Value} (h : ORow base L v w) (hB : w.heap[B]? = some (.cells o 25 (0, 0))) : some B ≠ v.ownBlock := fun e => row_ne h.1 hB (by decide) e.symm
theorem three_set {s : Src} {w : World} {B : Nat} {x y z : Value} {o : Array Value} (h : Three s x y z w) (hB : w.heap[B]? = some (.cells o 25 (0, 0))) (a b c d : Value) : Three s x y z ((((w.setCell ⟨B, 0, none⟩ a).setCell ⟨B, 1, none⟩ b).setCell ⟨B, 2, none⟩ c).setCell ⟨B, 3, none⟩ d) :=
  ⟨orow_set4 h.1 (orow_ne h.1 hB) a b c d, orow_set4 h.2.1 (orow_ne h.2.1 hB) a b c d, orow_set4 h.2.2.1 (orow_ne h.2.2.1 hB) a b c d, h.2.2.2⟩
theorem up_of {md : Region.Mode} {ops : Array Oper} {listed : Array Bool} {i : Nat} {o : Oper} (hr : Region.ready md ops listed = []) (hs : listed.size = 17) (hi : i < 17) (ho : ops[i]? = some o) (hd : ∀ e ∈ o.after, Region.binds md e = true → listed.getD e.on false = true) : listed.getD i false = true := by
  cases hq : listed.getD i true with
  | false =>
    have := ready_of (md := md) ho hq hd
    rw [hr] at this; cases this
  | true =>
    simp only [Array.getD_eq_getD_getElem?] at hq ⊢
    rw [Array.getElem?_eq_getElem (by omega)] at hq ⊢
    exact hq
theorem repl_true (i : Nat) : (Array.replicate 17 true).getD i true = true := by
  by_cases h : i < 17
  · simp [Array.getD, h]
  · simp [Array.getD, h]
theorem repl_false {i : Nat} (hi : i < 16) (h : (Array.replicate 17 false).getD i false = true) : False := by
  simp [Array.getD, show i < 17 by omega] at h
/-- The region is through. -/
def FinS (s : Src) (W1 : World) (V : Nat → Value) (w : World) : Prop := ∃ B x y z, V 7 = .pointer (some ⟨B, 0, none⟩) ∧ s.base ≤ B ∧ w.heap[B]? = some (.cells #[x, y, z, .bool s.R.high] 25 (0, 0)) ∧ Three s x y z w ∧ Bw W1 w
theorem oth4 {W : World} {g k : Nat} {x : Obj} (h : W.heap[k]? = some x) (hne : k ≠ g) (a b c d : Value) : ((((W.setCell ⟨g, 0, none⟩ a).setCell ⟨g, 1, none⟩ b).setCell ⟨g, 2, none⟩ c).setCell ⟨g, 3, none⟩ d).heap[k]? = some x := blk_oth (blk_oth (blk_oth (blk_oth h hne _ _) hne _ _) hne _ _) hne _ _
theorem cells8 {W : World} {g h : Nat} {v0 v1 v2 v3 u0 u1 u2 u3 : Value} (hg : W.heap[g]? = some (.cells #[v0, v1, v2, v3] 25 (0, 0))) (hh : W.heap[h]? = some (.cells #[u0, u1, u2, u3] 25 (0, 0))) :
    W.cell? ⟨g, 0, none⟩ = some v0 ∧ W.cell? ⟨g, 1, none⟩ = some v1 ∧ W.cell? ⟨g, 2, none⟩ = some v2 ∧ W.cell? ⟨g, 3, none⟩ = some v3 ∧ W.cell? ⟨h, 0, none⟩ = some u0 ∧ W.cell? ⟨h, 1, none⟩ = some u1 ∧ W.cell? ⟨h, 2, none⟩ = some u2 ∧ W.cell? ⟨h, 3, none⟩ = some u3 :=
  ⟨blk_cell hg 0 rfl, blk_cell hg 1 rfl, blk_cell hg 2 rfl, blk_cell hg 3 rfl, blk_cell hh 0 rfl, blk_cell hh 1 rfl, blk_cell hh 2 rfl, blk_cell hh 3 rfl⟩
theorem keepR0 {W : World} {g h : Nat} {v0 v1 v2 v3 u0 u1 u2 u3 : Value} (hg : W.heap[g]? = some (.cells #[v0, v1, v2, v3] 25 (0, 0))) (hh : W.heap[h]? = some (.cells #[u0, u1, u2, u3] 25 (0, 0))) : W.drew.cell? ⟨g, 0, none⟩ = some v0 ∧ W.drew.cell? ⟨g, 1, none⟩ = some v1 ∧ W.drew.cell? ⟨g, 2, none⟩ = some v2 ∧ W.drew.cell? ⟨g, 3, none⟩ = some v3 ∧ W.drew.cell? ⟨h, 0, none⟩ = some u0 ∧ W.drew.cell? ⟨h, 1, none⟩ = some u1 ∧ W.drew.cell? ⟨h, 2, none⟩ = some u2 ∧ W.drew.cell? ⟨h, 3, none⟩ = some u3 := cells8 (blk_bw (bw_drew _) hg) (blk_bw (bw_drew _) hh)
theorem keepR1 {W : World} {g h r : Nat} {v0 v1 v2 v3 u0 u1 u2 u3 a0 a1 a2 a3 : Value} (hg : W.heap[g]? = some (.cells #[v0, v1, v2, v3] 25 (0, 0))) (hh : W.heap[h]? = some (.cells #[u0, u1, u2, u3] 25 (0, 0))) (n1 : g ≠ r) (n2 : h ≠ r) : ((((W.setCell ⟨r, 0, none⟩ a0).setCell ⟨r, 1, none⟩ a1).setCell ⟨r, 2, none⟩ a2).setCell ⟨r, 3, none⟩ a3).drew.cell? ⟨g, 0, none⟩ = some v0 ∧ ((((W.setCell ⟨r, 0, none⟩ a0).setCell ⟨r, 1, none⟩ a1).setCell ⟨r, 2, none⟩ a2).setCell ⟨r, 3, none⟩ a3).drew.cell? ⟨g, 1, none⟩ = some v1 ∧ ((((W.setCell ⟨r, 0, none⟩ a0).setCell ⟨r, 1, none⟩ a1).setCell ⟨r, 2, none⟩ a2).setCell ⟨r, 3, none⟩ a3).drew.cell? ⟨g, 2, none⟩ = some v2 ∧ ((((W.setCell ⟨r, 0, none⟩ a0).setCell ⟨r, 1, none⟩ a1).setCell ⟨r, 2, none⟩ a2).setCell ⟨r, 3, none⟩ a3).drew.cell? ⟨g, 3, none⟩ = some v3 ∧ ((((W.setCell ⟨r, 0, none⟩ a0).setCell ⟨r, 1, none⟩ a1).setCell ⟨r, 2, none⟩ a2).setCell ⟨r, 3, none⟩ a3).drew.cell? ⟨h, 0, none⟩ = some u0 ∧ ((((W.setCell ⟨r, 0, none⟩ a0).setCell ⟨r, 1, none⟩ a1).setCell ⟨r, 2, none⟩ a2).setCell ⟨r, 3, none⟩ a3).drew.cell? ⟨h, 1, none⟩ = some u1 ∧ ((((W.setCell ⟨r, 0, none⟩ a0).setCell ⟨r, 1, none⟩ a1).setCell ⟨r, 2, none⟩ a2).setCell ⟨r, 3, none⟩ a3).drew.cell? ⟨h, 2, none⟩ = some u2 ∧ ((((W.setCell ⟨r, 0, none⟩ a0).setCell ⟨r, 1, none⟩ a1).setCell ⟨r, 2, none⟩ a2).setCell ⟨r, 3, none⟩ a3).drew.cell? ⟨h, 3, none⟩ = some u3 := cells8 (blk_bw (bw_drew _) (oth4 hg n1 _ _ _ _)) (blk_bw (bw_drew _) (oth4 hh n2 _ _ _ _))
theorem keepR2 {W : World} {g h r q : Nat} {v0 v1 v2 v3 u0 u1 u2 u3 a0 a1 a2 a3 b0 b1 b2 b3 : Value} (hg : W.heap[g]? = some (.cells #[v0, v1, v2, v3] 25 (0, 0))) (hh : W.heap[h]? = some (.cells #[u0, u1, u2, u3] 25 (0, 0))) (n1 : g ≠ r) (n2 : h ≠ r) (n3 : g ≠ q) (n4 : h ≠ q) : ((((((((W.setCell ⟨r, 0, none⟩ a0).setCell ⟨r, 1, none⟩ a1).setCell ⟨r, 2, none⟩ a2).setCell ⟨r, 3, none⟩ a3).setCell ⟨q, 0, none⟩ b0).setCell ⟨q, 1, none⟩ b1).setCell ⟨q, 2, none⟩ b2).setCell ⟨q, 3, none⟩ b3).drew.cell? ⟨g, 0, none⟩ = some v0 ∧ ((((((((W.setCell ⟨r, 0, none⟩ a0).setCell ⟨r, 1, none⟩ a1).setCell ⟨r, 2, none⟩ a2).setCell ⟨r, 3, none⟩ a3).setCell ⟨q, 0, none⟩ b0).setCell ⟨q, 1, none⟩ b1).setCell ⟨q, 2, none⟩ b2).setCell ⟨q, 3, none⟩ b3).drew.cell? ⟨g, 1, none⟩ = some v1 ∧ ((((((((W.setCell ⟨r, 0, none⟩ a0).setCell ⟨r, 1, none⟩ a1).setCell ⟨r, 2, none⟩ a2).setCell ⟨r, 3, none⟩ a3).setCell ⟨q, 0, none⟩ b0).setCell ⟨q, 1, none⟩ b1).setCell ⟨q, 2, none⟩ b2).setCell ⟨q, 3, none⟩ b3).drew.cell? ⟨g, 2, none⟩ = some v2 ∧ ((((((((W.setCell ⟨r, 0, none⟩ a0).setCell ⟨r, 1, none⟩ a1).setCell ⟨r, 2, none⟩ a2).setCell ⟨r, 3, none⟩ a3).setCell ⟨q, 0, none⟩ b0).setCell ⟨q, 1, none⟩ b1).setCell ⟨q, 2, none⟩ b2).setCell ⟨q, 3, none⟩ b3).drew.cell? ⟨g, 3, none⟩ = some v3 ∧ ((((((((W.setCell ⟨r, 0, none⟩ a0).setCell ⟨r, 1, none⟩ a1).setCell ⟨r, 2, none⟩ a2).setCell ⟨r, 3, none⟩ a3).setCell ⟨q, 0, none⟩ b0).setCell ⟨q, 1, none⟩ b1).setCell ⟨q, 2, none⟩ b2).setCell ⟨q, 3, none⟩ b3).drew.cell? ⟨h, 0, none⟩ = some u0 ∧ ((((((((W.setCell ⟨r, 0, none⟩ a0).setCell ⟨r, 1, none⟩ a1).setCell ⟨r, 2, none⟩ a2).setCell ⟨r, 3, none⟩ a3).setCell ⟨q, 0, none⟩ b0).setCell ⟨q, 1, none⟩ b1).setCell ⟨q, 2, none⟩ b2).setCell ⟨q, 3, none⟩ b3).drew.cell? ⟨h, 1, none⟩ = some u1 ∧ ((((((((W.setCell ⟨r, 0, none⟩ a0).setCell ⟨r, 1, none⟩ a1).setCell ⟨r, 2, none⟩ a2).setCell ⟨r, 3, none⟩ a3).setCell ⟨q, 0, none⟩ b0).setCell ⟨q, 1, none⟩ b1).setCell ⟨q, 2, none⟩ b2).setCell ⟨q, 3, none⟩ b3).drew.cell? ⟨h, 2, none⟩ = some u2 ∧ ((((((((W.setCell ⟨r, 0, none⟩ a0).setCell ⟨r, 1, none⟩ a1).setCell ⟨r, 2, none⟩ a2).setCell ⟨r, 3, none⟩ a3).setCell ⟨q, 0, none⟩ b0).setCell ⟨q, 1, none⟩ b1).setCell ⟨q, 2, none⟩ b2).setCell ⟨q, 3, none⟩ b3).drew.cell? ⟨h, 3, none⟩ = some u3 := cells8 (blk_bw (bw_drew _) (oth4 (oth4 hg n1 _ _ _ _) n3 _ _ _ _)) (blk_bw (bw_drew _) (oth4 (oth4 hh n2 _ _ _ _) n4 _ _ _ _))
/-- Lengths and ranges of a run. -/
def RunB3 (r : Rn) : Prop := r.ended.length ≤ 1048576 ∧ r.trace.length ≤ 1048576 ∧ r.switches.length ≤ 1048576 ∧ (∀ x ∈ r.ended, I64 x) ∧ (∀ x ∈ r.trace, I64 x) ∧ (∀ x ∈ r.switches, I64 x)
/-- Two runs that were made for the call. -/
def RunD2 (w : World) (e : Ending) (w' : World) : Prop := ∃ (R T : Rn) (a1 : Option Addr) (c1 : Nat) (a2 : Option Addr) (c2 : Nat) (a3 : Option Addr) (c3 : Nat) (d1 : Option Addr) (k1 : Nat) (d2 : Option Addr) (k2 : Nat) (d3 : Option Addr) (k3 : Nat),
  e = .returned (.tuple #[rnVal a1 R.ended.length c1 a2 R.trace.length c2 a3 R.switches.length c3 R.high, rnVal d1 T.ended.length k1 d2 T.trace.length k2 d3 T.switches.length k3 T.high]) ∧ Own w' w.heap.size 3 a1 (ints R.ended) ∧ Own w' w.heap.size 3 a2 (ints R.trace) ∧ Own w' w.heap.size 3 a3 (ints R.switches) ∧
  Own w' w.heap.size 3 d1 (ints T.ended) ∧ Own w' w.heap.size 3 d2 (ints T.trace) ∧ Own w' w.heap.size 3 d3 (ints T.switches) ∧ RunB3 R ∧ RunB3 T ∧ Bw w w'
theorem RunB2.b3 {r : Rn} (h : RunB2 r) : RunB3 r := ⟨by have := h.n1; omega, by have := h.n2; omega, by have := h.n3; omega, fun x hx => by have := h.e x hx; unfold I64; omega, fun x hx => by have := h.t x hx; unfold I64; omega, fun x hx => by have := h.s x hx; unfold I64; omega⟩
theorem b3_s {r : Rn} (h : RunB2 r) : RunB3 ⟨r.ended, r.trace, r.switches ++ [7], r.high⟩ := by
  obtain ⟨h1, h2, h3, h4, h5, h6⟩ := h.b3
  have := h.n3
  refine ⟨h1, h2, by simp; omega, h4, h5, fun x hx => ?_⟩
  rcases List.mem_append.1 hx with hx | hx
  · exact h6 x hx
  · simp at hx; subst hx; unfold I64; omega
theorem b3_e {r : Rn} (h : RunB2 r) : RunB3 ⟨r.ended ++ [3], r.trace, r.switches, r.high⟩ := by
  obtain ⟨h1, h2, h3, h4, h5, h6⟩ := h.b3
  have := h.n1
  refine ⟨by simp; omega, h2, h3, fun x hx => ?_, h5, h6⟩
  rcases List.mem_append.1 hx with hx | hx
  · exact h4 x hx
  · simp at hx; subst hx; unfold I64; omega
theorem ints_one (l : List Int) (y : Int) : ints (l ++ [y]) = ints l ++ [vi y] := by simp [ints]
theorem stopw (p : Prop) (h : Hid p) : p := h.out
set_option maxRecDepth 100000 in
set_option maxHeartbeats 6400000 in
theorem DrawRunSame_any {w0 w : World} {v : Value} (hv : RawB w0 v) (hb : Bw w0 w) : Calls Tryd.prog 20 #[v] w (RunD2 w) := by
  obtain ⟨i0, hi0, hz0, hz1, hz2⟩ := info_parts infoInt
  have HV := Lib.hid hv
  clear hv
  go_enter Tryd.func20, Tryd.ntmps20
  go_wp2_with fail
  refine (l7Run_any HV.out (bw_trans hb (bw_trans (bw_alloc _ _) (bw_alloc _ _)))).mono ?_
  rintro e w1 ⟨ao, c, l, bo, d, js, R, a1, c1, a2, c2, a3, c3, rfl, ⟨hT, hl6, hsm, hJ, hj61, hsj, hb1⟩, o1, o2, o3, hrb, hlk⟩
  clear hT hl6 hsm hJ hj61 hsj hlk
  have sl : w1.heap.size < (w1.alloc (.cells #[.slice a1 R.ended.length c1, .slice a2 R.trace.length c2, .slice a3 R.switches.length c3, .bool R.high] 25)).heap.size := by simp
  have O1 := Lib.hid o1
  have O2 := Lib.hid o2
  have O3 := Lib.hid o3
  have HRB := Lib.hid hrb
  clear o1 o2 o3 hrb
  go_wp2_with fail
  have hbw1 := bw_alloc w1 (.cells #[.slice a1 R.ended.length c1, .slice a2 R.trace.length c2, .slice a3 R.switches.length c3, .bool R.high] 25)
  have HSRC := Lib.hid (heap_alloc_new w1 (.cells #[.slice a1 R.ended.length c1, .slice a2 R.trace.length c2, .slice a3 R.switches.length c3, .bool R.high] 25))
  have HO1 := Lib.hid (O1.out.bw hbw1).ri
  have HO2 := Lib.hid (O2.out.bw hbw1).ri
  have HO3 := Lib.hid (O3.out.bw hbw1).ri
  have hwW := bw_trans (bw_trans (bw_trans (bw_alloc w zRun) (bw_alloc _ zRun)) hb1) hbw1
  have HR2 := Lib.hid (blk_bw (bw_trans hb1 hbw1) (blk_bw (bw_alloc _ zRun) (heap_alloc_new w zRun)))
  have HR3 := Lib.hid (show _ = some zRun from blk_bw (bw_trans hb1 hbw1) (heap_alloc_new (w.alloc zRun) zRun))
  have hzw : (w.alloc zRun).heap.size = w.heap.size + 1 := by simp
  rw [hzw] at HR3
  have hgl : w.heap.size + 1 < w1.heap.size := by have := hb1.size; simp at this; omega
  have hg1 := blk_lt HSRC.out
  generalize hW : w1.alloc (Obj.cells #[.slice a1 R.ended.length c1, .slice a2 R.trace.length c2, .slice a3 R.switches.length c3, .bool R.high] 25) = W1 at *
  obtain ⟨g, hg⟩ : ∃ g, w1.heap.size = g := ⟨_, rfl⟩
  rw [hg] at HSRC hgl hg1 ⊢
  clear hW
  obtain ⟨s, hs⟩ : ∃ s : Src, s = ⟨W1.heap.size, g, R, a1, c1, a2, c2, a3, c3⟩ := ⟨_, rfl⟩
  have sR : s.R = R := by rw [hs]
  have sb : s.base = W1.heap.size := by rw [hs]
  have HF := Lib.hid (show ∀ (i : Nat) (v : Value) (w : World), fact s i v w = fact ⟨W1.heap.size, g, R, a1, c1, a2, c2, a3, c3⟩ i v w by rw [hs]; intros; rfl)
  refine wp_region_any (by kernel_rfl) ?_
  refine wpAny_inv (fun listed a w' => (∃ V, a = drA v (.pointer (some ⟨w.heap.size, 0, none⟩)) (.pointer (some ⟨w.heap.size + 1, 0, none⟩)) (.slice ao l.length c) (.slice bo js.length d) (.pointer (some ⟨g, 0, none⟩)) (.tuple #[.slice ao l.length c, .slice bo js.length d, rnVal a1 R.ended.length c1 a2 R.trace.length c2 a3 R.switches.length c3 R.high]) v (.tuple #[.slice ao l.length c, .slice bo js.length d, rnVal a1 R.ended.length c1 a2 R.trace.length c2 a3 R.switches.length c3 R.high]) (.slice ao l.length c) (.slice bo js.length d) (rnVal a1 R.ended.length c1 a2 R.trace.length c2 a3 R.switches.length c3 R.high) V ∧ Upto s W1 listed V w') ∨ (listed = Array.replicate 17 true ∧ ∃ V, a = drA v (.pointer (some ⟨w.heap.size, 0, none⟩)) (.pointer (some ⟨w.heap.size + 1, 0, none⟩)) (.slice ao l.length c) (.slice bo js.length d) (.pointer (some ⟨g, 0, none⟩)) (.tuple #[.slice ao l.length c, .slice bo js.length d, rnVal a1 R.ended.length c1 a2 R.trace.length c2 a3 R.switches.length c3 R.high]) v (.tuple #[.slice ao l.length c, .slice bo js.length d, rnVal a1 R.ended.length c1 a2 R.trace.length c2 a3 R.switches.length c3 R.high]) (.slice ao l.length c) (.slice bo js.length d) (rnVal a1 R.ended.length c1 a2 R.trace.length c2 a3 R.switches.length c3 R.high) V ∧ FinS s W1 V w')) ?_ ?_ _ _ _ _ (by decide) ?_
  · intro listed a w' i hI hi
    obtain ⟨his, hl, hdep⟩ := of_ready hi
    have hi17 : i < 17 := his
    clear his
    rcases hI with ⟨V, rfl, h⟩ | ⟨rfl, _⟩
    · have hsz : s.base ≤ w'.heap.size := by rw [sb]; exact h.bw.size
      have hsrc := blk_bw h.bw HSRC.out
      have q0 := blk_cell hsrc 0 rfl
      have q1 := blk_cell hsrc 1 rfl
      have q2 := blk_cell hsrc 2 rfl
      have q3 := blk_cell hsrc 3 rfl
      rcases (show i = 0 ∨ i = 1 ∨ i = 2 ∨ i = 3 ∨ i = 4 ∨ i = 5 ∨ i = 6 ∨ i = 7 ∨ i = 8 ∨ i = 9 ∨ i = 10 ∨ i = 11 ∨ i = 12 ∨ i = 13 ∨ i = 14 ∨ i = 15 ∨ i = 16 by omega) with rfl | rfl | rfl | rfl | rfl | rfl | rfl | rfl | rfl | rfl | rfl | rfl | rfl | rfl | rfl | rfl | rfl
      · refine wpOp_run rfl rfl (wp_val (v := .slice (some ⟨w'.heap.size, 0, none⟩) 0 0) (w' := w'.alloc (intRow #[])) ?_ (Or.inl ⟨upd V 14 _, rfl, h.step (i := 0) (by omega) hl (bw_alloc _ _) ⟨_, rfl, hsz, heap_alloc_new _ _⟩ (fun _ j hj hlj cj _ => h.fresh rfl j hj hlj cj)⟩))
        go_simp
      · refine wpOp_run rfl rfl (wp_val (v := .pointer (some ⟨g, 0, none⟩)) (w' := w') ?_ (Or.inl ⟨upd V 15 _, rfl, h.step (i := 1) (by omega) hl (Bw.refl _) (by rw [HF.out]; exact rfl) (fun hc => absurd rfl hc)⟩))
        go_simp
      · have d1 := h.facts 1 (by omega) (hdep _ rfl ⟨1, .data⟩ (by simp) rfl)
        rw [HF.out] at d1
        have d1' : V 15 = .pointer (some ⟨g, 0, none⟩) := d1
        refine wpOp_run rfl rfl (wp_val (v := .slice a1 R.ended.length c1) (w' := w') ?_ (Or.inl ⟨upd V 16 _, rfl, h.step (i := 2) (by omega) hl (Bw.refl _) (by rw [HF.out]; exact rfl) (fun hc => absurd rfl hc)⟩))
        go_simp
      · have lb := hdep _ rfl ⟨0, .data⟩ (by simp) rfl
        have d0 := h.facts 0 (by omega) lb
        have d1 := h.facts 2 (by omega) (hdep _ rfl ⟨2, .data⟩ (by simp) rfl)
        rw [HF.out] at d1
        have d1' : V 16 = .slice a1 R.ended.length c1 := d1
        obtain ⟨k, e0, hk0, hk1⟩ := d0
        have e0' : V 14 = .slice (some ⟨k, 0, none⟩) 0 0 := e0
        have hap := h.apart 0
        obtain ⟨L, hL⟩ : ∃ L, R.ended = L := ⟨_, rfl⟩
        have hLn : L.length ≤ 300 := by rw [← hL]; have := HRB.out.n1; omega
        have hoi : RI w' a1 L := by rw [← hL]; exact HO1.out.bw h.bw
        have sL : s.R.ended = L := by rw [sR, hL]
        rw [hL] at d1'
        by_cases hz : L = []
        · subst hz
          refine wpOp_run rfl rfl (wp_app rfl e0' d1' (append_zero _ _ _ i0 Tryd.underlying23 hi0 k a1 c1) (Or.inl ⟨upd V 17 _, rfl, h.step (i := 3) (by omega) hl (Bw.refl _) (show ORow s.base s.R.ended _ w' from ?_) (fun _ j hj hlj cj cne => ?_)⟩))
          · rw [sL]
            exact ⟨⟨rfl, .inr ⟨k, 0, #[], rfl, hk0, hk1, Nat.le_refl _, Nat.zero_le _, rfl, rfl⟩⟩, k, 0, rfl, blk_lt hk1⟩
          · have := hap j (by omega) hj lb hlj (by decide) cj cne
            rw [show slot 0 = 14 from rfl, e0'] at this
            exact this
        · have hpos : 0 < L.length := List.length_pos_iff.2 hz
          obtain ⟨x0, hx0⟩ := getSome hpos
          obtain ⟨bb, off, ea, hbl, _⟩ := hoi 0 x0 hx0
          have hcs : ∀ j u, (ints L)[j]? = some u → w'.cell? ((⟨bb, off, none⟩ : Addr).add j) = some u := fun j u hu => by
            obtain ⟨y, hy⟩ : ∃ y, L[j]? = some y := by
              cases hq : L[j]? with
              | none => simp [ints, hq] at hu
              | some y => exact ⟨y, rfl⟩
            obtain ⟨b2, o2, e2, _, hc2⟩ := hoi j y hy
            rw [ea] at e2
            simp at e2
            obtain ⟨rfl, rfl⟩ := e2
            have : (ints L)[j]? = some (vi y) := ints_get L j y hy
            rw [this] at hu
            rw [← Option.some.inj hu, add_none]
            exact hc2
          have hgr := run_append_grow (P := Tryd.prog) w' 23 23 3 i0 (.int .i64 0) Tryd.underlying23 hi0 hz0 ⟨k, 0, none⟩ 0 0 [] (by simp) (by simp) ⟨bb, off, none⟩ L.length c1 (ints L) (by rw [hz1, ints_length]; simp) hcs (by omega) (by omega) (growslice_fits (by omega) (by rw [hz2]; omega))
          rw [← ea] at hgr
          simp only [Nat.zero_add] at hgr
          refine wpOp_run rfl rfl (wp_app rfl e0' d1' hgr (Or.inl ⟨upd V 17 _, rfl, h.step (i := 3) (by omega) hl (bw_trans (bw_drew _) (bw_alloc _ _)) (show ORow s.base s.R.ended _ _ from ?_) (fun _ j hj hlj cj cne => ?_)⟩))
          · rw [sL]
            exact new_row hsz (by omega)
          · exact h.fresh (by rfl) j hj hlj cj
      · refine wpOp_run rfl rfl (wp_val (v := .slice (some ⟨w'.heap.size, 0, none⟩) 0 0) (w' := w'.alloc (intRow #[])) ?_ (Or.inl ⟨upd V 18 _, rfl, h.step (i := 4) (by omega) hl (bw_alloc _ _) ⟨_, rfl, hsz, heap_alloc_new _ _⟩ (fun _ j hj hlj cj _ => h.fresh rfl j hj hlj cj)⟩))
        go_simp
      · refine wpOp_run rfl rfl (wp_val (v := .pointer (some ⟨g, 1, none⟩)) (w' := w') ?_ (Or.inl ⟨upd V 19 _, rfl, h.step (i := 5) (by omega) hl (Bw.refl _) (by rw [HF.out]; exact rfl) (fun hc => absurd rfl hc)⟩))
        go_simp
      · have d1 := h.facts 5 (by omega) (hdep _ rfl ⟨5, .data⟩ (by simp) rfl)
        rw [HF.out] at d1
        have d1' : V 19 = .pointer (some ⟨g, 1, none⟩) := d1
        refine wpOp_run rfl rfl (wp_val (v := .slice a2 R.trace.length c2) (w' := w') ?_ (Or.inl ⟨upd V 20 _, rfl, h.step (i := 6) (by omega) hl (Bw.refl _) (by rw [HF.out]; exact rfl) (fun hc => absurd rfl hc)⟩))
        go_simp
      · have lb := hdep _ rfl ⟨4, .data⟩ (by simp) rfl
        have d0 := h.facts 4 (by omega) lb
        have d1 := h.facts 6 (by omega) (hdep _ rfl ⟨6, .data⟩ (by simp) rfl)
        rw [HF.out] at d1
        have d1' : V 20 = .slice a2 R.trace.length c2 := d1
        obtain ⟨k, e0, hk0, hk1⟩ := d0
        have e0' : V 18 = .slice (some ⟨k, 0, none⟩) 0 0 := e0
        have hap := h.apart 4
        obtain ⟨L, hL⟩ : ∃ L, R.trace = L := ⟨_, rfl⟩
        have hLn : L.length ≤ 300 := by rw [← hL]; have := HRB.out.n2; omega
        have hoi : RI w' a2 L := by rw [← hL]; exact HO2.out.bw h.bw
        have sL : s.R.trace = L := by rw [sR, hL]
        rw [hL] at d1'
        by_cases hz : L = []
        · subst hz
          refine wpOp_run rfl rfl (wp_app rfl e0' d1' (append_zero _ _ _ i0 Tryd.underlying23 hi0 k a2 c2) (Or.inl ⟨upd V 21 _, rfl, h.step (i := 7) (by omega) hl (Bw.refl _) (show ORow s.base s.R.trace _ w' from ?_) (fun _ j hj hlj cj cne => ?_)⟩))
          · rw [sL]
            exact ⟨⟨rfl, .inr ⟨k, 0, #[], rfl, hk0, hk1, Nat.le_refl _, Nat.zero_le _, rfl, rfl⟩⟩, k, 0, rfl, blk_lt hk1⟩
          · have := hap j (by omega) hj lb hlj (by decide) cj cne
            rw [show slot 4 = 18 from rfl, e0'] at this
            exact this
        · have hpos : 0 < L.length := List.length_pos_iff.2 hz
          obtain ⟨x0, hx0⟩ := getSome hpos
          obtain ⟨bb, off, ea, hbl, _⟩ := hoi 0 x0 hx0
          have hcs : ∀ j u, (ints L)[j]? = some u → w'.cell? ((⟨bb, off, none⟩ : Addr).add j) = some u := fun j u hu => by
            obtain ⟨y, hy⟩ : ∃ y, L[j]? = some y := by
              cases hq : L[j]? with
              | none => simp [ints, hq] at hu
              | some y => exact ⟨y, rfl⟩
            obtain ⟨b2, o2, e2, _, hc2⟩ := hoi j y hy
            rw [ea] at e2
            simp at e2
            obtain ⟨rfl, rfl⟩ := e2
            have : (ints L)[j]? = some (vi y) := ints_get L j y hy
            rw [this] at hu
            rw [← Option.some.inj hu, add_none]
            exact hc2
          have hgr := run_append_grow (P := Tryd.prog) w' 23 23 3 i0 (.int .i64 0) Tryd.underlying23 hi0 hz0 ⟨k, 0, none⟩ 0 0 [] (by simp) (by simp) ⟨bb, off, none⟩ L.length c2 (ints L) (by rw [hz1, ints_length]; simp) hcs (by omega) (by omega) (growslice_fits (by omega) (by rw [hz2]; omega))
          rw [← ea] at hgr
          simp only [Nat.zero_add] at hgr
          refine wpOp_run rfl rfl (wp_app rfl e0' d1' hgr (Or.inl ⟨upd V 21 _, rfl, h.step (i := 7) (by omega) hl (bw_trans (bw_drew _) (bw_alloc _ _)) (show ORow s.base s.R.trace _ _ from ?_) (fun _ j hj hlj cj cne => ?_)⟩))
          · rw [sL]
            exact new_row hsz (by omega)
          · exact h.fresh (by rfl) j hj hlj cj
      · refine wpOp_run rfl rfl (wp_val (v := .slice (some ⟨w'.heap.size, 0, none⟩) 0 0) (w' := w'.alloc (intRow #[])) ?_ (Or.inl ⟨upd V 22 _, rfl, h.step (i := 8) (by omega) hl (bw_alloc _ _) ⟨_, rfl, hsz, heap_alloc_new _ _⟩ (fun _ j hj hlj cj _ => h.fresh rfl j hj hlj cj)⟩))
        go_simp
      · refine wpOp_run rfl rfl (wp_val (v := .pointer (some ⟨g, 2, none⟩)) (w' := w') ?_ (Or.inl ⟨upd V 23 _, rfl, h.step (i := 9) (by omega) hl (Bw.refl _) (by rw [HF.out]; exact rfl) (fun hc => absurd rfl hc)⟩))
        go_simp
      · have d1 := h.facts 9 (by omega) (hdep _ rfl ⟨9, .data⟩ (by simp) rfl)
        rw [HF.out] at d1
        have d1' : V 23 = .pointer (some ⟨g, 2, none⟩) := d1
        refine wpOp_run rfl rfl (wp_val (v := .slice a3 R.switches.length c3) (w' := w') ?_ (Or.inl ⟨upd V 24 _, rfl, h.step (i := 10) (by omega) hl (Bw.refl _) (by rw [HF.out]; exact rfl) (fun hc => absurd rfl hc)⟩))
        go_simp
      · have lb := hdep _ rfl ⟨8, .data⟩ (by simp) rfl
        have d0 := h.facts 8 (by omega) lb
        have d1 := h.facts 10 (by omega) (hdep _ rfl ⟨10, .data⟩ (by simp) rfl)
        rw [HF.out] at d1
        have d1' : V 24 = .slice a3 R.switches.length c3 := d1
        obtain ⟨k, e0, hk0, hk1⟩ := d0
        have e0' : V 22 = .slice (some ⟨k, 0, none⟩) 0 0 := e0
        have hap := h.apart 8
        obtain ⟨L, hL⟩ : ∃ L, R.switches = L := ⟨_, rfl⟩
        have hLn : L.length ≤ 300 := by rw [← hL]; have := HRB.out.n3; omega
        have hoi : RI w' a3 L := by rw [← hL]; exact HO3.out.bw h.bw
        have sL : s.R.switches = L := by rw [sR, hL]
        rw [hL] at d1'
        by_cases hz : L = []
        · subst hz
          refine wpOp_run rfl rfl (wp_app rfl e0' d1' (append_zero _ _ _ i0 Tryd.underlying23 hi0 k a3 c3) (Or.inl ⟨upd V 25 _, rfl, h.step (i := 11) (by omega) hl (Bw.refl _) (show ORow s.base s.R.switches _ w' from ?_) (fun _ j hj hlj cj cne => ?_)⟩))
          · rw [sL]
            exact ⟨⟨rfl, .inr ⟨k, 0, #[], rfl, hk0, hk1, Nat.le_refl _, Nat.zero_le _, rfl, rfl⟩⟩, k, 0, rfl, blk_lt hk1⟩
          · have := hap j (by omega) hj lb hlj (by decide) cj cne
            rw [show slot 8 = 22 from rfl, e0'] at this
            exact this
        · have hpos : 0 < L.length := List.length_pos_iff.2 hz
          obtain ⟨x0, hx0⟩ := getSome hpos
          obtain ⟨bb, off, ea, hbl, _⟩ := hoi 0 x0 hx0
          have hcs : ∀ j u, (ints L)[j]? = some u → w'.cell? ((⟨bb, off, none⟩ : Addr).add j) = some u := fun j u hu => by
            obtain ⟨y, hy⟩ : ∃ y, L[j]? = some y := by
              cases hq : L[j]? with
              | none => simp [ints, hq] at hu
              | some y => exact ⟨y, rfl⟩
            obtain ⟨b2, o2, e2, _, hc2⟩ := hoi j y hy
            rw [ea] at e2
            simp at e2
            obtain ⟨rfl, rfl⟩ := e2
            have : (ints L)[j]? = some (vi y) := ints_get L j y hy
            rw [this] at hu
            rw [← Option.some.inj hu, add_none]
            exact hc2
          have hgr := run_append_grow (P := Tryd.prog) w' 23 23 3 i0 (.int .i64 0) Tryd.underlying23 hi0 hz0 ⟨k, 0, none⟩ 0 0 [] (by simp) (by simp) ⟨bb, off, none⟩ L.length c3 (ints L) (by rw [hz1, ints_length]; simp) hcs (by omega) (by omega) (growslice_fits (by omega) (by rw [hz2]; omega))
          rw [← ea] at hgr
          simp only [Nat.zero_add] at hgr
          refine wpOp_run rfl rfl (wp_app rfl e0' d1' hgr (Or.inl ⟨upd V 25 _, rfl, h.step (i := 11) (by omega) hl (bw_trans (bw_drew _) (bw_alloc _ _)) (show ORow s.base s.R.switches _ _ from ?_) (fun _ j hj hlj cj cne => ?_)⟩))
          · rw [sL]
            exact new_row hsz (by omega)
          · exact h.fresh (by rfl) j hj hlj cj
      · refine wpOp_run rfl rfl (wp_val (v := .pointer (some ⟨g, 3, none⟩)) (w' := w') ?_ (Or.inl ⟨upd V 26 _, rfl, h.step (i := 12) (by omega) hl (Bw.refl _) (by rw [HF.out]; exact rfl) (fun hc => absurd rfl hc)⟩))
        go_simp
      · have d1 := h.facts 12 (by omega) (hdep _ rfl ⟨12, .data⟩ (by simp) rfl)
        rw [HF.out] at d1
        have d1' : V 26 = .pointer (some ⟨g, 3, none⟩) := d1
        refine wpOp_run rfl rfl (wp_val (v := .bool R.high) (w' := w') ?_ (Or.inl ⟨upd V 27 _, rfl, h.step (i := 13) (by omega) hl (Bw.refl _) (by rw [HF.out]; exact rfl) (fun hc => absurd rfl hc)⟩))
        go_simp
      · have l3 := hdep _ rfl ⟨3, .data⟩ (by simp) rfl
        have l7 := hdep _ rfl ⟨7, .data⟩ (by simp) rfl
        have l11 := hdep _ rfl ⟨11, .data⟩ (by simp) rfl
        have d13 := h.facts 13 (by omega) (hdep _ rfl ⟨13, .data⟩ (by simp) rfl)
        rw [HF.out] at d13
        have d13' : V 27 = .bool R.high := d13
        have f3 := h.facts 3 (by omega) l3
        have f7 := h.facts 7 (by omega) l7
        have f11 := h.facts 11 (by omega) l11
        have p1 := h.apart 3 7 (by omega) (by omega) l3 l7 (by decide) (by decide) (by decide)
        have p2 := h.apart 3 11 (by omega) (by omega) l3 l11 (by decide) (by decide) (by decide)
        have p3 := h.apart 7 11 (by omega) (by omega) l7 l11 (by decide) (by decide) (by decide)
        obtain ⟨g3, k3, u3, e3, m3⟩ := f3
        obtain ⟨g7, k7, u7, e7, m7⟩ := f7
        obtain ⟨g11, k11, u11, e11, m11⟩ := f11
        have e3' : V 17 = .slice (some ⟨k3, 0, none⟩) s.R.ended.length u3 := e3
        have e7' : V 21 = .slice (some ⟨k7, 0, none⟩) s.R.trace.length u7 := e7
        have e11' : V 25 = .slice (some ⟨k11, 0, none⟩) s.R.switches.length u11 := e11
        rw [e3] at g3
        rw [e7] at g7
        rw [e11] at g11
        rw [e3, e7] at p1
        rw [e3, e11] at p2
        rw [e7, e11] at p3
        refine wpOp_run rfl rfl (wp_val (v := .agg #[.slice (some ⟨k3, 0, none⟩) s.R.ended.length u3, .slice (some ⟨k7, 0, none⟩) s.R.trace.length u7, .slice (some ⟨k11, 0, none⟩) s.R.switches.length u11, .bool R.high]) (w' := w') ?_ (Or.inl ⟨upd V 28 _, rfl, h.step (i := 14) (by omega) hl (Bw.refl _) ⟨_, _, _, by rw [sR], ⟨g3, k3, u3, rfl, m3⟩, ⟨g7, k7, u7, rfl, m7⟩, ⟨g11, k11, u11, rfl, m11⟩, p1, p2, p3⟩ (fun hc => absurd rfl hc)⟩))
        clear e3 e7 e11 g3 g7 g11 p1 p2 p3
        go_simp
      · refine wpOp_run rfl rfl (wp_val (v := .pointer (some ⟨w'.heap.size, 0, none⟩)) (w' := w'.alloc zRun) ?_ (Or.inl ⟨upd V 7 _, rfl, h.step (i := 15) (by omega) hl (bw_alloc _ _) ⟨_, rfl, hsz, heap_alloc_new _ _⟩ (fun hc => absurd rfl hc)⟩))
        go_simp
      · have l0 := hdep _ rfl ⟨0, .phase⟩ (by simp) rfl
        have l1 := hdep _ rfl ⟨1, .phase⟩ (by simp) rfl
        have l2 := hdep _ rfl ⟨2, .phase⟩ (by simp) rfl
        have l3 := hdep _ rfl ⟨3, .phase⟩ (by simp) rfl
        have l4 := hdep _ rfl ⟨4, .phase⟩ (by simp) rfl
        have l5 := hdep _ rfl ⟨5, .phase⟩ (by simp) rfl
        have l6 := hdep _ rfl ⟨6, .phase⟩ (by simp) rfl
        have l7 := hdep _ rfl ⟨7, .phase⟩ (by simp) rfl
        have l8 := hdep _ rfl ⟨8, .phase⟩ (by simp) rfl
        have l9 := hdep _ rfl ⟨9, .phase⟩ (by simp) rfl
        have l10 := hdep _ rfl ⟨10, .phase⟩ (by simp) rfl
        have l11 := hdep _ rfl ⟨11, .phase⟩ (by simp) rfl
        have l12 := hdep _ rfl ⟨12, .phase⟩ (by simp) rfl
        have l13 := hdep _ rfl ⟨13, .phase⟩ (by simp) rfl
        have l14 := hdep _ rfl ⟨14, .phase⟩ (by simp) rfl
        have l15 := hdep _ rfl ⟨15, .phase⟩ (by simp) rfl
        obtain ⟨x, y, z, e14, h3⟩ := h.facts 14 (by omega) l14
        obtain ⟨B, e15, hB0, hB1⟩ := h.facts 15 (by omega) l15
        have e14' : V 28 = .agg #[x, y, z, .bool R.high] := by rw [sR] at e14; exact e14
        have e15' : V 7 = .pointer (some ⟨B, 0, none⟩) := e15
        have b0 := blk_cell hB1 0 rfl
        have b1 := blk_cell hB1 1 rfl
        have b2 := blk_cell hB1 2 rfl
        have b3 := blk_cell hB1 3 rfl
        have bf := blk_free hB1
        obtain ⟨⟨gx, kx, ux, ex, mx⟩, ⟨gy, ky, uy, ey, my⟩, ⟨gz, kz, uz, ez, mz⟩, pq⟩ := h3
        subst ex ey ez
        have h3 : Three s _ _ _ w' := ⟨⟨gx, kx, ux, rfl, mx⟩, ⟨gy, ky, uy, rfl, my⟩, ⟨gz, kz, uz, rfl, mz⟩, pq⟩
        have hlist : listed.setIfInBounds 16 true = Array.replicate 17 true := all_set h.size l0 l1 l2 l3 l4 l5 l6 l7 l8 l9 l10 l11 l12 l13 l14 l15
        refine wpOp_run rfl rfl (wp_skip (w' := (((w'.setCell ⟨B, 0, none⟩ (.slice (some ⟨kx, 0, none⟩) s.R.ended.length ux)).setCell ⟨B, 1, none⟩ (.slice (some ⟨ky, 0, none⟩) s.R.trace.length uy)).setCell ⟨B, 2, none⟩ (.slice (some ⟨kz, 0, none⟩) s.R.switches.length uz)).setCell ⟨B, 3, none⟩ (.bool R.high)) ?_ (Or.inr ⟨hlist, V, rfl, B, _, _, _, e15', hB0, ?_, three_set h3 hB1 _ _ _ _, ?_⟩))
        · go_simp
        · rw [sR]
          exact blk_set (blk_set (blk_set (blk_set hB1 0 _) 1 _) 2 _) 3 (.bool R.high)
        · have hB2 : W1.heap.size ≤ B := by rw [← sb]; exact hB0
          exact bw_set (bw_set (bw_set (bw_set h.bw hB2 _ _) hB2 _ _) hB2 _ _) hB2 _ _
    · exact absurd (repl_true i) (by rw [hl]; simp)
  · intro listed a w' hI hr
    rcases hI with ⟨V, rfl, h⟩ | ⟨_, V, rfl, hF⟩
    · exfalso
      have u0 := up_of hr h.size (i := 0) (by omega) rfl (by intro e he; simp at he)
      have u1 := up_of hr h.size (i := 1) (by omega) rfl (by intro e he; simp at he)
      have u2 := up_of hr h.size (i := 2) (by omega) rfl (by intro e he _; simp at he; subst he; exact u1)
      have u3 := up_of hr h.size (i := 3) (by omega) rfl (by intro e he _; simp at he; rcases he with rfl | rfl <;> first | exact u0 | exact u2)
      have u4 := up_of hr h.size (i := 4) (by omega) rfl (by intro e he; simp at he)
      have u5 := up_of hr h.size (i := 5) (by omega) rfl (by intro e he; simp at he)
      have u6 := up_of hr h.size (i := 6) (by omega) rfl (by intro e he _; simp at he; subst he; exact u5)
      have u7 := up_of hr h.size (i := 7) (by omega) rfl (by intro e he _; simp at he; rcases he with rfl | rfl | rfl <;> first | exact u4 | exact u6 | exact u3)
      have u8 := up_of hr h.size (i := 8) (by omega) rfl (by intro e he; simp at he)
      have u9 := up_of hr h.size (i := 9) (by omega) rfl (by intro e he; simp at he)
      have u10 := up_of hr h.size (i := 10) (by omega) rfl (by intro e he _; simp at he; subst he; exact u9)
      have u11 := up_of hr h.size (i := 11) (by omega) rfl (by intro e he _; simp at he; rcases he with rfl | rfl | rfl <;> first | exact u8 | exact u10 | exact u7)
      have u12 := up_of hr h.size (i := 12) (by omega) rfl (by intro e he; simp at he)
      have u13 := up_of hr h.size (i := 13) (by omega) rfl (by intro e he _; simp at he; subst he; exact u12)
      have u14 := up_of hr h.size (i := 14) (by omega) rfl (by intro e he _; simp at he; rcases he with rfl | rfl | rfl | rfl <;> first | exact u3 | exact u7 | exact u11 | exact u13)
      have u15 := up_of hr h.size (i := 15) (by omega) rfl (by intro e he; simp at he)
      have u16 := up_of hr h.size (i := 16) (by omega) rfl (by intro e he _; simp at he; rcases he with rfl | rfl | rfl | rfl | rfl | rfl | rfl | rfl | rfl | rfl | rfl | rfl | rfl | rfl | rfl | rfl | rfl | rfl | rfl <;> first | exact u0 | exact u1 | exact u2 | exact u3 | exact u4 | exact u5 | exact u6 | exact u7 | exact u8 | exact u9 | exact u10 | exact u11 | exact u12 | exact u13 | exact u14 | exact u15)
      have hla := h.last
      simp only [Array.getD_eq_getD_getElem?] at hla u16
      rw [Array.getElem?_eq_getElem (by have := h.size; omega)] at hla u16
      simp only [Option.getD_some] at hla u16
      rw [hla] at u16; cases u16
    · obtain ⟨B, x, y, z, e7, hB0, hB1, ⟨⟨gx, kx, ux, ex, mx⟩, ⟨gy, ky, uy, ey, my⟩, ⟨gz, kz, uz, ez, mz⟩, p12, p13, p23⟩, hbw⟩ := hF
      subst ex ey ez
      rw [sR] at gx gy gz hB1 p12 p13 p23
      rw [sb] at gx gy gz hB0
      unfold drA
      rw [e7]
      have HSR := Lib.hid (blk_bw hbw HSRC.out)
      have HBX := Lib.hid hB1
      clear hr hB1 HF hs sR sb
      have hww := bw_trans hwW hbw
      go_wp2_with fail
      refine (l11Open_any HV.out (bw_trans hb hww)).mono ?_
      rintro e w2 ⟨rfl, hrd, hb2⟩
      obtain ⟨G, hGe⟩ : ∃ G, w'.heap.size = G := ⟨_, rfl⟩
      have hGw := hbw.size
      rw [hGe] at hrd mx my mz hGw ⊢
      go_wp2_with fail
      refine (pick_any _ G G 0 4 hrd (by omega)).mono ?_
      rintro e w3 ⟨r, rfl, hr, hd⟩
      have hb3 : Bw w' w3 := bw_hit hb2 hd.2 (by omega)
      clear hd hrd hb2
      have GX := Lib.hid (row_bw gx hb3)
      have GY := Lib.hid (row_bw gy hb3)
      have GZ := Lib.hid (row_bw gz hb3)
      have HBX := Lib.hid (blk_bw hb3 HBX.out)
      have hW3 := bw_trans hbw hb3
      have hz3 := hW3.size
      clear gx gy gz HSR hww
      have t0 := blk_cell HBX.out 0 rfl
      have t1 := blk_cell HBX.out 1 rfl
      have t2 := blk_cell HBX.out 2 rfl
      have t3 := blk_cell HBX.out 3 rfl
      have tf := blk_free HBX.out
      rcases (show r = 0 ∨ r = 1 ∨ r = 2 ∨ r = 3 by omega) with rfl | rfl | rfl | rfl
      · go_wp2_with fail
        have hBW : W1.heap.size ≤ B := hB0
        have hBx := blk_set HBX.out 3 (.bool !R.high)
        have hbx := bw_set hW3 hBW 3 (.bool !R.high)
        have px := (Own.ofRow (row_held GX.out fun k hk => Below.heap_setCell _ ⟨B, 3, none⟩ (.bool !R.high) _ (fun e => row_ne GX.out HBX.out (by decide) (by rw [hk, e]))))
        have py := (Own.ofRow (row_held GY.out fun k hk => Below.heap_setCell _ ⟨B, 3, none⟩ (.bool !R.high) _ (fun e => row_ne GY.out HBX.out (by decide) (by rw [hk, e]))))
        have pz := (Own.ofRow (row_held GZ.out fun k hk => Below.heap_setCell _ ⟨B, 3, none⟩ (.bool !R.high) _ (fun e => row_ne GZ.out HBX.out (by decide) (by rw [hk, e]))))
        have hbt : RunB3 ⟨R.ended, R.trace, R.switches, !R.high⟩ := HRB.out.b3
        clear t0 t1 t2 t3 tf HBX
        have HBX := Lib.hid (show (w3.setCell ⟨B, 3, none⟩ (.bool !R.high)).heap[B]? = some (.cells #[.slice (some ⟨kx, 0, none⟩) R.ended.length ux, .slice (some ⟨ky, 0, none⟩) R.trace.length uy, .slice (some ⟨kz, 0, none⟩) R.switches.length uz, .bool (!R.high)] 25 (0, 0)) from hBx)
        have HGX := Lib.hid (blk_bw hbx HSRC.out)
        have HR2X := Lib.hid (blk_bw hbx HR2.out)
        have HR3X := Lib.hid (blk_bw hbx HR3.out)
        have A1 := Lib.hid ((O1.out.bw hbw1).bw hbx)
        have A2 := Lib.hid ((O2.out.bw hbw1).bw hbx)
        have A3 := Lib.hid ((O3.out.bw hbw1).bw hbx)
        have hwx := bw_trans hwW hbx
        have PX := Lib.hid px
        have PY := Lib.hid py
        have PZ := Lib.hid pz
        have HBT := Lib.hid hbt
        clear px py pz hbt
        clear hBx
        generalize hWx : w3.setCell ⟨B, 3, none⟩ (.bool !R.high) = Wx at *
        have n1 : g ≠ w.heap.size := by omega
        have n2 : g ≠ w.heap.size + 1 := by omega
        have n3 : B ≠ w.heap.size := by omega
        have n4 : B ≠ w.heap.size + 1 := by omega
        have r0 := blk_cell HR2X.out 0 rfl
        have r1 := blk_cell HR2X.out 1 rfl
        have r2 := blk_cell HR2X.out 2 rfl
        have r3 := blk_cell HR2X.out 3 rfl
        have rf := blk_free HR2X.out
        have q0 := blk_cell HR3X.out 0 rfl
        have q1 := blk_cell HR3X.out 1 rfl
        have q2 := blk_cell HR3X.out 2 rfl
        have q3 := blk_cell HR3X.out 3 rfl
        have qf := blk_free HR3X.out
        have HS := Lib.hid (cells8 HGX.out HBX.out)
        go_region_held3 (fun W => W.cell? ⟨g, 0, none⟩ = some (.slice a1 R.ended.length c1) ∧ W.cell? ⟨g, 1, none⟩ = some (.slice a2 R.trace.length c2) ∧ W.cell? ⟨g, 2, none⟩ = some (.slice a3 R.switches.length c3) ∧ W.cell? ⟨g, 3, none⟩ = some (.bool R.high) ∧ W.cell? ⟨B, 0, none⟩ = some (.slice (some ⟨kx, 0, none⟩) R.ended.length ux) ∧ W.cell? ⟨B, 1, none⟩ = some (.slice (some ⟨ky, 0, none⟩) R.trace.length uy) ∧ W.cell? ⟨B, 2, none⟩ = some (.slice (some ⟨kz, 0, none⟩) R.switches.length uz) ∧ W.cell? ⟨B, 3, none⟩ = some (.bool (!R.high)))
          (first | with_reducible exact keepR0 HGX.out HBX.out | with_reducible exact keepR1 HGX.out HBX.out n1 n3 | with_reducible exact keepR2 HGX.out HBX.out n1 n3 n2 n4)
          (fail)
        go_wp2
        clear HS
        refine bodyPost_ret (v := .tuple #[rnVal a1 R.ended.length c1 a2 R.trace.length c2 a3 R.switches.length c3 R.high, .agg #[.slice (some ⟨kx, 0, none⟩) R.ended.length ux, .slice (some ⟨ky, 0, none⟩) R.trace.length uy, .slice (some ⟨kz, 0, none⟩) R.switches.length uz, .bool (!R.high)]]) (by simp [results, Tryd.results20, go_sem, r0, r1, r2, r3, q0, q1, q2, q3]) rfl ?_
        exact ⟨R, ⟨R.ended, R.trace, R.switches, !R.high⟩, a1, c1, a2, c2, a3, c3, some ⟨kx, 0, none⟩, ux, some ⟨ky, 0, none⟩, uy, some ⟨kz, 0, none⟩, uz, rfl, ((own_set4 (own_set4 A1.out (by simp only [World.size_alloc]; omega)) (by simp only [World.size_alloc]; omega)).bw (bw_drew _)).mono (by simp only [World.size_alloc]; omega), ((own_set4 (own_set4 A2.out (by simp only [World.size_alloc]; omega)) (by simp only [World.size_alloc]; omega)).bw (bw_drew _)).mono (by simp only [World.size_alloc]; omega), ((own_set4 (own_set4 A3.out (by simp only [World.size_alloc]; omega)) (by simp only [World.size_alloc]; omega)).bw (bw_drew _)).mono (by simp only [World.size_alloc]; omega), ((own_set4 (own_set4 PX.out (by omega)) (by omega)).bw (bw_drew _)).mono (by omega), ((own_set4 (own_set4 PY.out (by omega)) (by omega)).bw (bw_drew _)).mono (by omega), ((own_set4 (own_set4 PZ.out (by omega)) (by omega)).bw (bw_drew _)).mono (by omega), HRB.out.b3, HBT.out, bw_trans (dr_set4 (dr_set4 hwx (Nat.le_refl _)) (by omega)) (bw_drew _)⟩
      · have hBW : W1.heap.size ≤ B := hB0
        have hln := HRB.out.n3
        go_wp2_with (at_builtin; refine wpList_append_own _ rfl _ _ 23 rfl W1.heap.size 3 i0 (.int .i64 0) 1 8 Tryd.underlying23 hi0 hz0 hz1 hz2 rfl (by decide) _ _ _ rfl (row_bw GZ.out (bw_alloc _ _)) ⟨w3.heap.size, 0, none⟩ 1 1 [vi 7] rfl rfl (cell_one_new _ _ _) (oneI 7) (by unfold maxLen; omega) (by omega) (by simp; omega) ?_; intro v' w5 hown' hgrow _; refine stopw _ ?_)
        refine Lib.hid ?_
        obtain ⟨ao', c', hu⟩ := own_form hown'
        subst hu
        have hb5 : Bw W1 w5 := Below.grown (Below.alloc hW3 hz3 _) hgrow (by simp; omega) (fun q hq => by have := own_cap0 GZ.out q hq; omega)
        have hBn : some B ≠ (Value.slice (some ⟨kz, 0, none⟩) R.switches.length uz).ownBlock := fun e => row_ne GZ.out HBX.out (by decide) e.symm
        have HB5 := Lib.hid ((hgrow.block B (by have := blk_lt HBX.out; simp; omega) hBn).trans (blk_bw (bw_alloc w3 _) HBX.out))
        have rB := row_held (row_bw GX.out (bw_alloc w3 (.cells #[vi 7] 3))) (fun k hk => hgrow.block k (by have := (GX.out.lt k hk).2; simp; omega) (fun e => p13 (hk.trans e)))
        have rC := row_held (row_bw GY.out (bw_alloc w3 (.cells #[vi 7] 3))) (fun k hk => hgrow.block k (by have := (GY.out.lt k hk).2; simp; omega) (fun e => p23 (hk.trans e)))
        clear t0 t1 t2 t3 tf
        have t0 := blk_cell HB5.out 0 rfl
        have t1 := blk_cell HB5.out 1 rfl
        have t2 := blk_cell HB5.out 2 rfl
        have t3 := blk_cell HB5.out 3 rfl
        have tf := blk_free HB5.out
        have hBx := blk_set HB5.out 2 (.slice ao' (R.switches.length + 1) c')
        have hbx := bw_set hb5 hBW 2 (.slice ao' (R.switches.length + 1) c')
        have PA1 := Own.ofRow (row_held hown' fun k hk => Below.heap_setCell _ ⟨B, 2, none⟩ (.slice ao' (R.switches.length + 1) c') _ (fun e => row_ne hown' HB5.out (by decide) (by rw [hk, e])))
        have PB1 := Own.ofRow (row_held rB fun k hk => Below.heap_setCell _ ⟨B, 2, none⟩ (.slice ao' (R.switches.length + 1) c') _ (fun e => row_ne rB HB5.out (by decide) (by rw [hk, e])))
        have PC1 := Own.ofRow (row_held rC fun k hk => Below.heap_setCell _ ⟨B, 2, none⟩ (.slice ao' (R.switches.length + 1) c') _ (fun e => row_ne rC HB5.out (by decide) (by rw [hk, e])))
        rw [← ints_one] at PA1
        clear rB rC hgrow hown'
        go_wp2_with fail
        clear t0 t1 t2 t3 tf HB5 HBX
        have px := PB1
        have py := PC1
        have pz : Own _ W1.heap.size 3 ao' (ints (R.switches ++ [7])) := PA1
        have hbt : RunB3 ⟨R.ended, R.trace, R.switches ++ [7], R.high⟩ := b3_s HRB.out
        clear PA1 PB1 PC1
        have HBX := Lib.hid (show (w5.setCell ⟨B, 2, none⟩ (.slice ao' (R.switches.length + 1) c')).heap[B]? = some (.cells #[.slice (some ⟨kx, 0, none⟩) R.ended.length ux, .slice (some ⟨ky, 0, none⟩) R.trace.length uy, .slice ao' (R.switches.length + 1) c', .bool R.high] 25 (0, 0)) from hBx)
        have HGX := Lib.hid (blk_bw hbx HSRC.out)
        have HR2X := Lib.hid (blk_bw hbx HR2.out)
        have HR3X := Lib.hid (blk_bw hbx HR3.out)
        have A1 := Lib.hid ((O1.out.bw hbw1).bw hbx)
        have A2 := Lib.hid ((O2.out.bw hbw1).bw hbx)
        have A3 := Lib.hid ((O3.out.bw hbw1).bw hbx)
        have hwx := bw_trans hwW hbx
        have PX := Lib.hid px
        have PY := Lib.hid py
        have PZ := Lib.hid pz
        have HBT := Lib.hid hbt
        clear px py pz hbt
        clear hBx
        generalize hWx : w5.setCell ⟨B, 2, none⟩ (.slice ao' (R.switches.length + 1) c') = Wx at *
        have n1 : g ≠ w.heap.size := by omega
        have n2 : g ≠ w.heap.size + 1 := by omega
        have n3 : B ≠ w.heap.size := by omega
        have n4 : B ≠ w.heap.size + 1 := by omega
        have r0 := blk_cell HR2X.out 0 rfl
        have r1 := blk_cell HR2X.out 1 rfl
        have r2 := blk_cell HR2X.out 2 rfl
        have r3 := blk_cell HR2X.out 3 rfl
        have rf := blk_free HR2X.out
        have q0 := blk_cell HR3X.out 0 rfl
        have q1 := blk_cell HR3X.out 1 rfl
        have q2 := blk_cell HR3X.out 2 rfl
        have q3 := blk_cell HR3X.out 3 rfl
        have qf := blk_free HR3X.out
        have HS := Lib.hid (cells8 HGX.out HBX.out)
        go_region_held3 (fun W => W.cell? ⟨g, 0, none⟩ = some (.slice a1 R.ended.length c1) ∧ W.cell? ⟨g, 1, none⟩ = some (.slice a2 R.trace.length c2) ∧ W.cell? ⟨g, 2, none⟩ = some (.slice a3 R.switches.length c3) ∧ W.cell? ⟨g, 3, none⟩ = some (.bool R.high) ∧ W.cell? ⟨B, 0, none⟩ = some (.slice (some ⟨kx, 0, none⟩) R.ended.length ux) ∧ W.cell? ⟨B, 1, none⟩ = some (.slice (some ⟨ky, 0, none⟩) R.trace.length uy) ∧ W.cell? ⟨B, 2, none⟩ = some (.slice ao' (R.switches.length + 1) c') ∧ W.cell? ⟨B, 3, none⟩ = some (.bool R.high))
          (first | with_reducible exact keepR0 HGX.out HBX.out | with_reducible exact keepR1 HGX.out HBX.out n1 n3 | with_reducible exact keepR2 HGX.out HBX.out n1 n3 n2 n4)
          (fail)
        go_wp2
        clear HS
        refine bodyPost_ret (v := .tuple #[rnVal a1 R.ended.length c1 a2 R.trace.length c2 a3 R.switches.length c3 R.high, .agg #[.slice (some ⟨kx, 0, none⟩) R.ended.length ux, .slice (some ⟨ky, 0, none⟩) R.trace.length uy, .slice ao' (R.switches.length + 1) c', .bool R.high]]) (by simp [results, Tryd.results20, go_sem, r0, r1, r2, r3, q0, q1, q2, q3]) rfl ?_
        exact ⟨R, ⟨R.ended, R.trace, R.switches ++ [7], R.high⟩, a1, c1, a2, c2, a3, c3, some ⟨kx, 0, none⟩, ux, some ⟨ky, 0, none⟩, uy, ao', c', by simp, ((own_set4 (own_set4 A1.out (by simp only [World.size_alloc]; omega)) (by simp only [World.size_alloc]; omega)).bw (bw_drew _)).mono (by simp only [World.size_alloc]; omega), ((own_set4 (own_set4 A2.out (by simp only [World.size_alloc]; omega)) (by simp only [World.size_alloc]; omega)).bw (bw_drew _)).mono (by simp only [World.size_alloc]; omega), ((own_set4 (own_set4 A3.out (by simp only [World.size_alloc]; omega)) (by simp only [World.size_alloc]; omega)).bw (bw_drew _)).mono (by simp only [World.size_alloc]; omega), ((own_set4 (own_set4 PX.out (by omega)) (by omega)).bw (bw_drew _)).mono (by omega), ((own_set4 (own_set4 PY.out (by omega)) (by omega)).bw (bw_drew _)).mono (by omega), ((own_set4 (own_set4 PZ.out (by omega)) (by omega)).bw (bw_drew _)).mono (by omega), HRB.out.b3, HBT.out, bw_trans (dr_set4 (dr_set4 hwx (Nat.le_refl _)) (by omega)) (bw_drew _)⟩
      · have hBW : W1.heap.size ≤ B := hB0
        have hln := HRB.out.n1
        go_wp2_with (at_builtin; refine wpList_append_own _ rfl _ _ 23 rfl W1.heap.size 3 i0 (.int .i64 0) 1 8 Tryd.underlying23 hi0 hz0 hz1 hz2 rfl (by decide) _ _ _ rfl (row_bw GX.out (bw_alloc _ _)) ⟨w3.heap.size, 0, none⟩ 1 1 [vi 3] rfl rfl (cell_one_new _ _ _) (oneI 3) (by unfold maxLen; omega) (by omega) (by simp; omega) ?_; intro v' w5 hown' hgrow _; refine stopw _ ?_)
        refine Lib.hid ?_
        obtain ⟨ao', c', hu⟩ := own_form hown'
        subst hu
        have hb5 : Bw W1 w5 := Below.grown (Below.alloc hW3 hz3 _) hgrow (by simp; omega) (fun q hq => by have := own_cap0 GX.out q hq; omega)
        have hBn : some B ≠ (Value.slice (some ⟨kx, 0, none⟩) R.ended.length ux).ownBlock := fun e => row_ne GX.out HBX.out (by decide) e.symm
        have HB5 := Lib.hid ((hgrow.block B (by have := blk_lt HBX.out; simp; omega) hBn).trans (blk_bw (bw_alloc w3 _) HBX.out))
        have rB := row_held (row_bw GY.out (bw_alloc w3 (.cells #[vi 3] 3))) (fun k hk => hgrow.block k (by have := (GY.out.lt k hk).2; simp; omega) (fun e => p12.symm (hk.trans e)))
        have rC := row_held (row_bw GZ.out (bw_alloc w3 (.cells #[vi 3] 3))) (fun k hk => hgrow.block k (by have := (GZ.out.lt k hk).2; simp; omega) (fun e => p13.symm (hk.trans e)))
        clear t0 t1 t2 t3 tf
        have t0 := blk_cell HB5.out 0 rfl
        have t1 := blk_cell HB5.out 1 rfl
        have t2 := blk_cell HB5.out 2 rfl
        have t3 := blk_cell HB5.out 3 rfl
        have tf := blk_free HB5.out
        have hBx := blk_set HB5.out 0 (.slice ao' (R.ended.length + 1) c')
        have hbx := bw_set hb5 hBW 0 (.slice ao' (R.ended.length + 1) c')
        have PA1 := Own.ofRow (row_held hown' fun k hk => Below.heap_setCell _ ⟨B, 0, none⟩ (.slice ao' (R.ended.length + 1) c') _ (fun e => row_ne hown' HB5.out (by decide) (by rw [hk, e])))
        have PB1 := Own.ofRow (row_held rB fun k hk => Below.heap_setCell _ ⟨B, 0, none⟩ (.slice ao' (R.ended.length + 1) c') _ (fun e => row_ne rB HB5.out (by decide) (by rw [hk, e])))
        have PC1 := Own.ofRow (row_held rC fun k hk => Below.heap_setCell _ ⟨B, 0, none⟩ (.slice ao' (R.ended.length + 1) c') _ (fun e => row_ne rC HB5.out (by decide) (by rw [hk, e])))
        rw [← ints_one] at PA1
        clear rB rC hgrow hown'
        go_wp2_with fail
        clear t0 t1 t2 t3 tf HB5 HBX
        have px : Own _ W1.heap.size 3 ao' (ints (R.ended ++ [3])) := PA1
        have py := PB1
        have pz := PC1
        have hbt : RunB3 ⟨R.ended ++ [3], R.trace, R.switches, R.high⟩ := b3_e HRB.out
        clear PA1 PB1 PC1
        have HBX := Lib.hid (show (w5.setCell ⟨B, 0, none⟩ (.slice ao' (R.ended.length + 1) c')).heap[B]? = some (.cells #[.slice ao' (R.ended.length + 1) c', .slice (some ⟨ky, 0, none⟩) R.trace.length uy, .slice (some ⟨kz, 0, none⟩) R.switches.length uz, .bool R.high] 25 (0, 0)) from hBx)
        have HGX := Lib.hid (blk_bw hbx HSRC.out)
        have HR2X := Lib.hid (blk_bw hbx HR2.out)
        have HR3X := Lib.hid (blk_bw hbx HR3.out)
        have A1 := Lib.hid ((O1.out.bw hbw1).bw hbx)
        have A2 := Lib.hid ((O2.out.bw hbw1).bw hbx)
        have A3 := Lib.hid ((O3.out.bw hbw1).bw hbx)
        have hwx := bw_trans hwW hbx
        have PX := Lib.hid px
        have PY := Lib.hid py
        have PZ := Lib.hid pz
        have HBT := Lib.hid hbt
        clear px py pz hbt
        clear hBx
        generalize hWx : w5.setCell ⟨B, 0, none⟩ (.slice ao' (R.ended.length + 1) c') = Wx at *
        have n1 : g ≠ w.heap.size := by omega
        have n2 : g ≠ w.heap.size + 1 := by omega
        have n3 : B ≠ w.heap.size := by omega
        have n4 : B ≠ w.heap.size + 1 := by omega
        have r0 := blk_cell HR2X.out 0 rfl
        have r1 := blk_cell HR2X.out 1 rfl
        have r2 := blk_cell HR2X.out 2 rfl
        have r3 := blk_cell HR2X.out 3 rfl
        have rf := blk_free HR2X.out
        have q0 := blk_cell HR3X.out 0 rfl
        have q1 := blk_cell HR3X.out 1 rfl
        have q2 := blk_cell HR3X.out 2 rfl
        have q3 := blk_cell HR3X.out 3 rfl
        have qf := blk_free HR3X.out
        have HS := Lib.hid (cells8 HGX.out HBX.out)
        go_region_held3 (fun W => W.cell? ⟨g, 0, none⟩ = some (.slice a1 R.ended.length c1) ∧ W.cell? ⟨g, 1, none⟩ = some (.slice a2 R.trace.length c2) ∧ W.cell? ⟨g, 2, none⟩ = some (.slice a3 R.switches.length c3) ∧ W.cell? ⟨g, 3, none⟩ = some (.bool R.high) ∧ W.cell? ⟨B, 0, none⟩ = some (.slice ao' (R.ended.length + 1) c') ∧ W.cell? ⟨B, 1, none⟩ = some (.slice (some ⟨ky, 0, none⟩) R.trace.length uy) ∧ W.cell? ⟨B, 2, none⟩ = some (.slice (some ⟨kz, 0, none⟩) R.switches.length uz) ∧ W.cell? ⟨B, 3, none⟩ = some (.bool R.high))
          (first | with_reducible exact keepR0 HGX.out HBX.out | with_reducible exact keepR1 HGX.out HBX.out n1 n3 | with_reducible exact keepR2 HGX.out HBX.out n1 n3 n2 n4)
          (fail)
        go_wp2
        clear HS
        refine bodyPost_ret (v := .tuple #[rnVal a1 R.ended.length c1 a2 R.trace.length c2 a3 R.switches.length c3 R.high, .agg #[.slice ao' (R.ended.length + 1) c', .slice (some ⟨ky, 0, none⟩) R.trace.length uy, .slice (some ⟨kz, 0, none⟩) R.switches.length uz, .bool R.high]]) (by simp [results, Tryd.results20, go_sem, r0, r1, r2, r3, q0, q1, q2, q3]) rfl ?_
        exact ⟨R, ⟨R.ended ++ [3], R.trace, R.switches, R.high⟩, a1, c1, a2, c2, a3, c3, ao', c', some ⟨ky, 0, none⟩, uy, some ⟨kz, 0, none⟩, uz, by simp, ((own_set4 (own_set4 A1.out (by simp only [World.size_alloc]; omega)) (by simp only [World.size_alloc]; omega)).bw (bw_drew _)).mono (by simp only [World.size_alloc]; omega), ((own_set4 (own_set4 A2.out (by simp only [World.size_alloc]; omega)) (by simp only [World.size_alloc]; omega)).bw (bw_drew _)).mono (by simp only [World.size_alloc]; omega), ((own_set4 (own_set4 A3.out (by simp only [World.size_alloc]; omega)) (by simp only [World.size_alloc]; omega)).bw (bw_drew _)).mono (by simp only [World.size_alloc]; omega), ((own_set4 (own_set4 PX.out (by omega)) (by omega)).bw (bw_drew _)).mono (by omega), ((own_set4 (own_set4 PY.out (by omega)) (by omega)).bw (bw_drew _)).mono (by omega), ((own_set4 (own_set4 PZ.out (by omega)) (by omega)).bw (bw_drew _)).mono (by omega), HRB.out.b3, HBT.out, bw_trans (dr_set4 (dr_set4 hwx (Nat.le_refl _)) (by omega)) (bw_drew _)⟩
      · go_wp2_with fail
        have hBW : W1.heap.size ≤ B := hB0
        have hBx := HBX.out
        have hbx := hW3
        have px := Own.ofRow GX.out
        have py := Own.ofRow GY.out
        have pz := Own.ofRow GZ.out
        have hbt : RunB3 ⟨R.ended, R.trace, R.switches, R.high⟩ := HRB.out.b3
        clear t0 t1 t2 t3 tf HBX
        have HBX := Lib.hid (show (w3).heap[B]? = some (.cells #[.slice (some ⟨kx, 0, none⟩) R.ended.length ux, .slice (some ⟨ky, 0, none⟩) R.trace.length uy, .slice (some ⟨kz, 0, none⟩) R.switches.length uz, .bool R.high] 25 (0, 0)) from hBx)
        have HGX := Lib.hid (blk_bw hbx HSRC.out)
        have HR2X := Lib.hid (blk_bw hbx HR2.out)
        have HR3X := Lib.hid (blk_bw hbx HR3.out)
        have A1 := Lib.hid ((O1.out.bw hbw1).bw hbx)
        have A2 := Lib.hid ((O2.out.bw hbw1).bw hbx)
        have A3 := Lib.hid ((O3.out.bw hbw1).bw hbx)
        have hwx := bw_trans hwW hbx
        have PX := Lib.hid px
        have PY := Lib.hid py
        have PZ := Lib.hid pz
        have HBT := Lib.hid hbt
        clear px py pz hbt
        clear hBx
        generalize hWx : w3 = Wx at *
        have n1 : g ≠ w.heap.size := by omega
        have n2 : g ≠ w.heap.size + 1 := by omega
        have n3 : B ≠ w.heap.size := by omega
        have n4 : B ≠ w.heap.size + 1 := by omega
        have r0 := blk_cell HR2X.out 0 rfl
        have r1 := blk_cell HR2X.out 1 rfl
        have r2 := blk_cell HR2X.out 2 rfl
        have r3 := blk_cell HR2X.out 3 rfl
        have rf := blk_free HR2X.out
        have q0 := blk_cell HR3X.out 0 rfl
        have q1 := blk_cell HR3X.out 1 rfl
        have q2 := blk_cell HR3X.out 2 rfl
        have q3 := blk_cell HR3X.out 3 rfl
        have qf := blk_free HR3X.out
        have HS := Lib.hid (cells8 HGX.out HBX.out)
        go_region_held3 (fun W => W.cell? ⟨g, 0, none⟩ = some (.slice a1 R.ended.length c1) ∧ W.cell? ⟨g, 1, none⟩ = some (.slice a2 R.trace.length c2) ∧ W.cell? ⟨g, 2, none⟩ = some (.slice a3 R.switches.length c3) ∧ W.cell? ⟨g, 3, none⟩ = some (.bool R.high) ∧ W.cell? ⟨B, 0, none⟩ = some (.slice (some ⟨kx, 0, none⟩) R.ended.length ux) ∧ W.cell? ⟨B, 1, none⟩ = some (.slice (some ⟨ky, 0, none⟩) R.trace.length uy) ∧ W.cell? ⟨B, 2, none⟩ = some (.slice (some ⟨kz, 0, none⟩) R.switches.length uz) ∧ W.cell? ⟨B, 3, none⟩ = some (.bool R.high))
          (first | with_reducible exact keepR0 HGX.out HBX.out | with_reducible exact keepR1 HGX.out HBX.out n1 n3 | with_reducible exact keepR2 HGX.out HBX.out n1 n3 n2 n4)
          (fail)
        go_wp2
        clear HS
        refine bodyPost_ret (v := .tuple #[rnVal a1 R.ended.length c1 a2 R.trace.length c2 a3 R.switches.length c3 R.high, .agg #[.slice (some ⟨kx, 0, none⟩) R.ended.length ux, .slice (some ⟨ky, 0, none⟩) R.trace.length uy, .slice (some ⟨kz, 0, none⟩) R.switches.length uz, .bool R.high]]) (by simp [results, Tryd.results20, go_sem, r0, r1, r2, r3, q0, q1, q2, q3]) rfl ?_
        exact ⟨R, ⟨R.ended, R.trace, R.switches, R.high⟩, a1, c1, a2, c2, a3, c3, some ⟨kx, 0, none⟩, ux, some ⟨ky, 0, none⟩, uy, some ⟨kz, 0, none⟩, uz, rfl, ((own_set4 (own_set4 A1.out (by simp only [World.size_alloc]; omega)) (by simp only [World.size_alloc]; omega)).bw (bw_drew _)).mono (by simp only [World.size_alloc]; omega), ((own_set4 (own_set4 A2.out (by simp only [World.size_alloc]; omega)) (by simp only [World.size_alloc]; omega)).bw (bw_drew _)).mono (by simp only [World.size_alloc]; omega), ((own_set4 (own_set4 A3.out (by simp only [World.size_alloc]; omega)) (by simp only [World.size_alloc]; omega)).bw (bw_drew _)).mono (by simp only [World.size_alloc]; omega), ((own_set4 (own_set4 PX.out (by omega)) (by omega)).bw (bw_drew _)).mono (by omega), ((own_set4 (own_set4 PY.out (by omega)) (by omega)).bw (bw_drew _)).mono (by omega), ((own_set4 (own_set4 PZ.out (by omega)) (by omega)).bw (bw_drew _)).mono (by omega), HRB.out.b3, HBT.out, bw_trans (dr_set4 (dr_set4 hwx (Nat.le_refl _)) (by omega)) (bw_drew _)⟩
  · left
    refine ⟨fun _ => undef, rfl, rfl, rfl, bw_drew _, fun i hi hl => ?_, fun i j hi hj hl => ?_⟩
    · exact (repl_false hi hl).elim
    · exact (repl_false hi hl).elim
end Go.Proofs.YtaadlgpglfpmpaaDoor
