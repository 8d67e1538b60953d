import Derived.Test.YtaadlgpglfpmpaaDoorMem
import Derived.Test.YtaadlgpglfpmpaaDoorGC
import Derived.Test.YtaadlgpglfpmpaaDoorGF
import Derived.Maps.AppendAt
import Derived.Test.YtaadlgpglfpmpaaDoorGI
import Derived.BigRegion
import Derived.Deep.DeepCutAuto
import Derived.Deep.CutRange
import Derived.Outline
import Derived.Deep.CutBlock

/-
  The memory of the reference's run: its rows, its record, and what one step may turn. No condition.
-/




namespace Go.Proofs.YtaadlgpglfpmpaaDoor
open Go.RowKit

theorem infoWork : (Tryd.prog.info? 108).map (fun i => (i.zero, i.size, i.bytes)) = some (some (.agg #[.int .i64 0, .int .i64 0]), 2, 16) := by kernel_rfl
def zWork : Value := .agg #[.int .i64 0, .int .i64 0]
/-- Pairs as cells. -/
def wks : List (Nat × Int) → List Value
  | [] => []
  | (i, x) :: l => vi i :: vi x :: wks l
theorem wks_len : ∀ l, (wks l).length = l.length * 2
  | [] => rfl
  | (i, x) :: l => by simp only [wks, List.length_cons, wks_len l]; omega
theorem wks_append : ∀ a b, wks (a ++ b) = wks a ++ wks b
  | [], _ => rfl
  | (i, x) :: a, b => by simp only [List.cons_append, wks, wks_append a b]
theorem wks_get : ∀ {l : List (Nat × Int)} {p i : Nat} {x : Int}, l[p]? = some (i, x) → (wks l)[p * 2]? = some (vi i) ∧ (wks l)[p * 2 + 1]? = some (vi x)
  | [], _, _, _, h => by simp at h
  | (a, b) :: l, 0, i, x, h => by simp at h; obtain ⟨rfl, rfl⟩ := h; exact ⟨rfl, rfl⟩
  | (a, b) :: l, p + 1, i, x, h => by
    have := wks_get (l := l) (p := p) (by simpa using h)
    rw [show (p + 1) * 2 = p * 2 + 1 + 1 by omega, wks]
    simpa using this
theorem wks_set : ∀ {l : List (Nat × Int)} {p i : Nat} {x : Int}, l[p]? = some (i, x) → ∀ y : Int, wks (l.set p (i, y)) = (wks l).set (p * 2 + 1) (vi y)
  | [], _, _, _, h, _ => by simp at h
  | (a, b) :: l, 0, i, x, h, y => by simp at h; obtain ⟨rfl, rfl⟩ := h; rfl
  | (a, b) :: l, p + 1, i, x, h, y => by
    rw [show (p + 1) * 2 + 1 = (p * 2 + 1) + 1 + 1 by omega]
    simp only [List.set_cons_succ, wks, wks_set (l := l) (p := p) (by simpa using h) y]
theorem wks_take : ∀ (l : List (Nat × Int)) (n : Nat), wks (l.take n) = (wks l).take (n * 2)
  | [], n => by simp [wks]
  | (a, b) :: l, 0 => by simp [wks]
  | (a, b) :: l, n + 1 => by
    rw [show (n + 1) * 2 = n * 2 + 1 + 1 by omega]
    simp only [List.take_succ_cons, wks, wks_take l n]
theorem wks_drop : ∀ (l : List (Nat × Int)) (n : Nat), wks (l.drop n) = (wks l).drop (n * 2)
  | [], n => by simp [wks]
  | (a, b) :: l, 0 => by simp [wks]
  | (a, b) :: l, n + 1 => by
    rw [show (n + 1) * 2 = n * 2 + 1 + 1 by omega]
    simp only [List.drop_succ_cons, wks, wks_drop l n]
theorem wks_one : ∀ (l : List (Nat × Int)), ∀ u ∈ wks l, u.oneCell' = true
  | [], u, h => by simp [wks] at h
  | (a, b) :: l, u, h => by
    simp only [wks, List.mem_cons] at h
    rcases h with rfl | rfl | h
    · rfl
    · rfl
    · exact wks_one l u h

/-! ### What may turn -/

/-- Of what was there only these blocks may have turned. -/
structure Turn (L : List (Option Nat)) (w w' : World) : Prop where
  os : w'.os = w.os
  tape : w'.tape = w.tape
  output : w'.output = w.output
  size : w.heap.size ≤ w'.heap.size
  block : ∀ g, g < w.heap.size → some g ∉ L → w'.heap[g]? = w.heap[g]?
theorem Turn.bw {L : List (Option Nat)} {w w' : World} (h : Bw w w') : Turn L w w' := ⟨h.os, h.tape, h.output, h.size, fun g hg _ => h.block g hg⟩
theorem Turn.refl (L : List (Option Nat)) (w : World) : Turn L w w := Turn.bw (Bw.refl _)
theorem Turn.trans {L L' : List (Option Nat)} {w a b : World} (h : Turn L w a) (h' : Turn L' a b) (hL : ∀ g, some g ∈ L' → some g ∈ L ∨ w.heap.size ≤ g) : Turn L w b :=
  ⟨h'.os.trans h.os, h'.tape.trans h.tape, h'.output.trans h.output, Nat.le_trans h.size h'.size, fun g hg hn => by
    rw [h'.block g (Nat.lt_of_lt_of_le hg h.size) (fun hm => (hL g hm).elim hn (fun h1 => by omega)), h.block g hg hn]⟩
theorem Turn.below {L : List (Option Nat)} {w0 w w' : World} (hb : Bw w0 w) (h : Turn L w w') (hL : ∀ g, some g ∈ L → w0.heap.size ≤ g) : Bw w0 w' :=
  ⟨h.os.trans hb.os, h.tape.trans hb.tape, h.output.trans hb.output, Nat.le_trans hb.size h.size, fun g hg => by
    rw [h.block g (Nat.lt_of_lt_of_le hg hb.size) (fun hm => by have := hL g hm; omega), hb.block g hg]⟩
theorem Turn.grown {w w' : World} {row : Option Nat} (h : w.grownBy w' row) : Turn [row] w w' := ⟨h.os, h.tape, h.output, h.size, fun g hg hn => h.block g hg (fun e => hn (by rw [e]; simp))⟩
theorem Turn.set (w : World) (g j : Nat) (v : Value) : Turn [some g] w (w.setCell ⟨g, j, .none⟩ v) := Turn.grown (grown_set w g j v)
theorem Turn.heap {L : List (Option Nat)} {w w' : World} (h : Turn L w w') {g : Nat} {x : Obj} (hx : w.heap[g]? = some x) (hn : some g ∉ L) : w'.heap[g]? = some x := by
  rw [h.block g (blk_lt hx) hn]; exact hx

/-- An append onto a row of the call's own: where the new one lies. -/
theorem wpList_app {w : World} {ops : Array Oper} {rest : List Oper} {o : Oper} {a : Act} {Q : Exit → Act → World → Prop} (hgd : o.guard = none) (s x : Operand) (t e : TypeId) (i : TypeInfo) (z : Value) (size bytes : Nat)
    (ho : o.op = .call { callee := .builtin .append, args := #[s, x], argTypes := #[t, t] }) (base : Nat) (ht : Tryd.prog.underlying t = some (.slice e)) (hi : Tryd.prog.info? e = some i) (hz : i.zero = some z) (hsize : i.size = size) (hby : i.bytes = bytes) (hzs : z.cells.size = size) (hsz : 0 < size)
    (n : Nat) (v : Value) (xs : List Value) (hs : a.eval s = v) (hown : w.ownsRow base e size v n xs) (A : Addr) (m c : Nat) (news : List Value) (hx : a.eval x = .slice (some A) m c) (hl : news.length = m * size) (hnews : ∀ j u, news[j]? = some u → w.cell? (A.add j) = some u) (h1 : ∀ u ∈ news, u.oneCell' = true)
    (h63 : n + m ≤ maxLen) (hbytes : (n + m) * bytes ≤ 140737488355328) (hbase : base ≤ w.heap.size)
    (h : ∀ ao c w', w'.ownsRow base e size (.slice ao (n + m) c) (n + m) (xs ++ news) → w.grownBy w' v.ownBlock → ((Value.slice ao (n + m) c).ownBlock = v.ownBlock ∨ (Value.slice ao (n + m) c).ownBlock = some w.heap.size) → wpList Tryd.prog ops Q rest (a.put o.dst (.slice ao (n + m) c)) w') :
    wpList Tryd.prog ops Q (o :: rest) a w := by
  refine wpList_plain hgd fun _ hK => ?_
  obtain ⟨v', w', hr, h2, h3, _, hw⟩ := run_append_own_at (P := Tryd.prog) w base t o.type e i z size bytes ht hi hz hsize hby hzs hsz v n xs hown A m c news hl hnews h1 h63 hbytes hbase
  obtain ⟨ao, c', rfl⟩ := own_form h2
  unfold Oper.wp execOp
  simp only [ho, resolve, invoke, builtin, Sem.run_bind, Sem.run_pure, Result.andThen_ok, List.map_toArray, List.map_cons, List.map_nil, hs, hx, hr]
  exact hK _ _ (h ao c' w' h2 h3 hw)
/-- A cell of a row of the call's own is turned. -/
theorem row_set {w : World} {base E size n : Nat} {ao : Option Addr} {c : Nat} {xs : List Value} (h : w.ownsRow base E size (.slice ao n c) n xs) {j : Nat} {old : Value} (hj : xs[j]? = some old) (v : Value) : ∃ g, ao = some ⟨g, 0, .none⟩ ∧ base ≤ g ∧ g < w.heap.size ∧ w.cell? ⟨g, j, .none⟩ = some old ∧ w.frozen? ⟨g, j, .none⟩ = false ∧ (w.setCell ⟨g, j, .none⟩ v).ownsRow base E size (.slice ao n c) n (xs.set j v) := by
  have hjl := (List.getElem?_eq_some_iff.1 hj).1
  rcases h with ⟨hl, h⟩
  rcases h with ⟨_, h0⟩ | ⟨g, cap, cur, e, hb, hg, hnc, hcm, hcs, ht⟩
  · subst h0; omega
  · simp only [Value.slice.injEq] at e
    obtain ⟨rfl, _, rfl⟩ := e
    refine ⟨g, rfl, hb, blk_lt hg, ?_, blk_free hg j, ⟨by simp [hl], .inr ⟨g, c, cur.setIfInBounds j v, rfl, hb, blk_set hg j v, hnc, hcm, by simp [hcs], ?_⟩⟩⟩
    · refine blk_cell hg j ?_
      rw [← Array.getElem?_toList]
      rw [← ht, List.getElem?_take] at hj
      split at hj
      · exact hj
      · simp at hj
    · rw [Array.toList_setIfInBounds, List.take_set, ht]

/-! ### The rows of a run, its record in block B of the callee's own -/

abbrev rowsL (vE vT vS vW vK : Value) : List (Option Nat) := [vE.ownBlock, vT.ownBlock, vS.ownBlock, vW.ownBlock, vK.ownBlock]
structure Rows (w0 wr : World) (vE vT vS vW vK : Value) (s : St) (ks : List (Nat × Int)) : Prop where
  bw : Bw w0 wr
  e : wr.ownsRow w0.heap.size 3 1 vE s.ended.length (ints s.ended)
  t : wr.ownsRow w0.heap.size 3 1 vT s.trace.length (ints s.trace)
  sw : wr.ownsRow w0.heap.size 3 1 vS s.switches.length (ints s.switches)
  k : wr.ownsRow w0.heap.size 108 2 vW s.left.length (wks (wk s.done s.left))
  q : wr.ownsRow w0.heap.size 108 2 vK ks.length (wks ks)
  dj : Dj (rowsL vE vT vS vW vK)

section
variable {w0 w wr : World} {L : List (Option Nat)} {B nx : Nat} {vE vT vS vW vK : Value} {x : Fr} {s : St} {ks : List (Nat × Int)}

theorem Rows.old (h : Rows w0 wr vE vT vS vW vK s ks) {g : Nat} (hg : some g ∈ rowsL vE vT vS vW vK) : w0.heap.size ≤ g ∧ g < wr.heap.size := by
  simp only [List.mem_cons, List.not_mem_nil, or_false] at hg
  rcases hg with hg | hg | hg | hg | hg
  · exact h.e.lt g hg.symm
  · exact h.t.lt g hg.symm
  · exact h.sw.lt g hg.symm
  · exact h.k.lt g hg.symm
  · exact h.q.lt g hg.symm
theorem Rows.on {w' : World} (h : Rows w0 wr vE vT vS vW vK s ks) (hb : Bw wr w') : Rows w0 w' vE vT vS vW vK s ks := by
  have kp := fun {base Et size n : Nat} {v : Value} {xs : List Value} (h : wr.ownsRow base Et size v n xs) => row_keep h (grown_bw hb) (fun g e => by cases e)
  exact ⟨bw_trans h.bw hb, kp h.e, kp h.t, kp h.sw, kp h.k, kp h.q, h.dj⟩
/-- Another block has turned. -/
theorem Rows.turn {w' : World} (h : Rows w0 wr vE vT vS vW vK s ks) {b : Nat} (hg : wr.grownBy w' (some b)) (hb : w0.heap.size ≤ b) (hn : some b ∉ rowsL vE vT vS vW vK) : Rows w0 w' vE vT vS vW vK s ks := by
  have hno : ∀ v : Value, v.ownBlock ∈ rowsL vE vT vS vW vK → ∀ g, some b = some g → v.ownBlock ≠ some g := fun v hv g e hx => hn (by rw [e, ← hx]; exact hv)
  exact ⟨bw_grown h.bw hg (fun g e => by simp at e; subst e; exact hb), row_keep h.e hg (hno _ (by simp)), row_keep h.t hg (hno _ (by simp)), row_keep h.sw hg (hno _ (by simp)), row_keep h.k hg (hno _ (by simp)), row_keep h.q hg (hno _ (by simp)), h.dj⟩
/-- One of the rows has turned: the others stand. -/
theorem Rows.others {w' : World} (h : Rows w0 wr vE vT vS vW vK s ks) (j : Nat) {row : Option Nat} (hj : (rowsL vE vT vS vW vK)[j]? = some row) (hg : wr.grownBy w' row) :
    Bw w0 w' ∧ (j ≠ 0 → w'.ownsRow w0.heap.size 3 1 vE s.ended.length (ints s.ended)) ∧ (j ≠ 1 → w'.ownsRow w0.heap.size 3 1 vT s.trace.length (ints s.trace)) ∧ (j ≠ 2 → w'.ownsRow w0.heap.size 3 1 vS s.switches.length (ints s.switches)) ∧
      (j ≠ 3 → w'.ownsRow w0.heap.size 108 2 vW s.left.length (wks (wk s.done s.left))) ∧ (j ≠ 4 → w'.ownsRow w0.heap.size 108 2 vK ks.length (wks ks)) := by
  have hbw : Bw w0 w' := bw_grown h.bw hg (fun g e => by subst e; exact (h.old (List.mem_of_getElem? hj)).1)
  have hno : ∀ (i : Nat) (v : Value), (rowsL vE vT vS vW vK)[i]? = some v.ownBlock → j ≠ i → ∀ g, row = some g → v.ownBlock ≠ some g := fun i v hi hne g e hx => by subst e; exact hne (h.dj j i g hj (by rw [hi, hx]))
  exact ⟨hbw, fun n => row_keep h.e hg (hno 0 _ rfl n), fun n => row_keep h.t hg (hno 1 _ rfl n), fun n => row_keep h.sw hg (hno 2 _ rfl n), fun n => row_keep h.k hg (hno 3 _ rfl n), fun n => row_keep h.q hg (hno 4 _ rfl n)⟩
theorem Rows.fresh (h : Rows w0 wr vE vT vS vW vK s ks) {x old : Option Nat} (hx : x = old ∨ x = some wr.heap.size) : x = old ∨ x = .none ∨ ∃ g : Nat, x = some g ∧ ∀ i : Nat, (rowsL vE vT vS vW vK)[i]? ≠ some (some g) := by
  rcases hx with h1 | h1
  · exact .inl h1
  · exact .inr (.inr ⟨_, h1, fun i hi => by have := (h.old (List.mem_of_getElem? hi)).2; omega⟩)

/-- The record lies in B, a block of the callee's own (the callee began in w); of what was there then only L may have turned. -/
structure SM (w0 w wr : World) (L : List (Option Nat)) (B nx : Nat) (vE vT vS vW vK : Value) (x : Fr) (s : St) (ks : List (Nat × Int)) : Prop where
  rows : Rows w0 wr vE vT vS vW vK s ks
  box : wr.heap[B]? = some (.cells #[vE, vT, vS, .bool s.high, vW, .int .i64 nx, .int .i64 x.p, .int .i64 x.q] 81 (0, 0))
  nb : some B ∉ rowsL vE vT vS vW vK
  turn : Turn L w wr
  inL : ∀ g, some g ∈ rowsL vE vT vS vW vK → some g ∈ L ∨ w.heap.size ≤ g
  lo : some B ∈ L ∨ w.heap.size ≤ B
  lo0 : w0.heap.size ≤ B

theorem SM.on {w' : World} (h : SM w0 w wr L B nx vE vT vS vW vK x s ks) (hb : Bw wr w') : SM w0 w w' L B nx vE vT vS vW vK x s ks :=
  ⟨h.rows.on hb, blk_bw hb h.box, h.nb, h.turn.trans (L' := []) (Turn.bw hb) (fun g hg => by simp at hg), h.inL, h.lo, h.lo0⟩
/-- A field of the record is turned. -/
theorem SM.field {nx' : Nat} {s' : St} (h : SM w0 w wr L B nx vE vT vS vW vK x s ks) (j : Nat) (v : Value) (hs : s'.ended = s.ended ∧ s'.trace = s.trace ∧ s'.switches = s.switches ∧ s'.left = s.left ∧ s'.done = s.done)
    (hv : (#[vE, vT, vS, .bool s.high, vW, .int .i64 nx, .int .i64 x.p, .int .i64 x.q] : Array Value).setIfInBounds j v = #[vE, vT, vS, .bool s'.high, vW, .int .i64 nx', .int .i64 x.p, .int .i64 x.q]) : SM w0 w (wr.setCell ⟨B, j, .none⟩ v) L B nx' vE vT vS vW vK x s' ks := by
  obtain ⟨h1, h2, h3, h4, h5⟩ := hs
  have hr := h.rows.turn (grown_set wr B j v) h.lo0 h.nb
  refine ⟨⟨hr.bw, by rw [h1]; exact hr.e, by rw [h2]; exact hr.t, by rw [h3]; exact hr.sw, by rw [h4, h5]; exact hr.k, hr.q, hr.dj⟩, by rw [← hv]; exact blk_set h.box j v, h.nb, h.turn.trans (Turn.set wr B j v) (fun g hg => by simp at hg; subst hg; exact h.lo), h.inL, h.lo, h.lo0⟩
theorem SM.setHigh (h : SM w0 w wr L B nx vE vT vS vW vK x s ks) (b : Bool) : SM w0 w (wr.setCell ⟨B, 3, .none⟩ (.bool b)) L B nx vE vT vS vW vK x { s with high := b } ks := h.field 3 _ ⟨rfl, rfl, rfl, rfl, rfl⟩ (by simp)
theorem SM.setNext (h : SM w0 w wr L B nx vE vT vS vW vK x s ks) (n : Nat) : SM w0 w (wr.setCell ⟨B, 5, .none⟩ (.int .i64 n)) L B n vE vT vS vW vK x s ks := h.field 5 _ ⟨rfl, rfl, rfl, rfl, rfl⟩ (by simp)
theorem SM.box_grown {w' : World} {row : Option Nat} (h : SM w0 w wr L B nx vE vT vS vW vK x s ks) (hm : row ∈ rowsL vE vT vS vW vK) (hg : wr.grownBy w' row) : w'.heap[B]? = some (.cells #[vE, vT, vS, .bool s.high, vW, .int .i64 nx, .int .i64 x.p, .int .i64 x.q] 81 (0, 0)) :=
  heap_grown hg h.box (fun e => h.nb (by rw [← e]; exact hm))
theorem SM.turn_row {w' : World} {row : Option Nat} (h : SM w0 w wr L B nx vE vT vS vW vK x s ks) (hm : row ∈ rowsL vE vT vS vW vK) (hg : wr.grownBy w' row) : Turn L w w' :=
  h.turn.trans (Turn.grown hg) (fun g hg' => by simp at hg'; subst hg'; exact h.inL g hm)
/-- When a job ended is told. -/
theorem SM.setEnded (h : SM w0 w wr L B nx vE vT vS vW vK x s ks) {i : Nat} {old : Int} (hi : s.ended[i]? = some old) (y : Int) : ∃ g c, vE = .slice (some ⟨g, 0, .none⟩) s.ended.length c ∧ g < wr.heap.size ∧ wr.cell? ⟨g, i, .none⟩ = some (vi old) ∧ wr.frozen? ⟨g, i, .none⟩ = false ∧
    SM w0 w (wr.setCell ⟨g, i, .none⟩ (vi y)) L B nx vE vT vS vW vK x { s with ended := s.ended.set i y } ks := by
  obtain ⟨ao, c, e⟩ := own_form h.rows.e
  have he := h.rows.e
  rw [e] at he
  obtain ⟨g, rfl, hb, hl, hc, hf, hs⟩ := row_set he (ints_get _ i old hi) (vi y)
  have hm : (some g : Option Nat) = vE.ownBlock := by rw [e]; rfl
  have hgr := grown_set wr g i (vi y)
  have hmem : (some g : Option Nat) ∈ rowsL vE vT vS vW vK := by simp [hm]
  obtain ⟨o1, _, o3, o4, o5, o6⟩ := h.rows.others 0 (row := some g) (by rw [hm]; rfl) hgr
  refine ⟨g, c, e, hl, hc, hf, ⟨⟨o1, by simpa [ints_set, e] using hs, o3 (by omega), o4 (by omega), o5 (by omega), o6 (by omega), h.rows.dj⟩, h.box_grown hmem hgr, h.nb, h.turn_row hmem hgr, h.inL, h.lo, h.lo0⟩⟩
/-- What was done of a job is told. -/
theorem SM.setWork (h : SM w0 w wr L B nx vE vT vS vW vK x s ks) {p i : Nat} {d : Int} (hp : s.left[p]? = some i) (hd : s.done[i]? = some d) (hq : s.left.Pairwise (· < ·)) (y : Int) : ∃ g c, vW = .slice (some ⟨g, 0, .none⟩) s.left.length c ∧ s.left.length ≤ c ∧ g < wr.heap.size ∧ wr.cell? ⟨g, p * 2, .none⟩ = some (vi i) ∧ wr.cell? ⟨g, p * 2 + 1, .none⟩ = some (vi d) ∧ wr.frozen? ⟨g, p * 2 + 1, .none⟩ = false ∧
    SM w0 w (wr.setCell ⟨g, p * 2 + 1, .none⟩ (vi y)) L B nx vE vT vS vW vK x { s with done := s.done.set i y } ks := by
  obtain ⟨ao, c, e⟩ := own_form h.rows.k
  have he := h.rows.k
  rw [e] at he
  have hw := wk_get hp hd
  obtain ⟨g, rfl, hb, hl, hc, hf, hs⟩ := row_set he (wks_get hw).2 (vi y)
  obtain ⟨g', e', _, _, hc0, _, _⟩ := row_set he (wks_get hw).1 (vi y)
  simp only [Option.some.injEq, Addr.mk.injEq] at e'
  obtain ⟨rfl, _, _⟩ := e'
  have hcap : s.left.length ≤ c := by
    rcases he.2 with ⟨e2, h0⟩ | ⟨_, cap, _, e2, _, _, h2, _⟩
    · simp at e2
    · simp at e2; omega
  have hm : (some g : Option Nat) = vW.ownBlock := by rw [e]; rfl
  have hgr := grown_set wr g (p * 2 + 1) (vi y)
  have hmem : (some g : Option Nat) ∈ rowsL vE vT vS vW vK := by simp [hm]
  obtain ⟨o1, o2, o3, o4, _, o6⟩ := h.rows.others 3 (row := some g) (by rw [hm]; rfl) hgr
  have hwk : wks (wk (s.done.set i y) s.left) = (wks (wk s.done s.left)).set (p * 2 + 1) (vi y) := by rw [wk_set hq hp (List.getElem?_eq_some_iff.1 hd).1, wks_set hw]
  refine ⟨g, c, e, hcap, hl, hc0, hc, hf, ⟨⟨o1, o2 (by omega), o3 (by omega), o4 (by omega), by simpa [hwk, e] using hs, o6 (by omega), h.rows.dj⟩, h.box_grown hmem hgr, h.nb, h.turn_row hmem hgr, h.inL, h.lo, h.lo0⟩⟩
/-- Reading what is left. -/
theorem Rows.cellW (h : Rows w0 wr vE vT vS vW vK s ks) {p i : Nat} {d : Int} (hp : s.left[p]? = some i) (hd : s.done[i]? = some d) : ∃ g c, vW = .slice (some ⟨g, 0, .none⟩) s.left.length c ∧ s.left.length ≤ c ∧ g < wr.heap.size ∧ wr.cell? ⟨g, p * 2, .none⟩ = some (vi i) ∧ wr.cell? ⟨g, p * 2 + 1, .none⟩ = some (vi d) := by
  obtain ⟨ao, c, e⟩ := own_form h.k
  have he := h.k
  rw [e] at he
  have hw := wk_get hp hd
  obtain ⟨g, rfl, hb, hl, hc, hf, hs⟩ := row_set he (wks_get hw).2 (vi 0)
  obtain ⟨g', e', _, _, hc0, _, _⟩ := row_set he (wks_get hw).1 (vi 0)
  simp only [Option.some.injEq, Addr.mk.injEq] at e'
  obtain ⟨rfl, _, _⟩ := e'
  have hcap : s.left.length ≤ c := by
    rcases he.2 with ⟨e2, h0⟩ | ⟨_, cap, _, e2, _, _, h2, _⟩
    · simp at e2
    · simp at e2; omega
  exact ⟨g, c, e, hcap, hl, hc0, hc⟩
theorem SM.fresh_in (h : SM w0 w wr L B nx vE vT vS vW vK x s ks) {v : Value} {ao : Option Addr} {n c : Nat} (hv : v.ownBlock ∈ rowsL vE vT vS vW vK) (hw : (Value.slice ao n c).ownBlock = v.ownBlock ∨ (Value.slice ao n c).ownBlock = some wr.heap.size) {g : Nat} (hg : some g = (Value.slice ao n c).ownBlock) : (some g ∈ L ∨ w.heap.size ≤ g) ∧ g ≠ B := by
  rcases hw with h1 | h1
  · rw [h1] at hg
    refine ⟨h.inL g (by rw [hg]; exact hv), fun e => h.nb (by rw [← e, hg]; exact hv)⟩
  · rw [h1] at hg; simp at hg; subst hg
    have := blk_lt h.box
    exact ⟨.inr h.turn.size, by omega⟩

theorem SM.app_e {w' : World} {ao : Option Addr} {c : Nat} {y : Int} {u : Value} (_h0 : True) (h : SM w0 w wr L B nx vE vT vS vW vK x s ks) (hu : u = .slice ao (s.ended.length + 1) c) (hown : w'.ownsRow w0.heap.size 3 1 u (s.ended.length + 1) (ints (s.ended ++ [y]))) (hg : wr.grownBy w' vE.ownBlock) (hw : u.ownBlock = vE.ownBlock ∨ u.ownBlock = some wr.heap.size) :
    w'.heap[B]? = some (.cells #[vE, vT, vS, .bool s.high, vW, .int .i64 nx, .int .i64 x.p, .int .i64 x.q] 81 (0, 0)) ∧ SM w0 w (w'.setCell ⟨B, 0, .none⟩ u) L B nx u vT vS vW vK x { s with ended := s.ended ++ [y] } ks := by
  obtain ⟨o1, o2, o3, o4, o5, o6⟩ := h.rows.others 0 (row := vE.ownBlock) rfl hg
  have hdj := h.rows.dj.set 0 rfl (h.rows.fresh hw)
  have hmem : vE.ownBlock ∈ rowsL vE vT vS vW vK := by simp
  have hnew : ∀ g, some g = u.ownBlock → (some g ∈ L ∨ w.heap.size ≤ g) ∧ g ≠ B := fun g e => by subst hu; exact h.fresh_in hmem hw e
  have hb := h.box_grown hmem hg
  have hin : ∀ g, some g ∈ rowsL u vT vS vW vK → (some g ∈ L ∨ w.heap.size ≤ g) ∧ g ≠ B := fun g hg' => by
    have old : some g ∈ rowsL vE vT vS vW vK → (some g ∈ L ∨ w.heap.size ≤ g) ∧ g ≠ B := fun m => ⟨h.inL g m, fun e => h.nb (by rw [← e]; exact m)⟩
    simp only [List.mem_cons, List.not_mem_nil, or_false] at hg' old
    rcases hg' with e | e | e | e | e <;> first | exact hnew g e | exact old (by simp [e])
  have hnb : some B ∉ rowsL u vT vS vW vK := fun m => (hin B m).2 rfl
  have hr : Rows w0 w' u vT vS vW vK { s with ended := s.ended ++ [y] } ks := ⟨o1, (by simpa using hown), (o3 (by omega)), (o4 (by omega)), (o5 (by omega)), (o6 (by omega)), hdj⟩
  have hgs := grown_set w' B 0 u
  refine ⟨hb, ⟨hr.turn hgs h.lo0 hnb, by simpa using blk_set hb 0 u, hnb, (h.turn_row hmem hg).trans (Turn.grown hgs) (fun g e => by simp at e; subst e; exact h.lo), fun g m => (hin g m).1, h.lo, h.lo0⟩⟩
theorem SM.app_t {w' : World} {ao : Option Addr} {c : Nat} {y : Int} {u : Value} (_h0 : True) (h : SM w0 w wr L B nx vE vT vS vW vK x s ks) (hu : u = .slice ao (s.trace.length + 1) c) (hown : w'.ownsRow w0.heap.size 3 1 u (s.trace.length + 1) (ints (s.trace ++ [y]))) (hg : wr.grownBy w' vT.ownBlock) (hw : u.ownBlock = vT.ownBlock ∨ u.ownBlock = some wr.heap.size) :
    w'.heap[B]? = some (.cells #[vE, vT, vS, .bool s.high, vW, .int .i64 nx, .int .i64 x.p, .int .i64 x.q] 81 (0, 0)) ∧ SM w0 w (w'.setCell ⟨B, 1, .none⟩ u) L B nx vE u vS vW vK x { s with trace := s.trace ++ [y] } ks := by
  obtain ⟨o1, o2, o3, o4, o5, o6⟩ := h.rows.others 1 (row := vT.ownBlock) rfl hg
  have hdj := h.rows.dj.set 1 rfl (h.rows.fresh hw)
  have hmem : vT.ownBlock ∈ rowsL vE vT vS vW vK := by simp
  have hnew : ∀ g, some g = u.ownBlock → (some g ∈ L ∨ w.heap.size ≤ g) ∧ g ≠ B := fun g e => by subst hu; exact h.fresh_in hmem hw e
  have hb := h.box_grown hmem hg
  have hin : ∀ g, some g ∈ rowsL vE u vS vW vK → (some g ∈ L ∨ w.heap.size ≤ g) ∧ g ≠ B := fun g hg' => by
    have old : some g ∈ rowsL vE vT vS vW vK → (some g ∈ L ∨ w.heap.size ≤ g) ∧ g ≠ B := fun m => ⟨h.inL g m, fun e => h.nb (by rw [← e]; exact m)⟩
    simp only [List.mem_cons, List.not_mem_nil, or_false] at hg' old
    rcases hg' with e | e | e | e | e <;> first | exact hnew g e | exact old (by simp [e])
  have hnb : some B ∉ rowsL vE u vS vW vK := fun m => (hin B m).2 rfl
  have hr : Rows w0 w' vE u vS vW vK { s with trace := s.trace ++ [y] } ks := ⟨o1, (o2 (by omega)), (by simpa using hown), (o4 (by omega)), (o5 (by omega)), (o6 (by omega)), hdj⟩
  have hgs := grown_set w' B 1 u
  refine ⟨hb, ⟨hr.turn hgs h.lo0 hnb, by simpa using blk_set hb 1 u, hnb, (h.turn_row hmem hg).trans (Turn.grown hgs) (fun g e => by simp at e; subst e; exact h.lo), fun g m => (hin g m).1, h.lo, h.lo0⟩⟩
theorem SM.app_s {w' : World} {ao : Option Addr} {c : Nat} {y : Int} {u : Value} (_h0 : True) (h : SM w0 w wr L B nx vE vT vS vW vK x s ks) (hu : u = .slice ao (s.switches.length + 1) c) (hown : w'.ownsRow w0.heap.size 3 1 u (s.switches.length + 1) (ints (s.switches ++ [y]))) (hg : wr.grownBy w' vS.ownBlock) (hw : u.ownBlock = vS.ownBlock ∨ u.ownBlock = some wr.heap.size) :
    w'.heap[B]? = some (.cells #[vE, vT, vS, .bool s.high, vW, .int .i64 nx, .int .i64 x.p, .int .i64 x.q] 81 (0, 0)) ∧ SM w0 w (w'.setCell ⟨B, 2, .none⟩ u) L B nx vE vT u vW vK x { s with switches := s.switches ++ [y] } ks := by
  obtain ⟨o1, o2, o3, o4, o5, o6⟩ := h.rows.others 2 (row := vS.ownBlock) rfl hg
  have hdj := h.rows.dj.set 2 rfl (h.rows.fresh hw)
  have hmem : vS.ownBlock ∈ rowsL vE vT vS vW vK := by simp
  have hnew : ∀ g, some g = u.ownBlock → (some g ∈ L ∨ w.heap.size ≤ g) ∧ g ≠ B := fun g e => by subst hu; exact h.fresh_in hmem hw e
  have hb := h.box_grown hmem hg
  have hin : ∀ g, some g ∈ rowsL vE vT u vW vK → (some g ∈ L ∨ w.heap.size ≤ g) ∧ g ≠ B := fun g hg' => by
    have old : some g ∈ rowsL vE vT vS vW vK → (some g ∈ L ∨ w.heap.size ≤ g) ∧ g ≠ B := fun m => ⟨h.inL g m, fun e => h.nb (by rw [← e]; exact m)⟩
    simp only [List.mem_cons, List.not_mem_nil, or_false] at hg' old
    rcases hg' with e | e | e | e | e <;> first | exact hnew g e | exact old (by simp [e])
  have hnb : some B ∉ rowsL vE vT u vW vK := fun m => (hin B m).2 rfl
  have hr : Rows w0 w' vE vT u vW vK { s with switches := s.switches ++ [y] } ks := ⟨o1, (o2 (by omega)), (o3 (by omega)), (by simpa using hown), (o5 (by omega)), (o6 (by omega)), hdj⟩
  have hgs := grown_set w' B 2 u
  refine ⟨hb, ⟨hr.turn hgs h.lo0 hnb, by simpa using blk_set hb 2 u, hnb, (h.turn_row hmem hg).trans (Turn.grown hgs) (fun g e => by simp at e; subst e; exact h.lo), fun g m => (hin g m).1, h.lo, h.lo0⟩⟩
theorem SM.app_w {w' : World} {ao : Option Addr} {c : Nat} {y : Nat} {u : Value} (hy0 : s.done[y]? = some 0) (h : SM w0 w wr L B nx vE vT vS vW vK x s ks) (hu : u = .slice ao (s.left.length + 1) c) (hown : w'.ownsRow w0.heap.size 108 2 u (s.left.length + 1) (wks (wk s.done s.left) ++ [vi y, .int .i64 0])) (hg : wr.grownBy w' vW.ownBlock) (hw : u.ownBlock = vW.ownBlock ∨ u.ownBlock = some wr.heap.size) :
    w'.heap[B]? = some (.cells #[vE, vT, vS, .bool s.high, vW, .int .i64 nx, .int .i64 x.p, .int .i64 x.q] 81 (0, 0)) ∧ SM w0 w (w'.setCell ⟨B, 4, .none⟩ u) L B nx vE vT vS u vK x { s with left := s.left ++ [y] } ks := by
  obtain ⟨o1, o2, o3, o4, o5, o6⟩ := h.rows.others 3 (row := vW.ownBlock) rfl hg
  have hdj := h.rows.dj.set 3 rfl (h.rows.fresh hw)
  have hmem : vW.ownBlock ∈ rowsL vE vT vS vW vK := by simp
  have hnew : ∀ g, some g = u.ownBlock → (some g ∈ L ∨ w.heap.size ≤ g) ∧ g ≠ B := fun g e => by subst hu; exact h.fresh_in hmem hw e
  have hb := h.box_grown hmem hg
  have hin : ∀ g, some g ∈ rowsL vE vT vS u vK → (some g ∈ L ∨ w.heap.size ≤ g) ∧ g ≠ B := fun g hg' => by
    have old : some g ∈ rowsL vE vT vS vW vK → (some g ∈ L ∨ w.heap.size ≤ g) ∧ g ≠ B := fun m => ⟨h.inL g m, fun e => h.nb (by rw [← e]; exact m)⟩
    simp only [List.mem_cons, List.not_mem_nil, or_false] at hg' old
    rcases hg' with e | e | e | e | e <;> first | exact hnew g e | exact old (by simp [e])
  have hnb : some B ∉ rowsL vE vT vS u vK := fun m => (hin B m).2 rfl
  have hr : Rows w0 w' vE vT vS u vK { s with left := s.left ++ [y] } ks := ⟨o1, (o2 (by omega)), (o3 (by omega)), (o4 (by omega)), (by simpa [wk_append, wks_append, wks, hy0] using hown), (o6 (by omega)), hdj⟩
  have hgs := grown_set w' B 4 u
  refine ⟨hb, ⟨hr.turn hgs h.lo0 hnb, by simpa using blk_set hb 4 u, hnb, (h.turn_row hmem hg).trans (Turn.grown hgs) (fun g e => by simp at e; subst e; exact h.lo), fun g m => (hin g m).1, h.lo, h.lo0⟩⟩
/-- A row beside, empty. -/
theorem SM.new_q (h : SM w0 w wr L B nx vE vT vS vW vK x s ks) : SM w0 w (wr.alloc (.cells #[] 108)) L B nx vE vT vS vW (.slice (some ⟨wr.heap.size, 0, .none⟩) 0 0) x s [] := by
  have h2 := h.on (bw_alloc wr (.cells #[] 108))
  have hin : ∀ g, some g ∈ rowsL vE vT vS vW (.slice (some ⟨wr.heap.size, 0, .none⟩) 0 0) → (some g ∈ L ∨ w.heap.size ≤ g) ∧ g ≠ B := fun g hg' => by
    have old : some g ∈ rowsL vE vT vS vW vK → (some g ∈ L ∨ w.heap.size ≤ g) ∧ g ≠ B := fun m => ⟨h.inL g m, fun e => h.nb (by rw [← e]; exact m)⟩
    simp only [List.mem_cons, List.not_mem_nil, or_false] at hg' old
    rcases hg' with e | e | e | e | e
    · exact old (by simp [e])
    · exact old (by simp [e])
    · exact old (by simp [e])
    · exact old (by simp [e])
    · simp [Value.ownBlock] at e; subst e
      have := blk_lt h.box
      exact ⟨.inr h.turn.size, by omega⟩
  exact ⟨⟨h2.rows.bw, h2.rows.e, h2.rows.t, h2.rows.sw, h2.rows.k, by simpa [wks] using World.ownsRow_made (base := w0.heap.size) (e := 108) (size := 2) wr #[] 0 h.rows.bw.size (by simp) rfl, h.rows.dj.set 4 rfl (h.rows.fresh (.inr rfl))⟩, h2.box, fun m => (hin B m).2 rfl, h2.turn, fun g m => (hin g m).1, h.lo, h.lo0⟩
/-- The row beside grows. -/
theorem SM.app_q {w' : World} {ao : Option Addr} {c : Nat} {i : Nat} {y : Int} {u : Value} (h : SM w0 w wr L B nx vE vT vS vW vK x s ks) (hu : u = .slice ao (ks.length + 1) c) (hown : w'.ownsRow w0.heap.size 108 2 u (ks.length + 1) (wks ks ++ [vi i, vi y])) (hg : wr.grownBy w' vK.ownBlock) (hw : u.ownBlock = vK.ownBlock ∨ u.ownBlock = some wr.heap.size) :
    SM w0 w w' L B nx vE vT vS vW u x s (ks ++ [(i, y)]) := by
  obtain ⟨o1, o2, o3, o4, o5, o6⟩ := h.rows.others 4 (row := vK.ownBlock) rfl hg
  have hdj := h.rows.dj.set 4 rfl (h.rows.fresh hw)
  have hmem : vK.ownBlock ∈ rowsL vE vT vS vW vK := by simp
  have hnew : ∀ g, some g = u.ownBlock → (some g ∈ L ∨ w.heap.size ≤ g) ∧ g ≠ B := fun g e => by subst hu; exact h.fresh_in hmem hw e
  have hb := h.box_grown hmem hg
  have hin : ∀ g, some g ∈ rowsL vE vT vS vW u → (some g ∈ L ∨ w.heap.size ≤ g) ∧ g ≠ B := fun g hg' => by
    have old : some g ∈ rowsL vE vT vS vW vK → (some g ∈ L ∨ w.heap.size ≤ g) ∧ g ≠ B := fun m => ⟨h.inL g m, fun e => h.nb (by rw [← e]; exact m)⟩
    simp only [List.mem_cons, List.not_mem_nil, or_false] at hg' old
    rcases hg' with e | e | e | e | e <;> first | exact hnew g e | exact old (by simp [e])
  exact ⟨⟨o1, o2 (by omega), o3 (by omega), o4 (by omega), o5 (by omega), by simpa [wks_append, wks] using hown, hdj⟩, hb, fun m => (hin B m).2 rfl, h.turn_row hmem hg, fun g m => (hin g m).1, h.lo, h.lo0⟩
/-- The row beside is forgotten. -/
theorem Dj.none4 {a b c d e : Option Nat} (h : Dj [a, b, c, d, e]) : Dj [a, b, c, d, .none] := by
  intro i j g hi hj
  match i, hi with
  | 0, hi => match j, hj with
    | 0, _ => rfl
    | 1, hj => exact h 0 1 g hi hj
    | 2, hj => exact h 0 2 g hi hj
    | 3, hj => exact h 0 3 g hi hj
    | 4, hj => simp at hj
    | n + 5, hj => simp at hj
  | 1, hi => match j, hj with
    | 0, hj => exact h 1 0 g hi hj
    | 1, _ => rfl
    | 2, hj => exact h 1 2 g hi hj
    | 3, hj => exact h 1 3 g hi hj
    | 4, hj => simp at hj
    | n + 5, hj => simp at hj
  | 2, hi => match j, hj with
    | 0, hj => exact h 2 0 g hi hj
    | 1, hj => exact h 2 1 g hi hj
    | 2, _ => rfl
    | 3, hj => exact h 2 3 g hi hj
    | 4, hj => simp at hj
    | n + 5, hj => simp at hj
  | 3, hi => match j, hj with
    | 0, hj => exact h 3 0 g hi hj
    | 1, hj => exact h 3 1 g hi hj
    | 2, hj => exact h 3 2 g hi hj
    | 3, _ => rfl
    | 4, hj => simp at hj
    | n + 5, hj => simp at hj
  | 4, hi => simp at hi
  | n + 5, hi => simp at hi
/-- What is left lies in another row now. -/
theorem SM.putW {u : Value} {q : List Nat} (h : SM w0 w wr L B nx vE vT vS vW vK x s ks) (hown : wr.ownsRow w0.heap.size 108 2 u q.length (wks (wk s.done q))) (hu : ∀ g, u.ownBlock = some g → vE.ownBlock ≠ some g ∧ vT.ownBlock ≠ some g ∧ vS.ownBlock ≠ some g ∧ g ≠ B ∧ (some g ∈ L ∨ w.heap.size ≤ g)) :
    SM w0 w (wr.setCell ⟨B, 4, .none⟩ u) L B nx vE vT vS u (.slice .none 0 0) x { s with left := q } [] := by
  have hgs := grown_set wr B 4 u
  have hno : ∀ v : Value, v.ownBlock ∈ rowsL vE vT vS vW vK → ∀ g, some B = some g → v.ownBlock ≠ some g := fun v hv g e hx => h.nb (by rw [e, ← hx]; exact hv)
  have huB : ∀ g, some B = some g → u.ownBlock ≠ some g := fun g e hx => (hu g hx).2.2.2.1 (by simpa using e.symm)
  have hdj : Dj (rowsL vE vT vS u (.slice .none 0 0)) := by
    have h1 := Dj.none4 h.rows.dj
    have h2 := h1.set 3 (old := vW.ownBlock) (x := u.ownBlock) rfl (by
      cases hb : u.ownBlock with
      | none => exact .inr (.inl rfl)
      | some g =>
        obtain ⟨n1, n2, n3, _, _⟩ := hu g hb
        by_cases hW : vW.ownBlock = some g
        · exact .inl hW.symm
        · refine .inr (.inr ⟨g, rfl, fun i hi => ?_⟩)
          match i, hi with
          | 0, hi => simp at hi; exact n1 hi
          | 1, hi => simp at hi; exact n2 hi
          | 2, hi => simp at hi; exact n3 hi
          | 3, hi => simp at hi; exact hW hi
          | 4, hi => simp at hi
          | n + 5, hi => simp at hi)
    exact h2
  have hin : ∀ g, some g ∈ rowsL vE vT vS u (.slice .none 0 0) → (some g ∈ L ∨ w.heap.size ≤ g) ∧ g ≠ B := fun g hg' => by
    have old : some g ∈ rowsL vE vT vS vW vK → (some g ∈ L ∨ w.heap.size ≤ g) ∧ g ≠ B := fun m => ⟨h.inL g m, fun e => h.nb (by rw [← e]; exact m)⟩
    simp only [List.mem_cons, List.not_mem_nil, or_false] at hg' old
    rcases hg' with e | e | e | e | e
    · exact old (by simp [e])
    · exact old (by simp [e])
    · exact old (by simp [e])
    · exact ⟨(hu g e.symm).2.2.2.2, (hu g e.symm).2.2.2.1⟩
    · simp [Value.ownBlock] at e
  refine ⟨⟨bw_grown h.rows.bw hgs (fun g e => by simp at e; subst e; exact h.lo0), row_keep h.rows.e hgs (hno _ (by simp)), row_keep h.rows.t hgs (hno _ (by simp)), row_keep h.rows.sw hgs (hno _ (by simp)), row_keep hown hgs huB, World.ownsRow_nil _ _ _ _, hdj⟩, by simpa using blk_set h.box 4 u, fun m => (hin B m).2 rfl, h.turn.trans (Turn.grown hgs) (fun g e => by simp at e; subst e; exact h.lo), fun g m => (hin g m).1, h.lo, h.lo0⟩
/-- The row beside takes the place of what is left. -/
theorem SM.moveQ {q : List Nat} (h : SM w0 w wr L B nx vE vT vS vW vK x s ks) (hq : wk s.done q = ks) : SM w0 w (wr.setCell ⟨B, 4, .none⟩ vK) L B nx vE vT vS vK (.slice .none 0 0) x { s with left := q } [] := by
  refine h.putW (by rw [hq]; have := h.rows.q; rw [← hq, wk_len] at this; rw [← hq]; exact this) fun g hg => ?_
  have hm : some g ∈ rowsL vE vT vS vW vK := by simp [← hg]
  have hi4 : (rowsL vE vT vS vW vK)[4]? = some (some g) := by simp [hg]
  refine ⟨fun e => ?_, fun e => ?_, fun e => ?_, fun e => h.nb (by rw [← e]; exact hm), h.inL g hm⟩
  · have := h.rows.dj 0 4 g (by simp [e]) hi4; omega
  · have := h.rows.dj 1 4 g (by simp [e]) hi4; omega
  · have := h.rows.dj 2 4 g (by simp [e]) hi4; omega

/-- What a function that takes the record and gives one back ends in. -/
def SpR (w0 w : World) (L : List (Option Nat)) (x : Fr) (s : St) (nx : Nat) (e : Ending) (w' : World) : Prop := ∃ vE vT vS vW, e = .returned (.agg #[vE, vT, vS, .bool s.high, vW, .int .i64 nx, .int .i64 x.p, .int .i64 x.q]) ∧ Rows w0 w' vE vT vS vW (.slice .none 0 0) s [] ∧ Turn L w w' ∧ (∀ g, some g ∈ rowsL vE vT vS vW (.slice .none 0 0) → some g ∈ L ∨ w.heap.size ≤ g)
/-- A callee begins: its record in a box, its result in another. -/
theorem SM.start {Z : Array Value} {E2 : TypeId} (h : Rows w0 w vE vT vS vW vK s ks) :
    SM w0 ((w.alloc (.cells #[vE, vT, vS, .bool s.high, vW, .int .i64 nx, .int .i64 x.p, .int .i64 x.q] 81)).alloc (.cells Z E2)) ((w.alloc (.cells #[vE, vT, vS, .bool s.high, vW, .int .i64 nx, .int .i64 x.p, .int .i64 x.q] 81)).alloc (.cells Z E2)) (some w.heap.size :: rowsL vE vT vS vW vK) w.heap.size nx vE vT vS vW vK x s ks ∧
    ((w.alloc (.cells #[vE, vT, vS, .bool s.high, vW, .int .i64 nx, .int .i64 x.p, .int .i64 x.q] 81)).alloc (.cells Z E2)).heap[w.heap.size + 1]? = some (.cells Z E2 (0, 0)) ∧ some (w.heap.size + 1) ∉ some w.heap.size :: rowsL vE vT vS vW vK := by
  obtain ⟨k1, k2⟩ : ((w.alloc (.cells #[vE, vT, vS, .bool s.high, vW, .int .i64 nx, .int .i64 x.p, .int .i64 x.q] 81)).alloc (.cells Z E2)).heap[w.heap.size]? = some (.cells #[vE, vT, vS, .bool s.high, vW, .int .i64 nx, .int .i64 x.p, .int .i64 x.q] 81 (0, 0)) ∧ ((w.alloc (.cells #[vE, vT, vS, .bool s.high, vW, .int .i64 nx, .int .i64 x.p, .int .i64 x.q] 81)).alloc (.cells Z E2)).heap[w.heap.size + 1]? = some (.cells Z E2 (0, 0)) :=
    ⟨blk_bw (bw_alloc _ _) (heap_alloc_new _ _), by have := heap_alloc_new (w.alloc (.cells #[vE, vT, vS, .bool s.high, vW, .int .i64 nx, .int .i64 x.p, .int .i64 x.q] 81)) (.cells Z E2); simpa using this⟩
  refine ⟨⟨h.on (bw_trans (bw_alloc _ _) (bw_alloc _ _)), k1, fun m => by have := (h.old m).2; omega, Turn.refl _ _, fun g m => .inl (List.mem_cons_of_mem _ m), .inl (by simp), h.bw.size⟩, k2, fun m => ?_⟩
  rw [List.mem_cons] at m
  rcases m with m | m
  · simp at m
  · have := (h.old m).2; omega
/-- A callee ends: the world wE differs from wr in blocks of the callee's own alone. -/
theorem SM.endR {w1 wE : World} {L : List (Option Nat)} (h : SM w0 w1 wr (some B :: L) B nx vE vT vS vW (.slice .none 0 0) x s []) (hb : Bw w w1) (hB : w.heap.size ≤ B) (b2 : Nat) (hE : Turn [some b2] wr wE) (h2 : w.heap.size ≤ b2) (hn : some b2 ∉ rowsL vE vT vS vW (.slice .none 0 0)) (h02 : w0.heap.size ≤ b2) :
    SpR w0 w L x s nx (.returned (.agg #[vE, vT, vS, .bool s.high, vW, .int .i64 nx, .int .i64 x.p, .int .i64 x.q])) wE := by
  have hgr : wr.grownBy wE (some b2) := ⟨hE.os, hE.tape, hE.output, hE.size, fun g hg hne => hE.block g hg (by simpa using fun e => hne (by simp [e]))⟩
  refine ⟨vE, vT, vS, vW, rfl, h.rows.turn hgr h02 hn, ?_, fun g m => ?_⟩
  · have t1 : Turn L w w1 := Turn.bw hb
    have t2 := t1.trans h.turn (fun g m => by
      rw [List.mem_cons] at m
      rcases m with m | m
      · simp at m; subst m; exact .inr hB
      · exact .inl m)
    exact t2.trans hE (fun g m => by simp at m; subst m; exact .inr h2)
  · have h1 := h.inL g m
    rw [List.mem_cons] at h1
    rcases h1 with (h1 | h1) | h1
    · simp at h1; subst h1; exact (h.nb m).elim
    · exact .inl h1
    · exact .inr (Nat.le_trans hb.size h1)
end
end Go.Proofs.YtaadlgpglfpmpaaDoor

/-
  The walk of the reference's l7Come: the jobs that come at a tick.
-/








namespace Go.Proofs.YtaadlgpglfpmpaaDoor
open Go.RowKit

theorem box8 {w : World} {g : Nat} {a b c d e f i j : Value} {E : TypeId} (h : w.heap[g]? = some (.cells #[a, b, c, d, e, f, i, j] E (0, 0))) : w.cell? ⟨g, 0, .none⟩ = some a ∧ w.cell? ⟨g, 1, .none⟩ = some b ∧ w.cell? ⟨g, 2, .none⟩ = some c ∧ w.cell? ⟨g, 3, .none⟩ = some d ∧ w.cell? ⟨g, 4, .none⟩ = some e ∧ w.cell? ⟨g, 5, .none⟩ = some f ∧ w.cell? ⟨g, 6, .none⟩ = some i ∧ w.cell? ⟨g, 7, .none⟩ = some j :=
  ⟨blk_cell h 0 rfl, blk_cell h 1 rfl, blk_cell h 2 rfl, blk_cell h 3 rfl, blk_cell h 4 rfl, blk_cell h 5 rfl, blk_cell h 6 rfl, blk_cell h 7 rfl⟩
/-- The record is copied into the result's box. -/
theorem turn8 (w : World) (b2 : Nat) (v0 v1 v2 v3 v4 v5 v6 v7 : Value) : Turn [some b2] w ((((((((w.setCell ⟨b2, 0, .none⟩ v0).setCell ⟨b2, 1, .none⟩ v1).setCell ⟨b2, 2, .none⟩ v2).setCell ⟨b2, 3, .none⟩ v3).setCell ⟨b2, 4, .none⟩ v4).setCell ⟨b2, 5, .none⟩ v5).setCell ⟨b2, 6, .none⟩ v6).setCell ⟨b2, 7, .none⟩ v7) := by
  have t := fun (a b : World) (h : Turn [some b2] w a) (j : Nat) (v : Value) => h.trans (Turn.set a b2 j v) (fun g hg => .inl hg)
  exact t _ w (t _ w (t _ w (t _ w (t _ w (t _ w (t _ w (Turn.set w b2 0 v0) 1 v1) 2 v2) 3 v3) 4 v4) 5 v5) 6 v6) 7 v7

theorem SM.out_of {w0 w1 wr : World} {L : List (Option Nat)} {B nx : Nat} {vE vT vS vW vK : Value} {x : Fr} {s : St} {ks : List (Nat × Int)} (h : SM w0 w1 wr (some B :: L) B nx vE vT vS vW vK x s ks) {b : Nat} (hn : some b ∉ some B :: L) (hl : b < w1.heap.size) : some b ∉ rowsL vE vT vS vW vK := fun m => by
  rcases h.inL _ m with h1 | h1
  · exact hn h1
  · omega
theorem cell_work_new (w : World) (m : Nat) (y : Int) : ∀ j u, [vi m, vi y][j]? = some u → (w.alloc (.cells #[vi m, vi y] 108)).cell? ((⟨w.heap.size, 0, .none⟩ : Addr).add j) = some u := fun j u h => by
  match j, h with
  | 0, h => simp at h; subst h; simp [Addr.add]
  | 1, h => simp at h; subst h; simp [Addr.add]
  | n + 2, h => simp at h
theorem oneW (m : Nat) (y : Int) : ∀ u ∈ [vi m, vi y], u.oneCell' = true := by simp [Value.oneCell']



set_option maxRecDepth 100000 in
set_option maxHeartbeats 3200000 in
theorem l7Come_any (ao bo : Option Addr) (c d n t : Nat) (w0 w : World) (l : List Tk) (js : List Jb) (vE vT vS vW : Value) (x : Fr) (s : St) (hok : jobsOk l js = true) (hr : RT w0 ao l) (hs : RJ w0 bo js) (hRows : Rows w0 w vE vT vS vW (.slice .none 0 0) s []) (hI : Inv l js (Come js t 0) t s) (hN : NX js t n) (_ht : t ≤ 200) :
    Calls Tryd.prog 81 #[.slice ao l.length c, .slice bo js.length d, .agg #[vE, vT, vS, .bool s.high, vW, .int .i64 n, .int .i64 x.p, .int .i64 x.q], .int .i64 t] w fun e w' => ∃ n', NX js (t + 1) n' ∧ SpR w0 w (rowsL vE vT vS vW (.slice .none 0 0)) x (comeFrom l js t js.length 0 s) n' e w' := by
  have h60 := jobs_len hok
  have hst := SM.start (nx := n) (x := x) (Z := #[.slice .none 0 0, .slice .none 0 0, .slice .none 0 0, .bool false, .slice .none 0 0, .int .i64 0, .int .i64 0, .int .i64 0]) (E2 := 81) hRows
  have hI0 : Inv l js (Come js t n) t s := hI.congr fun i hi => by
    unfold Come
    constructor
    · rintro (h | ⟨h, h2⟩)
      · exact .inl h
      · omega
    · rintro (h | ⟨h, h2⟩)
      · exact .inl h
      · have := hN.2.1 i h2; exact .inl this
  have hcf := come_from l hN s
  have hny := hN.ny
  have hb1 : Bw w ((w.alloc (.cells #[vE, vT, vS, .bool s.high, vW, .int .i64 n, .int .i64 x.p, .int .i64 x.q] 81)).alloc (.cells #[.slice .none 0 0, .slice .none 0 0, .slice .none 0 0, .bool false, .slice .none 0 0, .int .i64 0, .int .i64 0, .int .i64 0] 81)) := bw_trans (bw_alloc _ _) (bw_alloc _ _)
  have hzl : w.heap.size + 1 < ((w.alloc (.cells #[vE, vT, vS, .bool s.high, vW, .int .i64 n, .int .i64 x.p, .int .i64 x.q] 81)).alloc (.cells #[.slice .none 0 0, .slice .none 0 0, .slice .none 0 0, .bool false, .slice .none 0 0, .int .i64 0, .int .i64 0, .int .i64 0] 81)).heap.size := by simp
  have hbs := hRows.bw.size
  obtain ⟨i0, hi0, hz0, hz1, hz2⟩ := info_parts infoWork
  have HR := Lib.hid hr
  have HS := Lib.hid hs
  have HST := Lib.hid hst
  have HI0 := Lib.hid hI0
  have HCF := Lib.hid hcf
  have HNY := Lib.hid hny
  have HB1 := Lib.hid hb1
  have HZL := Lib.hid hzl
  have HOK := Lib.hid hok
  have HROWS := Lib.hid hRows
  have HI := Lib.hid hI
  have HN := Lib.hid hN
  clear hr hs hst hI0 hcf hny hb1 hzl hok hRows hI hN
  go_enter Tryd.func81, Tryd.ntmps81
  go_upto_block 0 with fail
  obtain ⟨w1, e1⟩ : ∃ w1 : World, ((w.alloc (.cells #[vE, vT, vS, .bool s.high, vW, .int .i64 n, .int .i64 x.p, .int .i64 x.q] 81)).alloc (.cells #[.slice .none 0 0, .slice .none 0 0, .slice .none 0 0, .bool false, .slice .none 0 0, .int .i64 0, .int .i64 0, .int .i64 0] 81)) = w1 := ⟨_, rfl⟩
  rw [e1] at HST HB1 HZL ⊢
  clear e1
  obtain ⟨hS0, hz, hzn⟩ := HST.out
  clear HST
  have HZ := Lib.hid hz
  have HZN := Lib.hid hzn
  clear hz hzn
  have HS0 := Lib.hid hS0
  clear hS0
  go_wp2_with fail
  go_loopg [] (js.length - n) (fun g wr => ∃ (m : Nat) (s2 : St) (vE2 vT2 vS2 vW2 : Value), g = js.length - m ∧ m ≤ js.length ∧ Hid (NY js t m) ∧ Hid (SM w0 w1 wr (some w.heap.size :: rowsL vE vT vS vW (.slice .none 0 0)) w.heap.size m vE2 vT2 vS2 vW2 (.slice .none 0 0) x s2 []) ∧ Hid (Inv l js (Come js t m) t s2) ∧ Hid (comeFrom l js t js.length 0 s = comeFrom l js t (js.length - m) m s2))
  case atStart => exact ⟨n, s, vE, vT, vS, vW, rfl, HN.out.1, HNY.out, HS0.out, HI0.out, HCF.out⟩
  case round =>
    obtain ⟨m, s2, vE2, vT2, vS2, vW2, rfl, hml, hNY, hS, hI2, hc2⟩ := hrel
    obtain ⟨aE, cE, eE⟩ := own_form hS.out.rows.e
    obtain ⟨aT, cT, eT⟩ := own_form hS.out.rows.t
    obtain ⟨aS, cS, eS⟩ := own_form hS.out.rows.sw
    obtain ⟨aW, cW, eW⟩ := own_form hS.out.rows.k
    subst eE eT eS eW
    obtain ⟨b0, b1, b2, b3, b4, b5, b6, b7⟩ := box8 hS.out.box
    have bf := fun j => blk_free hS.out.box j
    have lB := blk_lt hS.out.box
    by_cases hmlt : m < js.length
    · obtain ⟨q, y, z, T, hjk, htk, hTo, hy0, hy1, hz1', hzh, hql⟩ := job_task HOK.out hmlt
      obtain ⟨bj, oj, hbo, hbs', c0, c1, c2⟩ := (HS.out.bw hS.out.rows.bw) m _ hjk
      dsimp only at c0 c1 c2
      subst hbo
      have hat := at_eq hjk
      have hcr : critOf l js m = T.crit := by simp [critOf, tkOf, hjk, htk]
      dsimp only at hat
      by_cases hyt : y = t
      · subst hyt
        have e22 : ((t : Int) == (t : Int)) = true := by simp
        have e13 : decide ((m : Int) < (js.length : Int)) = true := decide_eq_true (by omega)
        obtain ⟨bt, ot, hao, hbt, t0, t1, t2, t3, t4⟩ := (HR.out.bw hS.out.rows.bw) q _ htk
        subst hao
        have hstep := come_step l js (t : Int) hmlt s2
        have hInext := hI2.out.come1 HOK.out hmlt
        have hnext := hNY.out.next hmlt hat
        obtain ⟨hh, eh⟩ : ∃ hh, s2.high = hh := ⟨_, rfl⟩
        obtain ⟨cr, ec⟩ : ∃ cr, T.crit = cr := ⟨_, rfl⟩
        rw [ec] at t4 hcr
        rw [eh] at b3
        by_cases hdrop : hh = true ∧ cr = false
        · obtain ⟨rfl, rfl⟩ := hdrop
          have hcm : come1 l js t m s2 = { s2 with ended := s2.ended.set m (-2) } := by rw [come1, if_neg (by rw [hat]; simp), if_pos ⟨eh, hcr⟩]
          obtain ⟨gE, cE', eE, lE, ce, cf, hS3⟩ := hS.out.setEnded (hI2.out.fresh_e HOK.out hmlt hat) (-2)
          have hel := (List.getElem?_eq_some_iff.1 (hI2.out.fresh_e HOK.out hmlt hat)).1
          simp only [Value.slice.injEq] at eE
          obtain ⟨rfl, _, rfl⟩ := eE
          have hneB : gE ≠ w.heap.size := fun e => hS.out.nb (by simp [Value.ownBlock, e])
          rw [hcm] at hstep hInext
          have HSTEP := Lib.hid hstep
          have HINEXT := Lib.hid hInext
          have HNEXT := Lib.hid hnext
          have HAT := Lib.hid hat
          have HJK := Lib.hid hjk
          have HTK := Lib.hid htk
          have HTO := Lib.hid hTo
          have HCR := Lib.hid hcr
          have EH := Lib.hid eh
          have EC := Lib.hid ec
          have HCM := Lib.hid hcm
          have HS3 := Lib.hid hS3
          have HNEB := Lib.hid hneB
          clear hstep hInext hnext hat hjk htk hTo hcr eh ec hcm hS3 hneB
          go_upto_region 5 with fail
          obtain ⟨w3, e3⟩ : ∃ w3 : World, wr.setCell ⟨gE, m, .none⟩ (.int .i64 (-2)) = w3 := ⟨_, rfl⟩
          have HS3' := HS3
          rw [e3] at HS3' ⊢
          clear e3 HS3 b0 b1 b2 b3 b4 b5 b6 b7 bf lB lE ce cf
          obtain ⟨b0, b1, b2, b3, b4, b5, b6, b7⟩ := box8 HS3'.out.box
          have bf := fun j => blk_free HS3'.out.box j
          have lB := blk_lt HS3'.out.box
          have HS4 := Lib.hid (HS3'.out.setNext (m + 1))
          go_wp2_with fail
          go_roundg (js.length - (m + 1))
          case measure => omega
          case rel => exact ⟨m + 1, { s2 with ended := s2.ended.set m (-2) }, _, _, _, _, rfl, by omega, HNEXT.out, HS4.out, HINEXT.out, by show _ = _; rw [hc2.out, HSTEP.out]⟩
        · have hcm : come1 l js t m s2 = { s2 with left := s2.left ++ [m] } := by rw [come1, if_neg (by rw [hat]; simp), if_neg (by rw [eh, hcr]; exact hdrop)]
          have hd0 := hI2.out.fresh HOK.out hmlt hat
          rw [hcm] at hstep hInext
          have hlen2 := hI2.out.len
          have hS3 := hS.out.on (bw_alloc _ (.cells #[.int .i64 m, .int .i64 0] 108))
          have HSTEP := Lib.hid hstep
          have HINEXT := Lib.hid hInext
          have HNEXT := Lib.hid hnext
          have HAT := Lib.hid hat
          have HJK := Lib.hid hjk
          have HTK := Lib.hid htk
          have HTO := Lib.hid hTo
          have HCR := Lib.hid hcr
          have EH := Lib.hid eh
          have EC := Lib.hid ec
          have HCM := Lib.hid hcm
          have HD0 := Lib.hid hd0
          have HS3 := Lib.hid hS3
          clear hstep hInext hnext hat hjk htk hTo hcr eh ec hcm hd0 hS3
          cases hh <;> cases cr
          all_goals first | exact absurd ⟨rfl, rfl⟩ hdrop | skip
          all_goals
            clear hdrop
            go_wp2_with (at_builtin; refine wpList_app rfl _ _ 79 108 i0 zWork 2 16 rfl w0.heap.size Tryd.underlying79 hi0 hz0 hz1 hz2 rfl (by decide) s2.left.length _ _ rfl HS3.out.rows.k ⟨wr.heap.size, 0, .none⟩ 1 1 [vi m, .int .i64 0] rfl rfl (cell_work_new _ _ _) (oneW _ _) (by unfold maxLen; omega) (by omega) HS3.out.rows.bw.size ?_; intro ao' c' w3 hown' hgrow' hwhere'; have hA := HS3.out.app_w HD0.out rfl hown' hgrow' hwhere'; obtain ⟨r0, r1, r2, r3, r4, r5, r6, r7⟩ := box8 hA.1; have rf := fun j => blk_free hA.1 j; have HS5 := Lib.hid (hA.2.setNext (m + 1)); clear hA hown' hgrow' hwhere' b0 b1 b2 b3 b4 b5 b6 b7 bf)
            go_roundg (js.length - (m + 1))
            case measure => omega
            case rel => exact ⟨m + 1, { s2 with left := s2.left ++ [m] }, _, _, _, _, rfl, by omega, HNEXT.out, HS5.out, HINEXT.out, by show _ = _; rw [hc2.out, HSTEP.out]⟩
      · have e22 : (y == (t : Int)) = false := by simp [hyt]
        have e13 : decide ((m : Int) < (js.length : Int)) = true := decide_eq_true (by omega)
        obtain ⟨hnx, hcd⟩ := hNY.out.done HOK.out (fun _ => by rw [hat]; exact hyt)
        have hfin : comeFrom l js t js.length 0 s = s2 := by rw [hc2.out, hcd]
        have HNX := Lib.hid hnx
        have HCD := Lib.hid hcd
        have HFIN := Lib.hid hfin
        have HAT := Lib.hid hat
        have HCR := Lib.hid hcr
        have HJK := Lib.hid hjk
        have HTK := Lib.hid htk
        have HTO := Lib.hid hTo
        have HYT := Lib.hid hyt
        clear hnx hcd hfin hat hcr hjk htk hTo hyt
        have z := hS.out.turn.heap HZ.out HZN.out
        obtain ⟨z0, z1, z2, z3, z4, z5, z6, z7⟩ := box8 z
        have zl := blk_lt z
        have zf := fun j => blk_free z j
        have hzn2 := hS.out.out_of HZN.out HZL.out
        have Z := Lib.hid z
        have HZN2 := Lib.hid hzn2
        clear z hzn2
        go_wp2
        refine bodyPost_ret (v := .agg #[.slice aE s2.ended.length cE, .slice aT s2.trace.length cT, .slice aS s2.switches.length cS, .bool s2.high, .slice aW s2.left.length cW, .int .i64 m, .int .i64 x.p, .int .i64 x.q]) (by simp [results, Tryd.results81, go_sem, z0, z1, z2, z3, z4, z5, z6, z7]) rfl ?_
        rw [HFIN.out]
        exact ⟨m, HNX.out, hS.out.endR HB1.out (Nat.le_refl _) (w.heap.size + 1) (turn8 _ _ _ _ _ _ _ _ _ _) (by omega) HZN2.out (by omega)⟩
    · have e13 : decide ((m : Int) < (js.length : Int)) = false := decide_eq_false (by omega)
      obtain ⟨hnx, hcd⟩ := hNY.out.done HOK.out (fun h => absurd h hmlt)
      have hfin : comeFrom l js t js.length 0 s = s2 := by rw [hc2.out, hcd]
      have HNX := Lib.hid hnx
      have HCD := Lib.hid hcd
      have HFIN := Lib.hid hfin
      clear hnx hcd hfin
      have z := hS.out.turn.heap HZ.out HZN.out
      obtain ⟨z0, z1, z2, z3, z4, z5, z6, z7⟩ := box8 z
      have zl := blk_lt z
      have zf := fun j => blk_free z j
      have hzn2 := hS.out.out_of HZN.out HZL.out
      have Z := Lib.hid z
      have HZN2 := Lib.hid hzn2
      clear z hzn2
      go_wp2
      refine bodyPost_ret (v := .agg #[.slice aE s2.ended.length cE, .slice aT s2.trace.length cT, .slice aS s2.switches.length cS, .bool s2.high, .slice aW s2.left.length cW, .int .i64 m, .int .i64 x.p, .int .i64 x.q]) (by simp [results, Tryd.results81, go_sem, z0, z1, z2, z3, z4, z5, z6, z7]) rfl ?_
      rw [HFIN.out]
      exact ⟨m, HNX.out, hS.out.endR HB1.out (Nat.le_refl _) (w.heap.size + 1) (turn8 _ _ _ _ _ _ _ _ _ _) (by omega) HZN2.out (by omega)⟩
end Go.Proofs.YtaadlgpglfpmpaaDoor

/-
  The walks of the reference's l7Key, l7First and l7Policy.
-/


namespace Go.Proofs.YtaadlgpglfpmpaaDoor
open Go.RowKit

set_option maxRecDepth 100000 in
set_option maxHeartbeats 800000 in
theorem l7Key_true_true (w : World) (i q : Nat) (y z : Int) (x0 x1 x2 x3 : Int) (ao : Option Addr) (c : Nat) (l : List Tk) (js : List Jb) (x : Fr) (vE vT vS vW : Value) (nx : Nat) (hx1 : x.p ≤ 1000000000) (hx2 : x.q ≤ 1000000000)
    (hr : RT w ao l) (hj : js[i]? = some ⟨q, y, z⟩) (ht : l[q]? = some ⟨x0, x1, x2, x3, true⟩) (hy0 : 0 ≤ y) (hy1 : y ≤ 200) (hd0 : 0 ≤ x2) (hd1 : x2 ≤ 20) :
    Calls Tryd.prog 105 #[.slice ao l.length c, .agg #[.int .i64 q, .int .i64 y, .int .i64 z], .agg #[vE, vT, vS, .bool true, vW, .int .i64 nx, .int .i64 x.p, .int .i64 x.q]] w fun e w' => e = .returned (.int .i64 (keyOf l js x true i)) ∧ Bw w w' := by
  have hql := (List.getElem?_eq_some_iff.1 ht).1
  have hk := key_at (x := x) (high := true) hj ht
  dsimp only at hk
  obtain ⟨b2, o2, e2, hbs2, t0, t1, t2, t3, t4⟩ := hr q _ ht
  subst e2
  dsimp only at t0 t1 t2 t3 t4
  have m1 := mul_bd hy0 hy1 (show (0 : Int) ≤ x.q by omega) (show (x.q : Int) ≤ 1000000000 by omega)
  have m2 := mul_bd hd0 hd1 (show (0 : Int) ≤ x.p by omega) (show (x.p : Int) ≤ 1000000000 by omega)
  have m3 := mul_bd (show (0 : Int) ≤ y + x2 by omega) (show y + x2 ≤ 220 by omega) (show (0 : Int) ≤ x.q by omega) (show (x.q : Int) ≤ 1000000000 by omega)
  obtain ⟨P1, hP1⟩ : ∃ P, y * (x.q : Int) = P := ⟨_, rfl⟩
  obtain ⟨P2, hP2⟩ : ∃ P, x2 * (x.p : Int) = P := ⟨_, rfl⟩
  obtain ⟨P3, hP3⟩ : ∃ P, (y + x2) * (x.q : Int) = P := ⟨_, rfl⟩
  rw [hP1, hP2, hP3] at hk
  rw [hP1] at m1
  rw [hP2] at m2
  rw [hP3] at m3
  have hP2' : (x.p : Int) * x2 = P2 := by rw [Int.mul_comm]; exact hP2
  clear hP2
  have w0 := IntWalk.i64_in (y + x2) (by omega)
  have w1 := IntWalk.i64_in P1 (by omega)
  have w2 := IntWalk.i64_in P2 (by omega)
  have w3 := IntWalk.i64_in P3 (by omega)
  have w4 := IntWalk.i64_in (P1 + P2) (by omega)
  have HK := Lib.hid hk
  have HR := Lib.hid hr
  have HJ := Lib.hid hj
  have HT := Lib.hid ht
  clear hk hr hj ht
  go_enter Tryd.func105, Tryd.ntmps105
  go_wp2
  go_ret
  exact ⟨ret_i (by show _ = _; rw [HK.out]; simp), bw_trans (bw_trans (bw_alloc _ _) (bw_alloc _ _)) (bw_alloc _ _)⟩
set_option maxRecDepth 100000 in
set_option maxHeartbeats 800000 in
theorem l7Key_true_false (w : World) (i q : Nat) (y z : Int) (x0 x1 x2 x3 : Int) (ao : Option Addr) (c : Nat) (l : List Tk) (js : List Jb) (x : Fr) (vE vT vS vW : Value) (nx : Nat) (hx1 : x.p ≤ 1000000000) (hx2 : x.q ≤ 1000000000)
    (hr : RT w ao l) (hj : js[i]? = some ⟨q, y, z⟩) (ht : l[q]? = some ⟨x0, x1, x2, x3, true⟩) (hy0 : 0 ≤ y) (hy1 : y ≤ 200) (hd0 : 0 ≤ x2) (hd1 : x2 ≤ 20) :
    Calls Tryd.prog 105 #[.slice ao l.length c, .agg #[.int .i64 q, .int .i64 y, .int .i64 z], .agg #[vE, vT, vS, .bool false, vW, .int .i64 nx, .int .i64 x.p, .int .i64 x.q]] w fun e w' => e = .returned (.int .i64 (keyOf l js x false i)) ∧ Bw w w' := by
  have hql := (List.getElem?_eq_some_iff.1 ht).1
  have hk := key_at (x := x) (high := false) hj ht
  dsimp only at hk
  obtain ⟨b2, o2, e2, hbs2, t0, t1, t2, t3, t4⟩ := hr q _ ht
  subst e2
  dsimp only at t0 t1 t2 t3 t4
  have m1 := mul_bd hy0 hy1 (show (0 : Int) ≤ x.q by omega) (show (x.q : Int) ≤ 1000000000 by omega)
  have m2 := mul_bd hd0 hd1 (show (0 : Int) ≤ x.p by omega) (show (x.p : Int) ≤ 1000000000 by omega)
  have m3 := mul_bd (show (0 : Int) ≤ y + x2 by omega) (show y + x2 ≤ 220 by omega) (show (0 : Int) ≤ x.q by omega) (show (x.q : Int) ≤ 1000000000 by omega)
  obtain ⟨P1, hP1⟩ : ∃ P, y * (x.q : Int) = P := ⟨_, rfl⟩
  obtain ⟨P2, hP2⟩ : ∃ P, x2 * (x.p : Int) = P := ⟨_, rfl⟩
  obtain ⟨P3, hP3⟩ : ∃ P, (y + x2) * (x.q : Int) = P := ⟨_, rfl⟩
  rw [hP1, hP2, hP3] at hk
  rw [hP1] at m1
  rw [hP2] at m2
  rw [hP3] at m3
  have hP2' : (x.p : Int) * x2 = P2 := by rw [Int.mul_comm]; exact hP2
  clear hP2
  have w0 := IntWalk.i64_in (y + x2) (by omega)
  have w1 := IntWalk.i64_in P1 (by omega)
  have w2 := IntWalk.i64_in P2 (by omega)
  have w3 := IntWalk.i64_in P3 (by omega)
  have w4 := IntWalk.i64_in (P1 + P2) (by omega)
  have HK := Lib.hid hk
  have HR := Lib.hid hr
  have HJ := Lib.hid hj
  have HT := Lib.hid ht
  clear hk hr hj ht
  go_enter Tryd.func105, Tryd.ntmps105
  go_wp2
  go_ret
  exact ⟨ret_i (by show _ = _; rw [HK.out]; simp), bw_trans (bw_trans (bw_alloc _ _) (bw_alloc _ _)) (bw_alloc _ _)⟩
set_option maxRecDepth 100000 in
set_option maxHeartbeats 800000 in
theorem l7Key_false_true (w : World) (i q : Nat) (y z : Int) (x0 x1 x2 x3 : Int) (ao : Option Addr) (c : Nat) (l : List Tk) (js : List Jb) (x : Fr) (vE vT vS vW : Value) (nx : Nat) (hx1 : x.p ≤ 1000000000) (hx2 : x.q ≤ 1000000000)
    (hr : RT w ao l) (hj : js[i]? = some ⟨q, y, z⟩) (ht : l[q]? = some ⟨x0, x1, x2, x3, false⟩) (hy0 : 0 ≤ y) (hy1 : y ≤ 200) (hd0 : 0 ≤ x2) (hd1 : x2 ≤ 20) :
    Calls Tryd.prog 105 #[.slice ao l.length c, .agg #[.int .i64 q, .int .i64 y, .int .i64 z], .agg #[vE, vT, vS, .bool true, vW, .int .i64 nx, .int .i64 x.p, .int .i64 x.q]] w fun e w' => e = .returned (.int .i64 (keyOf l js x true i)) ∧ Bw w w' := by
  have hql := (List.getElem?_eq_some_iff.1 ht).1
  have hk := key_at (x := x) (high := true) hj ht
  dsimp only at hk
  obtain ⟨b2, o2, e2, hbs2, t0, t1, t2, t3, t4⟩ := hr q _ ht
  subst e2
  dsimp only at t0 t1 t2 t3 t4
  have m1 := mul_bd hy0 hy1 (show (0 : Int) ≤ x.q by omega) (show (x.q : Int) ≤ 1000000000 by omega)
  have m2 := mul_bd hd0 hd1 (show (0 : Int) ≤ x.p by omega) (show (x.p : Int) ≤ 1000000000 by omega)
  have m3 := mul_bd (show (0 : Int) ≤ y + x2 by omega) (show y + x2 ≤ 220 by omega) (show (0 : Int) ≤ x.q by omega) (show (x.q : Int) ≤ 1000000000 by omega)
  obtain ⟨P1, hP1⟩ : ∃ P, y * (x.q : Int) = P := ⟨_, rfl⟩
  obtain ⟨P2, hP2⟩ : ∃ P, x2 * (x.p : Int) = P := ⟨_, rfl⟩
  obtain ⟨P3, hP3⟩ : ∃ P, (y + x2) * (x.q : Int) = P := ⟨_, rfl⟩
  rw [hP1, hP2, hP3] at hk
  rw [hP1] at m1
  rw [hP2] at m2
  rw [hP3] at m3
  have hP2' : (x.p : Int) * x2 = P2 := by rw [Int.mul_comm]; exact hP2
  clear hP2
  have w0 := IntWalk.i64_in (y + x2) (by omega)
  have w1 := IntWalk.i64_in P1 (by omega)
  have w2 := IntWalk.i64_in P2 (by omega)
  have w3 := IntWalk.i64_in P3 (by omega)
  have w4 := IntWalk.i64_in (P1 + P2) (by omega)
  have HK := Lib.hid hk
  have HR := Lib.hid hr
  have HJ := Lib.hid hj
  have HT := Lib.hid ht
  clear hk hr hj ht
  go_enter Tryd.func105, Tryd.ntmps105
  go_wp2
  go_ret
  exact ⟨ret_i (by show _ = _; rw [HK.out]; simp), bw_trans (bw_trans (bw_alloc _ _) (bw_alloc _ _)) (bw_alloc _ _)⟩
set_option maxRecDepth 100000 in
set_option maxHeartbeats 800000 in
theorem l7Key_false_false (w : World) (i q : Nat) (y z : Int) (x0 x1 x2 x3 : Int) (ao : Option Addr) (c : Nat) (l : List Tk) (js : List Jb) (x : Fr) (vE vT vS vW : Value) (nx : Nat) (hx1 : x.p ≤ 1000000000) (hx2 : x.q ≤ 1000000000)
    (hr : RT w ao l) (hj : js[i]? = some ⟨q, y, z⟩) (ht : l[q]? = some ⟨x0, x1, x2, x3, false⟩) (hy0 : 0 ≤ y) (hy1 : y ≤ 200) (hd0 : 0 ≤ x2) (hd1 : x2 ≤ 20) :
    Calls Tryd.prog 105 #[.slice ao l.length c, .agg #[.int .i64 q, .int .i64 y, .int .i64 z], .agg #[vE, vT, vS, .bool false, vW, .int .i64 nx, .int .i64 x.p, .int .i64 x.q]] w fun e w' => e = .returned (.int .i64 (keyOf l js x false i)) ∧ Bw w w' := by
  have hql := (List.getElem?_eq_some_iff.1 ht).1
  have hk := key_at (x := x) (high := false) hj ht
  dsimp only at hk
  obtain ⟨b2, o2, e2, hbs2, t0, t1, t2, t3, t4⟩ := hr q _ ht
  subst e2
  dsimp only at t0 t1 t2 t3 t4
  have m1 := mul_bd hy0 hy1 (show (0 : Int) ≤ x.q by omega) (show (x.q : Int) ≤ 1000000000 by omega)
  have m2 := mul_bd hd0 hd1 (show (0 : Int) ≤ x.p by omega) (show (x.p : Int) ≤ 1000000000 by omega)
  have m3 := mul_bd (show (0 : Int) ≤ y + x2 by omega) (show y + x2 ≤ 220 by omega) (show (0 : Int) ≤ x.q by omega) (show (x.q : Int) ≤ 1000000000 by omega)
  obtain ⟨P1, hP1⟩ : ∃ P, y * (x.q : Int) = P := ⟨_, rfl⟩
  obtain ⟨P2, hP2⟩ : ∃ P, x2 * (x.p : Int) = P := ⟨_, rfl⟩
  obtain ⟨P3, hP3⟩ : ∃ P, (y + x2) * (x.q : Int) = P := ⟨_, rfl⟩
  rw [hP1, hP2, hP3] at hk
  rw [hP1] at m1
  rw [hP2] at m2
  rw [hP3] at m3
  have hP2' : (x.p : Int) * x2 = P2 := by rw [Int.mul_comm]; exact hP2
  clear hP2
  have w0 := IntWalk.i64_in (y + x2) (by omega)
  have w1 := IntWalk.i64_in P1 (by omega)
  have w2 := IntWalk.i64_in P2 (by omega)
  have w3 := IntWalk.i64_in P3 (by omega)
  have w4 := IntWalk.i64_in (P1 + P2) (by omega)
  have HK := Lib.hid hk
  have HR := Lib.hid hr
  have HJ := Lib.hid hj
  have HT := Lib.hid ht
  clear hk hr hj ht
  go_enter Tryd.func105, Tryd.ntmps105
  go_wp2
  go_ret
  exact ⟨ret_i (by show _ = _; rw [HK.out]; simp), bw_trans (bw_trans (bw_alloc _ _) (bw_alloc _ _)) (bw_alloc _ _)⟩
theorem l7Key_any {w : World} {ao : Option Addr} {c : Nat} {l : List Tk} {js : List Jb} {x : Fr} {high : Bool} {vE vT vS vW : Value} {nx i q : Nat} {y z : Int} (hok : jobsOk l js = true) (hx1 : x.p ≤ 1000000000) (hx2 : x.q ≤ 1000000000) (hr : RT w ao l) (hj : js[i]? = some ⟨q, y, z⟩) :
    Calls Tryd.prog 105 #[.slice ao l.length c, .agg #[.int .i64 q, .int .i64 y, .int .i64 z], .agg #[vE, vT, vS, .bool high, vW, .int .i64 nx, .int .i64 x.p, .int .i64 x.q]] w fun e w' => e = .returned (.int .i64 (keyOf l js x high i)) ∧ Bw w w' := by
  obtain ⟨q', y', z', ⟨x0, x1, x2, x3, C⟩, hj', ht, hTo, hy0, hy1, _, _, _⟩ := job_task hok (List.getElem?_eq_some_iff.1 hj).1
  rw [hj] at hj'
  simp only [Option.some.injEq, Jb.mk.injEq] at hj'
  obtain ⟨e1, rfl, rfl⟩ := hj'
  obtain rfl : q = q' := by omega
  have hk := (Tk.ok_iff _).1 hTo
  dsimp only at hk
  cases C <;> cases high
  · exact l7Key_false_false w i q y z x0 x1 x2 x3 ao c l js x vE vT vS vW nx hx1 hx2 hr hj ht hy0 hy1 (by omega) (by omega)
  · exact l7Key_false_true w i q y z x0 x1 x2 x3 ao c l js x vE vT vS vW nx hx1 hx2 hr hj ht hy0 hy1 (by omega) (by omega)
  · exact l7Key_true_false w i q y z x0 x1 x2 x3 ao c l js x vE vT vS vW nx hx1 hx2 hr hj ht hy0 hy1 (by omega) (by omega)
  · exact l7Key_true_true w i q y z x0 x1 x2 x3 ao c l js x vE vT vS vW nx hx1 hx2 hr hj ht hy0 hy1 (by omega) (by omega)

set_option maxRecDepth 100000 in
set_option maxHeartbeats 1600000 in
theorem l7First_place {w : World} {ao : Option Addr} {c : Nat} {l : List Tk} {js : List Jb} {x : Fr} {high : Bool} {vE vT vS vW : Value} {nx a b q q' : Nat} {y z y' z' : Int} (ha : js[a]? = some ⟨q, y, z⟩) (hb : js[b]? = some ⟨q', y', z'⟩) :
    Calls Tryd.prog 82 #[.slice ao l.length c, .agg #[.int .i64 q, .int .i64 y, .int .i64 z], .agg #[.int .i64 q', .int .i64 y', .int .i64 z'], .int .i64 0, .agg #[vE, vT, vS, .bool high, vW, .int .i64 nx, .int .i64 x.p, .int .i64 x.q]] w fun e w' => e = .returned (.bool (goesB l js false x high a b)) ∧ Bw w w' := by
  have hgo := goes_at (l := l) (due := false) (x := x) (high := high) ha hb
  rw [if_neg (by simp)] at hgo
  dsimp only at hgo
  have e0 : ((0 : Int) == 1) = false := rfl
  have HA := Lib.hid ha
  have HB := Lib.hid hb
  clear ha hb
  go_enter Tryd.func82, Tryd.ntmps82
  by_cases hne : q = q'
  · rw [if_neg (by simp [hne])] at hgo
    have hn1 : (q != q') = false := by simp [hne]
    subst hne
    have HGO := Lib.hid hgo
    clear hgo
    go_wp2
    go_ret
    exact ⟨ret_b HGO.out.symm, bw_trans (bw_trans (bw_alloc _ _) (bw_alloc _ _)) (bw_alloc _ _)⟩
  · rw [if_pos (by simpa using fun e => hne (by omega))] at hgo
    have hn1 : ((q : Int) != (q' : Int)) = true := by simp; omega
    have HGO := Lib.hid hgo
    have HNE := Lib.hid hne
    clear hgo hne
    go_wp2
    go_ret
    exact ⟨ret_b (by rw [HGO.out]; simp), bw_trans (bw_trans (bw_alloc _ _) (bw_alloc _ _)) (bw_alloc _ _)⟩
set_option maxRecDepth 100000 in
set_option maxHeartbeats 1600000 in
theorem l7First_due {w : World} {ao : Option Addr} {c : Nat} {l : List Tk} {js : List Jb} {x : Fr} {high : Bool} {vE vT vS vW : Value} {nx a b q q' : Nat} {y z y' z' : Int} (hok : jobsOk l js = true) (hx1 : x.p ≤ 1000000000) (hx2 : x.q ≤ 1000000000) (hr : RT w ao l) (ha : js[a]? = some ⟨q, y, z⟩) (hb : js[b]? = some ⟨q', y', z'⟩) :
    Calls Tryd.prog 82 #[.slice ao l.length c, .agg #[.int .i64 q, .int .i64 y, .int .i64 z], .agg #[.int .i64 q', .int .i64 y', .int .i64 z'], .int .i64 1, .agg #[vE, vT, vS, .bool high, vW, .int .i64 nx, .int .i64 x.p, .int .i64 x.q]] w fun e w' => e = .returned (.bool (goesB l js true x high a b)) ∧ Bw w w' := by
  have hgo := goes_at (l := l) (due := true) (x := x) (high := high) ha hb
  dsimp only at hgo
  have e0 : ((1 : Int) == 1) = true := rfl
  have HA := Lib.hid ha
  have HB := Lib.hid hb
  have HR := Lib.hid hr
  have HOK := Lib.hid hok
  clear ha hb hr hok
  go_enter Tryd.func82, Tryd.ntmps82
  go_wp2_with fail
  refine (l7Key_any (w := ((w.alloc _).alloc _).alloc _) HOK.out hx1 hx2 (HR.out.bw (bw_trans (bw_trans (bw_alloc _ _) (bw_alloc _ _)) (bw_alloc _ _))) HA.out).mono ?_
  obtain ⟨ka, hka⟩ : ∃ k, keyOf l js x high a = k := ⟨_, rfl⟩
  obtain ⟨kb, hkb⟩ : ∃ k, keyOf l js x high b = k := ⟨_, rfl⟩
  rw [hka]
  rw [hka, hkb] at hgo
  have HKA := Lib.hid hka
  have HKB := Lib.hid hkb
  clear hka hkb
  rintro e w1 ⟨rfl, hb1⟩
  obtain ⟨hx, hy, hz⟩ := box_three hb1
  have p0 := blk_cell hx 0 rfl
  have p1 := blk_cell hx 1 rfl
  have p2 := blk_cell hx 2 rfl
  have q0 := blk_cell hy 0 rfl
  have q1 := blk_cell hy 1 rfl
  have q2 := blk_cell hy 2 rfl
  obtain ⟨r0, r1, r2, r3, r4, r5, r6, r7⟩ := box8 hz
  have lx := blk_lt hx
  have ly := blk_lt hy
  have lz := blk_lt hz
  have HX := Lib.hid hx
  have HY := Lib.hid hy
  have HZ := Lib.hid hz
  clear hx hy hz
  go_wp2_with fail
  refine (l7Key_any HOK.out hx1 hx2 (HR.out.bw (bw_trans (bw_trans (bw_trans (bw_alloc _ _) (bw_alloc _ _)) (bw_alloc _ _)) hb1)) HB.out).mono ?_
  rw [HKB.out]
  rintro e w2 ⟨rfl, hb2⟩
  have hbw := bw_trans (bw_trans (bw_trans (bw_trans (bw_alloc _ _) (bw_alloc _ _)) (bw_alloc _ _)) hb1) hb2
  clear p0 p1 p2 q0 q1 q2 r0 r1 r2 r3 r4 r5 r6 r7 lx ly lz
  have p0 := blk_cell (blk_bw hb2 HX.out) 0 rfl
  have p1 := blk_cell (blk_bw hb2 HX.out) 1 rfl
  have q0 := blk_cell (blk_bw hb2 HY.out) 0 rfl
  have q1 := blk_cell (blk_bw hb2 HY.out) 1 rfl
  have lx := blk_lt (blk_bw hb2 HX.out)
  have ly := blk_lt (blk_bw hb2 HY.out)
  by_cases hk : ka = kb
  · have hk1 : (ka != kb) = false := by simp [hk]
    rw [if_neg (by simp [hk])] at hgo
    have HK := Lib.hid hk
    clear hk
    by_cases hne : q = q'
    · rw [if_neg (by simp [hne])] at hgo
      have hn1 : (q != q') = false := by simp [hne]
      subst hne
      have HGO := Lib.hid hgo
      clear hgo
      go_wp2
      go_ret
      exact ⟨ret_b HGO.out.symm, hbw⟩
    · rw [if_pos (by simpa using fun e => hne (by omega))] at hgo
      have hn1 : ((q : Int) != (q' : Int)) = true := by simp; omega
      have HGO := Lib.hid hgo
      have HNE := Lib.hid hne
      clear hgo hne
      go_wp2
      go_ret
      exact ⟨ret_b (by rw [HGO.out]; simp), hbw⟩
  · have hk1 : (ka != kb) = true := by simp [hk]
    rw [if_pos (by simp [hk])] at hgo
    have HK := Lib.hid hk
    have HGO := Lib.hid hgo
    clear hk hgo
    go_wp2
    go_ret
    exact ⟨ret_b HGO.out.symm, hbw⟩

/-- The factor that the reference takes along. -/
def facOf (l : List Tk) (pol : Int) : Fr × Bool := if pol = 0 then (⟨1, 1⟩, true) else ((factor l).1, (factor l).2 && decide (pol = 1))
set_option maxRecDepth 100000 in
set_option maxHeartbeats 800000 in
theorem l7Policy_any (ao : Option Addr) (c : Nat) (w : World) (l : List Tk) (pol : Int) (hl : l.length ≤ 1048576) (hr : RT w ao l) :
    Calls Tryd.prog 51 #[.slice ao l.length c, .int .i64 pol] w fun e w' => e = .returned (.tuple #[frV (facOf l pol).1, .bool (facOf l pol).2]) ∧ Bw w w' := by
  have HR := Lib.hid hr
  clear hr
  by_cases h0 : pol = 0
  · subst h0
    have e0 : ((0 : Int) == 0) = true := rfl
    go_enter Tryd.func51, Tryd.ntmps51
    go_wp2_with fail
    refine (l5One_any _).mono ?_
    rintro e w1 ⟨rfl, hb1⟩
    have z := box_last hb1
    have z0 := blk_cell z 0 rfl
    have z1 := blk_cell z 1 rfl
    have zl := blk_lt z
    have zf := fun j => blk_free z j
    have hw1 := bw_trans (bw_alloc _ _) hb1
    have Z := Lib.hid z
    clear z
    go_wp2
    refine bodyPost_ret (v := .tuple #[frV ⟨1, 1⟩, .bool true]) (by simp [results, Tryd.results51, go_sem, z0, z1]) rfl ?_
    exact ⟨by simp [facOf], bw_set (bw_set hw1 (Nat.le_refl _) _ _) (Nat.le_refl _) _ _⟩
  · have e0 : (pol == 0) = false := by simp [h0]
    have hfo : facOf l pol = ((factor l).1, (factor l).2 && decide (pol = 1)) := by rw [facOf, if_neg h0]
    have H0 := Lib.hid h0
    have HFO := Lib.hid hfo
    clear h0 hfo
    go_enter Tryd.func51, Tryd.ntmps51
    go_wp2_with fail
    refine (FactorOf_spec _ _ _ l hl (HR.out.bw (bw_alloc _ _))).mono ?_
    obtain ⟨f, hf⟩ : ∃ f, (factor l).1 = f := ⟨_, rfl⟩
    obtain ⟨o, ho⟩ : ∃ o, (factor l).2 = o := ⟨_, rfl⟩
    rw [hf, ho]
    have HF := Lib.hid hf
    have HO := Lib.hid ho
    clear hf ho
    rintro e w1 ⟨rfl, hb1⟩
    have z := box_last hb1
    have z0 := blk_cell z 0 rfl
    have z1 := blk_cell z 1 rfl
    have zl := blk_lt z
    have zf := fun j => blk_free z j
    have hw1 := bw_trans (bw_alloc _ _) hb1
    have Z := Lib.hid z
    clear z
    have fin : ∀ g : Bool, g = (o && decide (pol = 1)) → ∀ W, Bw w W → Ending.returned (.tuple #[frV f, .bool g]) = .returned (.tuple #[frV (facOf l pol).1, .bool (facOf l pol).2]) ∧ Bw w W := fun g hg W hW => ⟨by rw [HFO.out, HF.out, HO.out, hg], hW⟩
    have FIN := Lib.hid fin
    clear fin
    cases o with
    | false =>
      go_wp2
      refine bodyPost_ret (v := .tuple #[frV f, .bool false]) (by simp [results, Tryd.results51, go_sem, z0, z1, zl]) rfl ?_
      exact FIN.out _ rfl _ (bw_trans (bw_set (bw_set hw1 (Nat.le_refl _) _ _) (Nat.le_refl _) _ _) (bw_alloc _ _))
    | true =>
      by_cases h1 : pol = 1
      · subst h1
        have e1 : ((1 : Int) == 1) = true := rfl
        go_wp2
        refine bodyPost_ret (v := .tuple #[frV f, .bool true]) (by simp [results, Tryd.results51, go_sem, z0, z1, zl]) rfl ?_
        exact FIN.out _ rfl _ (bw_trans (bw_set (bw_set hw1 (Nat.le_refl _) _ _) (Nat.le_refl _) _ _) (bw_alloc _ _))
      · have e1 : (pol == 1) = false := by simp [h1]
        have H1 := Lib.hid h1
        clear h1
        go_wp2
        refine bodyPost_ret (v := .tuple #[frV f, .bool false]) (by simp [results, Tryd.results51, go_sem, z0, z1, zl]) rfl ?_
        exact FIN.out _ (by simp [H1.out]) _ (bw_trans (bw_set (bw_set hw1 (Nat.le_refl _) _ _) (Nat.le_refl _) _ _) (bw_alloc _ _))
end Go.Proofs.YtaadlgpglfpmpaaDoor

/-
  The walk of the reference's l7Switch: needs become high.
-/

namespace Go.Proofs.YtaadlgpglfpmpaaDoor
open Go.RowKit

def swS (l : List Tk) (js : List Jb) (t1 : Int) (s : St) : St := { s with high := true, switches := s.switches ++ [t1], ended := dropAll l js s.left s.ended, left := s.left.filter (critOf l js) }
theorem wk_filter (d : List Int) (q : List Nat) (f : Nat → Bool) : wk d (q.filter f) = (wk d q).filter (fun p => f p.1) := by
  simp [wk, List.filter_map, Function.comp_def]

set_option maxRecDepth 100000 in
set_option maxHeartbeats 3200000 in
theorem l7Switch_any (ao bo : Option Addr) (c d n t : Nat) (w0 w : World) (l : List Tk) (js : List Jb) (vE vT vS vW : Value) (x : Fr) (s : St) (hok : jobsOk l js = true) (hr : RT w0 ao l) (hs : RJ w0 bo js) (hRows : Rows w0 w vE vT vS vW (.slice .none 0 0) s []) (hlen : s.left.length ≤ js.length) (hlt : ∀ i ∈ s.left, i < js.length) (hel : s.ended.length = js.length) (hsw : s.switches.length ≤ t) (hld : ∀ i ∈ s.left, ∃ d, s.done[i]? = some d) (ht : t ≤ 201) :
    Calls Tryd.prog 83 #[.slice ao l.length c, .slice bo js.length d, .agg #[vE, vT, vS, .bool s.high, vW, .int .i64 n, .int .i64 x.p, .int .i64 x.q], .int .i64 t] w (SpR w0 w (rowsL vE vT vS vW (.slice .none 0 0)) x (swS l js t s) n) := by
  have h60 := jobs_len hok
  have hst := SM.start (nx := n) (x := x) (Z := #[.slice .none 0 0, .slice .none 0 0, .slice .none 0 0, .bool false, .slice .none 0 0, .int .i64 0, .int .i64 0, .int .i64 0]) (E2 := 81) hRows
  have hb1 : Bw w ((w.alloc (.cells #[vE, vT, vS, .bool s.high, vW, .int .i64 n, .int .i64 x.p, .int .i64 x.q] 81)).alloc (.cells #[.slice .none 0 0, .slice .none 0 0, .slice .none 0 0, .bool false, .slice .none 0 0, .int .i64 0, .int .i64 0, .int .i64 0] 81)) := bw_trans (bw_alloc _ _) (bw_alloc _ _)
  have hzl : w.heap.size + 1 < ((w.alloc (.cells #[vE, vT, vS, .bool s.high, vW, .int .i64 n, .int .i64 x.p, .int .i64 x.q] 81)).alloc (.cells #[.slice .none 0 0, .slice .none 0 0, .slice .none 0 0, .bool false, .slice .none 0 0, .int .i64 0, .int .i64 0, .int .i64 0] 81)).heap.size := by simp
  have hbs := hRows.bw.size
  obtain ⟨i0, hi0, hz0, hz1, hz2⟩ := info_parts infoWork
  have HR := Lib.hid hr
  have HS := Lib.hid hs
  have HST := Lib.hid hst
  have HB1 := Lib.hid hb1
  have HZL := Lib.hid hzl
  have HOK := Lib.hid hok
  have HROWS := Lib.hid hRows
  have HLD := Lib.hid hld
  have HLT := Lib.hid hlt
  have HEL := Lib.hid hel
  clear hr hs hst hb1 hzl hok hRows hld hlt hel
  go_enter Tryd.func83, Tryd.ntmps83
  go_upto_region 1 with fail
  obtain ⟨w1, e1⟩ : ∃ w1 : World, ((w.alloc (.cells #[vE, vT, vS, .bool s.high, vW, .int .i64 n, .int .i64 x.p, .int .i64 x.q] 81)).alloc (.cells #[.slice .none 0 0, .slice .none 0 0, .slice .none 0 0, .bool false, .slice .none 0 0, .int .i64 0, .int .i64 0, .int .i64 0] 81)) = w1 := ⟨_, rfl⟩
  rw [e1] at HST HB1 HZL ⊢
  clear e1
  obtain ⟨hS0, hz, hzn⟩ := HST.out
  clear HST
  have HZ := Lib.hid hz
  have HZN := Lib.hid hzn
  clear hz hzn
  have hS1 := hS0.new_q
  have HS0 := Lib.hid hS0
  have HS1 := Lib.hid hS1
  clear hS0 hS1
  go_wp2_with fail
  go_loopw [9, 10] (fun u i wr => ∃ (p : Nat) (e' : List Int) (ks : List (Nat × Int)) (aK : Option Addr) (cK : Nat), p ≤ s.left.length ∧ i = .int .i64 p ∧ u = .slice aK ks.length cK ∧ Hid (SM w0 w1 wr (some w.heap.size :: rowsL vE vT vS vW (.slice .none 0 0)) w.heap.size n vE vT vS vW (.slice aK ks.length cK) x { s with ended := e' } ks) ∧ Hid (e'.length = js.length) ∧ Hid (dropAll l js s.left s.ended = dropAll l js (s.left.drop p) e') ∧ Hid (wk s.done (s.left.filter (critOf l js)) = ks ++ wk s.done ((s.left.drop p).filter (critOf l js)))) (fun _ i _ => s.left.length - (intOf i).toNat)
  case atStart => exact ⟨0, s.ended, [], some ⟨w1.heap.size, 0, .none⟩, 0, Nat.zero_le _, rfl, rfl, HS1.out, HEL.out, rfl, rfl⟩
  case round =>
    obtain ⟨p, e', ks, aK, cK, hp, rfl, rfl, hS, hel', hdp, hkq⟩ := hrel
    have hkl : ks.length ≤ 60 := by
      have h1 := congrArg List.length hkq.out
      have h2 := List.length_filter_le (critOf l js) s.left
      simp [wk_len] at h1; omega
    obtain ⟨aW, cW, eW⟩ := own_form hS.out.rows.k
    obtain ⟨aE, cE, eE⟩ := own_form hS.out.rows.e
    obtain ⟨aT, cT, eT⟩ := own_form hS.out.rows.t
    obtain ⟨aS, cS, eS⟩ := own_form hS.out.rows.sw
    dsimp only at eE eT eS eW
    subst eE eT eS eW
    obtain ⟨b0, b1, b2, b3, b4, b5, b6, b7⟩ := box8 hS.out.box
    have bf := fun j => blk_free hS.out.box j
    have lB := blk_lt hS.out.box
    by_cases hplt : p < s.left.length
    · obtain ⟨iq, hiq⟩ := getSome hplt
      have hmem := List.mem_of_getElem? hiq
      have hil : iq < js.length := HLT.out iq hmem
      obtain ⟨dq, hdq⟩ := HLD.out iq hmem
      obtain ⟨gW, cW', eW', hclc, lg, hc0, hc1⟩ := hS.out.rows.cellW (p := p) hiq hdq
      simp only [Value.slice.injEq] at eW'
      obtain ⟨rfl, _, rfl⟩ := eW'
      obtain ⟨qk, yk, zk, Tk', hjk, htk, hTo, _, _, _, _, hql⟩ := job_task HOK.out hil
      obtain ⟨bj, oj, hbo, hbsj, c0, c1, c2⟩ := (HS.out.bw hS.out.rows.bw) _ _ hjk
      subst hbo
      dsimp only at c0 c1 c2
      obtain ⟨b3', off3, hao3, hbs3, t0, t1, t2, t3, t4⟩ := (HR.out.bw hS.out.rows.bw) _ _ htk
      subst hao3
      have hcr : critOf l js iq = Tk'.crit := by simp [critOf, tkOf, hjk, htk]
      have hdr : s.left.drop p = iq :: s.left.drop (p + 1) := by
        rw [List.drop_eq_getElem_cons hplt]
        rw [List.getElem?_eq_getElem hplt] at hiq
        simp at hiq; rw [hiq]
      have hdp2 := hdp.out
      have hkq2 := hkq.out
      rw [hdr, dropAll] at hdp2
      rw [hdr, List.filter_cons] at hkq2
      obtain ⟨cr, ec⟩ : ∃ cr, Tk'.crit = cr := ⟨_, rfl⟩
      rw [ec] at t4 hcr
      rw [hcr] at hdp2 hkq2
      clear hdr hmem
      have hdq' : s.done[iq]?.getD 0 = dq := by rw [hdq]; rfl
      have HIQ := Lib.hid hiq
      have HDQ := Lib.hid hdq
      have HJK := Lib.hid hjk
      have HTK := Lib.hid htk
      have HTO := Lib.hid hTo
      have HCR := Lib.hid hcr
      have EC := Lib.hid ec
      have HDP2 := Lib.hid hdp2
      clear hiq hdq hjk htk hTo hcr ec hdp2
      cases cr with
      | true =>
        rw [if_pos rfl] at hkq2
        have hkq3 : wk s.done (s.left.filter (critOf l js)) = (ks ++ [(iq, dq)]) ++ wk s.done ((s.left.drop (p + 1)).filter (critOf l js)) := by rw [hkq2]; simp [wk, hdq']
        have hS3 := hS.out.on (bw_alloc _ (.cells #[.int .i64 iq, .int .i64 dq] 108))
        clear hkq2
        have HKQ3 := Lib.hid hkq3
        have HS3 := Lib.hid hS3
        have HDQ' := Lib.hid hdq'
        clear hkq3 hS3 hdq'
        go_wp2_with (at_builtin; refine wpList_app rfl _ _ 79 108 i0 zWork 2 16 rfl w0.heap.size Tryd.underlying79 hi0 hz0 hz1 hz2 rfl (by decide) ks.length _ _ rfl HS3.out.rows.q ⟨wr.heap.size, 0, .none⟩ 1 1 [vi iq, .int .i64 dq] rfl rfl (cell_work_new _ _ _) (oneW _ _) (by unfold maxLen; omega) (by omega) HS3.out.rows.bw.size ?_; intro ao' c' w3 hown' hgrow' hwhere'; have HS5 := Lib.hid (HS3.out.app_q rfl hown' hgrow' hwhere'); clear hown' hgrow' hwhere')
        go_roundw
        case rel => exact ⟨p + 1, e', ks ++ [(iq, dq)], ao', c', by omega, by go_num, by simp, by simpa [Hid] using HS5.out, hel'.out, HDP2.out, HKQ3.out⟩
        case measure => simp [intOf]; omega
      | false =>
        rw [if_neg (by simp)] at hkq2
        obtain ⟨ev, hev⟩ := getSome (l := e') (k := iq) (by rw [hel'.out]; exact hil)
        have hell := (List.getElem?_eq_some_iff.1 hev).1
        obtain ⟨gE, cE', eE, lE, ce, cf, hS3⟩ := hS.out.setEnded (i := iq) (old := ev) hev (-2)
        simp only [Value.slice.injEq] at eE
        obtain ⟨rfl, _, rfl⟩ := eE
        have HKQ2 := Lib.hid hkq2
        have HS3 := Lib.hid hS3
        have HEV := Lib.hid hev
        have HDQ' := Lib.hid hdq'
        clear hkq2 hS3 hev hdq'
        go_wp2_with fail
        go_roundw
        case rel => exact ⟨p + 1, e'.set iq (-2), ks, aK, cK, by omega, by go_num, rfl, HS3.out, by show _ = _; rw [List.length_set]; exact hel'.out, HDP2.out, HKQ2.out⟩
        case measure => simp [intOf]; omega
    · obtain rfl : p = s.left.length := by omega
      have hde : dropAll l js s.left s.ended = e' := by rw [hdp.out, List.drop_length]; rfl
      have hks : wk s.done (s.left.filter (critOf l js)) = ks := by rw [hkq.out, List.drop_length]; simp [wk]
      have hkl2 : (s.left.filter (critOf l js)).length = ks.length := by rw [← hks, wk_len]
      have hS3 := hS.out.moveQ (q := s.left.filter (critOf l js)) hks
      clear hdp hkq
      have HDE := Lib.hid hde
      have HKS := Lib.hid hks
      have HS3 := Lib.hid hS3
      have HKL2 := Lib.hid hkl2
      clear hde hks hS3 hkl2
      go_upto_region 10 with fail
      obtain ⟨w3, e3⟩ : ∃ w3 : World, wr.setCell ⟨w.heap.size, 4, .none⟩ (.slice aK ks.length cK) = w3 := ⟨_, rfl⟩
      rw [e3] at HS3 ⊢
      clear e3 b0 b1 b2 b3 b4 b5 b6 b7 bf lB hS
      obtain ⟨b0, b1, b2, b3, b4, b5, b6, b7⟩ := box8 HS3.out.box
      have bf := fun j => blk_free HS3.out.box j
      have lB := blk_lt HS3.out.box
      have HS4 := Lib.hid (HS3.out.setHigh true)
      go_upto_region 11 with fail
      obtain ⟨w4, e4⟩ : ∃ w4 : World, w3.setCell ⟨w.heap.size, 3, .none⟩ (.bool true) = w4 := ⟨_, rfl⟩
      rw [e4] at HS4 ⊢
      clear e4 b0 b1 b2 b3 b4 b5 b6 b7 bf lB HS3
      obtain ⟨b0, b1, b2, b3, b4, b5, b6, b7⟩ := box8 HS4.out.box
      have lB := blk_lt HS4.out.box
      have HS5 := Lib.hid (HS4.out.on (bw_alloc _ (.cells #[.int .i64 t] 3)))
      go_upto_region 12 with (at_builtin; refine wpList_app_int rfl _ _ rfl w0.heap.size s.switches.length _ s.switches (t : Int) rfl HS5.out.rows.sw _ rfl (cell_new0 _ _ _) (by omega) HS5.out.rows.bw.size ?_; intro ao' c' w5 hown' hgrow' hwhere'; have hA := HS5.out.app_s trivial rfl hown' hgrow' hwhere'; have r2 := blk_cell hA.1 2 rfl; have r2f := blk_free hA.1 2; have HS6 := Lib.hid hA.2; clear hA hown' hgrow' hwhere' b0 b1 b2 b3 b4 b5 b6 b7)
      obtain ⟨w6, e6⟩ : ∃ w6 : World, w5.setCell ⟨w.heap.size, 2, .none⟩ (.slice ao' (s.switches.length + 1) c') = w6 := ⟨_, rfl⟩
      rw [e6] at HS6 ⊢
      clear e6 r2 r2f HS4 HS5 lB
      obtain ⟨b0, b1, b2, b3, b4, b5, b6, b7⟩ := box8 HS6.out.box
      have lB := blk_lt HS6.out.box
      have z := HS6.out.turn.heap HZ.out HZN.out
      obtain ⟨z0, z1, z2, z3, z4, z5, z6, z7⟩ := box8 z
      have zl := blk_lt z
      have zf := fun j => blk_free z j
      have hzn2 := HS6.out.out_of HZN.out HZL.out
      have Z := Lib.hid z
      have HZN2 := Lib.hid hzn2
      clear z hzn2
      go_wp2
      refine bodyPost_ret (v := .agg #[.slice aE e'.length cE, .slice aT s.trace.length cT, .slice ao' (s.switches.length + 1) c', .bool true, .slice aK ks.length cK, .int .i64 n, .int .i64 x.p, .int .i64 x.q]) (by simp [results, Tryd.results83, go_sem, z0, z1, z2, z3, z4, z5, z6, z7]) rfl ?_
      have hfin : swS l js t s = { s with ended := e', high := true, switches := s.switches ++ [(t : Int)], left := s.left.filter (critOf l js) } := by rw [swS, HDE.out]
      rw [hfin]
      exact HS6.out.endR HB1.out (Nat.le_refl _) (w.heap.size + 1) (turn8 _ _ _ _ _ _ _ _ _ _) (by omega) HZN2.out (by omega)
end Go.Proofs.YtaadlgpglfpmpaaDoor

/-
  The record of the reference's run over a call: taken back, based anew. No condition.
-/


namespace Go.Proofs.YtaadlgpglfpmpaaDoor
open Go.RowKit

section
variable {w0 w w1 wr w2 : World} {L : List (Option Nat)} {B nx nx' : Nat} {vE vT vS vW vK vE' vT' vS' vW' : Value} {x : Fr} {s s' : St} {ks : List (Nat × Int)}

/-- A record that a callee gave back is stored in the box. -/
theorem SM.take (h : SM w0 w1 wr L B nx vE vT vS vW vK x s ks) (hR : Rows w0 w2 vE' vT' vS' vW' (.slice .none 0 0) s' []) (hT : Turn (rowsL vE vT vS vW vK) wr w2) (hin : ∀ g, some g ∈ rowsL vE' vT' vS' vW' (.slice .none 0 0) → some g ∈ rowsL vE vT vS vW vK ∨ wr.heap.size ≤ g) :
    SM w0 w1 ((((((((w2.setCell ⟨B, 0, .none⟩ vE').setCell ⟨B, 1, .none⟩ vT').setCell ⟨B, 2, .none⟩ vS').setCell ⟨B, 3, .none⟩ (.bool s'.high)).setCell ⟨B, 4, .none⟩ vW').setCell ⟨B, 5, .none⟩ (.int .i64 nx')).setCell ⟨B, 6, .none⟩ (.int .i64 x.p)).setCell ⟨B, 7, .none⟩ (.int .i64 x.q)) L B nx' vE' vT' vS' vW' (.slice .none 0 0) x s' [] := by
  have hB := hT.heap h.box h.nb
  have hlB := blk_lt h.box
  have nb : some B ∉ rowsL vE' vT' vS' vW' (.slice .none 0 0) := fun m => (hin B m).elim h.nb (fun h1 => by omega)
  have t8 := turn8 w2 B vE' vT' vS' (.bool s'.high) vW' (.int .i64 nx') (.int .i64 x.p) (.int .i64 x.q)
  have hgr : w2.grownBy ((((((((w2.setCell ⟨B, 0, .none⟩ vE').setCell ⟨B, 1, .none⟩ vT').setCell ⟨B, 2, .none⟩ vS').setCell ⟨B, 3, .none⟩ (.bool s'.high)).setCell ⟨B, 4, .none⟩ vW').setCell ⟨B, 5, .none⟩ (.int .i64 nx')).setCell ⟨B, 6, .none⟩ (.int .i64 x.p)).setCell ⟨B, 7, .none⟩ (.int .i64 x.q)) (some B) := ⟨t8.os, t8.tape, t8.output, t8.size, fun g hg hne => t8.block g hg (by simpa using fun e => hne (by simp [e]))⟩
  refine ⟨hR.turn hgr h.lo0 nb, ?_, nb, ?_, fun g m => ?_, h.lo, h.lo0⟩
  · have h8 := blk_set (blk_set (blk_set (blk_set (blk_set (blk_set (blk_set (blk_set hB 0 vE') 1 vT') 2 vS') 3 (.bool s'.high)) 4 vW') 5 (.int .i64 nx')) 6 (.int .i64 x.p)) 7 (.int .i64 x.q)
    simpa using h8
  · exact (h.turn.trans hT (fun g m => h.inL g m)).trans t8 (fun g m => by simp at m; subst m; exact h.lo)
  · rcases hin g m with h1 | h1
    · exact h.inL g h1
    · exact .inr (Nat.le_trans h.turn.size h1)
/-- Another box is made: what follows is said from here on. -/
theorem SM.rebase (h : SM w0 w1 wr L B nx vE vT vS vW vK x s ks) : SM w0 wr wr (some B :: rowsL vE vT vS vW vK) B nx vE vT vS vW vK x s ks :=
  ⟨h.rows, h.box, h.nb, Turn.refl _ _, fun g m => .inl (List.mem_cons_of_mem _ m), .inl (by simp), h.lo0⟩
theorem SM.unbase (h : SM w0 w1 wr L B nx vE vT vS vW vK x s ks) (h' : SM w0 wr w2 (some B :: rowsL vE vT vS vW vK) B nx' vE' vT' vS' vW' (.slice .none 0 0) x s' []) : SM w0 w1 w2 L B nx' vE' vT' vS' vW' (.slice .none 0 0) x s' [] := by
  have hin : ∀ g, some g ∈ some B :: rowsL vE vT vS vW vK → some g ∈ L ∨ w1.heap.size ≤ g := fun g m => by
    rw [List.mem_cons] at m
    rcases m with m | m
    · simp at m; subst m; exact h.lo
    · exact h.inL g m
  refine ⟨h'.rows, h'.box, h'.nb, h.turn.trans h'.turn hin, fun g m => ?_, h.lo, h.lo0⟩
  rcases h'.inL g m with h1 | h1
  · exact hin g h1
  · exact .inr (Nat.le_trans h.turn.size h1)
/-- A box beside the record stands. -/
theorem SM.beside (h : SM w0 w1 wr L B nx vE vT vS vW vK x s ks) {g : Nat} {o : Obj} (hg : w1.heap[g]? = some o) (hn : some g ∉ L) : wr.heap[g]? = some o := h.turn.heap hg hn
/-- A callee's record is the result. -/
theorem SM.callR {wE : World} {L : List (Option Nat)} (h : SM w0 w1 wr (some B :: L) B nx vE vT vS vW (.slice .none 0 0) x s []) (hb : Bw w w1) (hB : w.heap.size ≤ B) (hR : Rows w0 w2 vE' vT' vS' vW' (.slice .none 0 0) s' []) (hT : Turn (rowsL vE vT vS vW (.slice .none 0 0)) wr w2)
    (hin : ∀ g, some g ∈ rowsL vE' vT' vS' vW' (.slice .none 0 0) → some g ∈ rowsL vE vT vS vW (.slice .none 0 0) ∨ wr.heap.size ≤ g) (b2 : Nat) (hE : Turn [some b2] w2 wE) (h2 : w.heap.size ≤ b2) (hn : some b2 ∉ rowsL vE vT vS vW (.slice .none 0 0)) (hl2 : b2 < wr.heap.size) (h02 : w0.heap.size ≤ b2) :
    SpR w0 w L x s' nx' (.returned (.agg #[vE', vT', vS', .bool s'.high, vW', .int .i64 nx', .int .i64 x.p, .int .i64 x.q])) wE := by
  have hn' : some b2 ∉ rowsL vE' vT' vS' vW' (.slice .none 0 0) := fun m => (hin b2 m).elim hn (fun h1 => by omega)
  have hgr : w2.grownBy wE (some b2) := ⟨hE.os, hE.tape, hE.output, hE.size, fun g hg hne => hE.block g hg (by simpa using fun e => hne (by simp [e]))⟩
  have old : ∀ g, some g ∈ rowsL vE vT vS vW (.slice .none 0 0) → some g ∈ L ∨ w.heap.size ≤ g := fun g m => by
    have h1 := h.inL g m
    rw [List.mem_cons] at h1
    rcases h1 with (h1 | h1) | h1
    · simp at h1; subst h1; exact (h.nb m).elim
    · exact .inl h1
    · exact .inr (Nat.le_trans hb.size h1)
  have t1 : Turn L w w1 := Turn.bw hb
  have t2 := t1.trans h.turn (fun g m => by
    rw [List.mem_cons] at m
    rcases m with m | m
    · simp at m; subst m; exact .inr hB
    · exact .inl m)
  refine ⟨vE', vT', vS', vW', rfl, hR.turn hgr h02 hn', (t2.trans hT old).trans hE (fun g m => by simp at m; subst m; exact .inr h2), fun g m => ?_⟩
  rcases hin g m with h1 | h1
  · exact old g h1
  · exact .inr (Nat.le_trans (Nat.le_trans hb.size h.turn.size) h1)
/-- Cells of what is left, from place k on. -/
theorem wk_from {w : World} {base : Nat} {ao : Option Addr} {n c : Nat} {W : List (Nat × Int)} (h : w.ownsRow base 108 2 (.slice ao n c) n (wks W)) (hn : W.length = n) (h1 : 1 ≤ n) :
    ∃ g, ao = some ⟨g, 0, .none⟩ ∧ n ≤ c ∧ g < w.heap.size ∧ (∀ k, ∀ w', Bw w w' → ∀ j u, (wks (W.take k))[j]? = some u → w'.cell? ((⟨g, 0, .none⟩ : Addr).add j) = some u) ∧
      ∀ k, ∃ A : Addr, (if c = k then some (⟨g, 0, .none⟩ : Addr) else some ⟨g, k * 2, .none⟩) = some A ∧ ∀ w', Bw w w' → ∀ j u, (wks (W.drop k))[j]? = some u → w'.cell? (A.add j) = some u := by
  rcases h with ⟨hl, h⟩
  rcases h with ⟨_, h0⟩ | ⟨g, cap, cur, e, hb, hg, hnc, hcm, hcs, ht⟩
  · omega
  · simp only [Value.slice.injEq] at e
    obtain ⟨rfl, _, rfl⟩ := e
    have hcell : ∀ w', Bw w w' → ∀ j u, (wks W)[j]? = some u → w'.cell? ⟨g, j, .none⟩ = some u := fun w' hb' j u hu => by
      refine blk_cell (blk_bw hb' hg) j ?_
      rw [← Array.getElem?_toList]
      rw [← ht, List.getElem?_take] at hu
      split at hu
      · exact hu
      · simp at hu
    refine ⟨g, rfl, hnc, blk_lt hg, fun k w' hb' j u hu => ?_, fun k => ?_⟩
    · rw [wks_take, List.getElem?_take] at hu
      split at hu
      · rw [add_none, Nat.zero_add]; exact hcell w' hb' j u hu
      · simp at hu
    · by_cases hck : c = k
      · refine ⟨⟨g, 0, .none⟩, by rw [if_pos hck], fun w' hb' j u hu => ?_⟩
        rw [List.drop_eq_nil_of_le (by omega)] at hu; simp [wks] at hu
      · refine ⟨⟨g, k * 2, .none⟩, by rw [if_neg hck], fun w' hb' j u hu => ?_⟩
        rw [wks_drop, List.getElem?_drop] at hu
        rw [add_none]; exact hcell w' hb' _ u hu
end
/-- By place the factor does not matter. -/
theorem ticks_place (l : List Tk) (js : List Jb) (x y : Fr) : ∀ (m t : Nat) (s : St), ticks l js false x m t s = ticks l js false y m t s
  | 0, _, _ => rfl
  | m + 1, t, s => by
    have hg : ∀ h, goesB l js false x h = goesB l js false y h := fun h => by funext a b; exact goes_place_any l js x y h h a b
    have ht : tick l js false x t s = tick l js false y t s := by
      unfold tick
      obtain ⟨s1, e⟩ : ∃ s1, comeFrom l js t js.length 0 (low0 s) = s1 := ⟨_, rfl⟩
      rw [e]
      unfold work
      rw [hg]
    rw [ticks, ticks, ht, ticks_place l js x y m]
end Go.Proofs.YtaadlgpglfpmpaaDoor
