/-
  The memory of a run: its record, the rows in it, and what one step may turn. No condition.
-/
import Derived.Test.YtaadlgpglfpmpaaDoorTo
import Derived.Test.YtaadlgpglfpmpaaDoorGC

namespace Go.Proofs.YtaadlgpglfpmpaaDoor
open Go.RowKit

theorem heap_grown {w w' : World} {row : Option Nat} (h : w.grownBy w' row) {g : Nat} {x : Obj} (hg : w.heap[g]? = some x) (hne : row ≠ some g) : w'.heap[g]? = some x := by
  rw [h.block g (blk_lt hg) (fun e => hne e.symm)]; exact hg
theorem grown_set (w : World) (g j : Nat) (v : Value) : w.grownBy (w.setCell ⟨g, j, none⟩ v) (some g) :=
  ⟨rfl, rfl, rfl, by simp, fun k hk hne => Below.heap_setCell _ _ _ _ (fun e => hne (by rw [e]))⟩
theorem grown_bw {w w' : World} (h : Bw w w') : w.grownBy w' none := ⟨h.os, h.tape, h.output, h.size, fun k hk _ => h.block k hk⟩

/-- After an append the row lies where it lay, or in a new block. -/
theorem append_where {w w' : World} {v v' : Value} {base n : Nat} {xs : List Int} {y : Int} {i0 : TypeInfo} (hi : Tryd.prog.info? 3 = some i0) (hz : i0.zero = some (.int .i64 0)) (hs : i0.size = 1) (hb : i0.bytes = 8)
    (hown : w.ownsRow base 3 1 v n (ints xs)) {g : Nat} (hc : w.cell? ⟨g, 0, none⟩ = some (vi y)) (hn : n ≤ 1000000) {ty : TypeId}
    (hr : (Builtin.append_ #[23, 23] ty #[v, .slice (some ⟨g, 0, none⟩) 1 1]).run Tryd.prog w = .ok v' w') : v'.ownBlock = v.ownBlock ∨ v'.ownBlock = some w.heap.size := by
  have hnews : ∀ j u, [vi y][j]? = some u → w.cell? ((⟨g, 0, none⟩ : Addr).add j) = some u := fun j u h => by
    match j, h with
    | 0, h => simp at h; subst h; simpa [Addr.add] using hc
    | j + 1, h => simp at h
  have h1 := oneI y
  rcases hown.2 with ⟨rfl, h0⟩ | ⟨gb, cap, cur, rfl, hbg, hg, hnc, hcm, hcs, htake⟩
  · have h2 := run_append_nil (P := Tryd.prog) w 23 ty 3 i0 (.int .i64 0) Tryd.underlying23 hi hz ⟨g, 0, none⟩ 1 1 [vi y] (by simp [hs]) hnews (by omega) (by omega) (by rw [hb]; omega)
    rw [h2] at hr
    injection hr with e1 _
    rw [← e1]; exact .inr rfl
  · by_cases hroom : n + 1 ≤ cap
    · have h2 := run_append_room (P := Tryd.prog) w 23 ty 3 i0 Tryd.underlying23 hi gb n cap cur hg ⟨g, 0, none⟩ 1 1 [vi y] (by simp [hs]) hnews h1 hroom (by rw [hs, hcs]; simp; omega)
      rw [h2] at hr
      injection hr with e1 _
      rw [← e1]; exact .inl rfl
    · have holds : ∀ j u, (ints xs)[j]? = some u → w.cell? ((⟨gb, 0, none⟩ : Addr).add j) = some u := hown.cells (g := gb) rfl
      have h2 := run_append_grow (P := Tryd.prog) w 23 ty 3 i0 (.int .i64 0) Tryd.underlying23 hi hz ⟨gb, 0, none⟩ n cap (ints xs) (by rw [hs]; exact hown.1) holds ⟨g, 0, none⟩ 1 1 [vi y] (by simp [hs]) hnews (by omega) (by omega) (by rw [hb]; exact growslice_fits (by omega) (by omega))
      rw [h2] at hr
      injection hr with e1 _
      rw [← e1]; exact .inr rfl

theorem wpList_app_int {w : World} {ops : Array Oper} {rest : List Oper} {o : Oper} {a : Act} {Q : Exit → Act → World → Prop} (hgd : o.guard = none) (s x : Operand)
    (ho : o.op = .call { callee := .builtin .append, args := #[s, x], argTypes := #[23, 23] }) (base n : Nat) (v : Value) (xs : List Int) (y : Int)
    (hs : a.eval s = v) (hown : w.ownsRow base 3 1 v n (ints xs)) (g : Nat) (hx : a.eval x = .slice (some ⟨g, 0, none⟩) 1 1) (hc : w.cell? ⟨g, 0, none⟩ = some (vi y)) (hn : n ≤ 1000000) (hbase : base ≤ w.heap.size)
    (h : ∀ ao c w', w'.ownsRow base 3 1 (.slice ao (n + 1) c) (n + 1) (ints (xs ++ [y])) → w.grownBy w' v.ownBlock → ((Value.slice ao (n + 1) c).ownBlock = v.ownBlock ∨ (Value.slice ao (n + 1) c).ownBlock = some w.heap.size) → wpList Tryd.prog ops Q rest (a.put o.dst (.slice ao (n + 1) c)) w') :
    wpList Tryd.prog ops Q (o :: rest) a w := by
  obtain ⟨i0, hi, hz, hsz, hby⟩ := info_parts infoInt
  have hnews : ∀ j u, [vi y][j]? = some u → w.cell? ((⟨g, 0, none⟩ : Addr).add j) = some u := fun j u h => by
    match j, h with
    | 0, h => simp at h; subst h; simpa [Addr.add] using hc
    | j + 1, h => simp at h
  refine wpList_plain hgd fun _ hK => ?_
  obtain ⟨v', w', hr, h2, h3, _⟩ := run_append_own (P := Tryd.prog) w base 23 o.type 3 i0 (.int .i64 0) 1 8 Tryd.underlying23 hi hz hsz hby rfl (by omega) v n (ints xs) hown ⟨g, 0, none⟩ 1 1 [vi y] (by simp) hnews (oneI y) (by unfold maxLen; omega) (by omega) hbase
  have hw := append_where hi hz hsz hby hown hc hn hr
  obtain ⟨ao, c, rfl⟩ := own_form h2
  unfold Oper.wp execOp
  simp only [ho, resolve, invoke, builtin, Sem.run_bind, Sem.run_pure, Result.andThen_ok, List.map_toArray, List.map_cons, List.map_nil, hs, hx, hr]
  exact hK _ _ (h ao c w' (by simpa [ints] using h2) h3 hw)

/-! ### Blocks of their own -/

def Dj (L : List (Option Nat)) : Prop := ∀ (i j g : Nat), L[i]? = some (some g) → L[j]? = some (some g) → i = j
theorem Dj.ne {L : List (Option Nat)} (h : Dj L) (i j : Nat) (hij : i ≠ j) {g : Nat} {x : Option Nat} (hi : L[i]? = some (some g)) (hj : L[j]? = some x) : x ≠ some g := fun e => hij (h i j g hi (by rw [hj, e]))
theorem Dj.set {L : List (Option Nat)} (h : Dj L) (k : Nat) {old x : Option Nat} (ho : L[k]? = some old) (hx : x = old ∨ x = none ∨ ∃ g : Nat, x = some g ∧ ∀ i : Nat, L[i]? ≠ some (some g)) : Dj (L.set k x) := by
  rcases hx with rfl | rfl | ⟨g0, rfl, hn⟩
  · rw [show L.set k x = L from by
      apply List.ext_getElem?; intro i; rw [List.getElem?_set]
      split
      · rename_i e; subst e; rw [ho]; simp [(List.getElem?_eq_some_iff.1 ho).1]
      · rfl]
    exact h
  · intro i j g hi hj
    rw [List.getElem?_set] at hi hj
    split at hi
    · split at hi <;> simp at hi
    · split at hj
      · split at hj <;> simp at hj
      · exact h i j g hi hj
  · intro i j g hi hj
    rw [List.getElem?_set] at hi hj
    split at hi
    · rename_i e1
      split at hi
      · simp at hi; subst hi
        split at hj
        · rename_i e2; omega
        · exact absurd hj (hn j)
      · simp at hi
    · split at hj
      · split at hj
        · simp at hj; subst hj; exact absurd hi (hn i)
        · simp at hj
      · exact h i j g hi hj

def nats (l : List Nat) : List Int := List.map (fun i : Nat => (i : Int)) l
theorem nats_len (l : List Nat) : (nats l).length = l.length := by simp [nats]
theorem nats_append (a b : List Nat) : nats (a ++ b) = nats a ++ nats b := by simp [nats]
theorem ints_set (l : List Int) (i : Nat) (x : Int) : ints (l.set i x) = (ints l).set i (vi x) := by simp [ints, List.map_set]

/-- The memory of a run: its record in R, when jobs ended in E, what was done in D, the function in F; the trace, the switches, the jobs that are left, those that are left still. -/
structure Mem (wA wr : World) (TF R E D F : Nat) (fv vt vs vl vk : Value) (s : St) (ks : List Nat) : Prop where
  bw : Bw wA wr
  lo : wA.heap.size ≤ R ∧ wA.heap.size ≤ E ∧ wA.heap.size ≤ D ∧ wA.heap.size ≤ F
  r : wr.heap[R]? = some (.cells #[.slice (some ⟨E, 0, none⟩) s.ended.length s.ended.length, vt, vs, .bool s.high] 25 (0, 0))
  f : wr.heap[F]? = some (.cells #[fv] TF (0, 0))
  e : ∃ cur, wr.heap[E]? = some (.cells cur 3 (0, 0)) ∧ cur.toList = ints s.ended
  d : ∃ cur, wr.heap[D]? = some (.cells cur 3 (0, 0)) ∧ cur.toList = ints s.done
  t : wr.ownsRow wA.heap.size 3 1 vt s.trace.length (ints s.trace)
  sw : wr.ownsRow wA.heap.size 3 1 vs s.switches.length (ints s.switches)
  l : wr.ownsRow wA.heap.size 3 1 vl s.left.length (ints (nats s.left))
  k : wr.ownsRow wA.heap.size 3 1 vk ks.length (ints (nats ks))
  dj : Dj [some R, some E, some D, some F, vt.ownBlock, vs.ownBlock, vl.ownBlock, vk.ownBlock]

section
variable {wA wr : World} {TF R E D F : Nat} {fv vt vs vl vk : Value} {s : St} {ks : List Nat}

theorem Mem.old (h : Mem wA wr TF R E D F fv vt vs vl vk s ks) {g : Nat} (i : Nat) (hi : [some R, some E, some D, some F, vt.ownBlock, vs.ownBlock, vl.ownBlock, vk.ownBlock][i]? = some (some g)) : wA.heap.size ≤ g ∧ g < wr.heap.size := by
  obtain ⟨l1, l2, l3, l4⟩ := h.lo
  obtain ⟨ce, he, _⟩ := h.e
  obtain ⟨cd, hd, _⟩ := h.d
  match i, hi with
  | 0, hi => simp at hi; subst hi; exact ⟨l1, blk_lt h.r⟩
  | 1, hi => simp at hi; subst hi; exact ⟨l2, blk_lt he⟩
  | 2, hi => simp at hi; subst hi; exact ⟨l3, blk_lt hd⟩
  | 3, hi => simp at hi; subst hi; exact ⟨l4, blk_lt h.f⟩
  | 4, hi => simp at hi; exact h.t.lt g hi
  | 5, hi => simp at hi; exact h.sw.lt g hi
  | 6, hi => simp at hi; exact h.l.lt g hi
  | 7, hi => simp at hi; exact h.k.lt g hi
  | n + 8, hi => simp at hi
theorem Mem.fresh (h : Mem wA wr TF R E D F fv vt vs vl vk s ks) {x old : Option Nat} (hx : x = old ∨ x = some wr.heap.size) : x = old ∨ x = none ∨ ∃ g : Nat, x = some g ∧ ∀ i : Nat, [some R, some E, some D, some F, vt.ownBlock, vs.ownBlock, vl.ownBlock, vk.ownBlock][i]? ≠ some (some g) := by
  rcases hx with h1 | h1
  · exact .inl h1
  · exact .inr (.inr ⟨_, h1, fun i hi => by have := (h.old i hi).2; omega⟩)
theorem row_keep {w w' : World} {row : Option Nat} {base Et size n : Nat} {v : Value} {xs : List Value} (h : w.ownsRow base Et size v n xs) (hg : w.grownBy w' row) (hne : ∀ g, row = some g → v.ownBlock ≠ some g) : w'.ownsRow base Et size v n xs := by
  refine h.kept hg ?_
  cases row with
  | none => cases hv : v.ownBlock <;> simp
  | some g => exact .inr (fun e => hne g rfl e)
theorem bw_grown {w0 w w' : World} {row : Option Nat} (hb : Bw w0 w) (hg : w.grownBy w' row) (hr : ∀ g, row = some g → w0.heap.size ≤ g) : Bw w0 w' := Below.grown hb hg hb.size hr

/-- Nothing of it has turned. -/
theorem Mem.on {w' : World} (h : Mem wA wr TF R E D F fv vt vs vl vk s ks) (hb : Bw wr w') : Mem wA w' TF R E D F fv vt vs vl vk s ks := by
  obtain ⟨ce, he, he'⟩ := h.e
  obtain ⟨cd, hd, hd'⟩ := h.d
  exact ⟨bw_trans h.bw hb, h.lo, blk_bw hb h.r, blk_bw hb h.f, ⟨ce, blk_bw hb he, he'⟩, ⟨cd, blk_bw hb hd, hd'⟩, row_keep h.t (grown_bw hb) (fun g e => by cases e), row_keep h.sw (grown_bw hb) (fun g e => by cases e), row_keep h.l (grown_bw hb) (fun g e => by cases e), row_keep h.k (grown_bw hb) (fun g e => by cases e), h.dj⟩

theorem Mem.setHigh (h : Mem wA wr TF R E D F fv vt vs vl vk s ks) (b : Bool) : Mem wA (wr.setCell ⟨R, 3, none⟩ (.bool b)) TF R E D F fv vt vs vl vk { s with high := b } ks := by
  obtain ⟨ce, he, he'⟩ := h.e
  obtain ⟨cd, hd, hd'⟩ := h.d
  have hg := grown_set wr R 3 (.bool b)
  have n1 := fun {j x} hj hx => h.dj.ne 0 j hj (g := R) (x := x) rfl hx
  have q1 : ∀ {j : Nat} {g : Nat}, 0 ≠ j → [some R, some E, some D, some F, vt.ownBlock, vs.ownBlock, vl.ownBlock, vk.ownBlock][j]? = some (some g) → (some R : Option Nat) ≠ some g := fun hj hx e => n1 hj hx e.symm
  exact ⟨bw_grown h.bw hg (fun g e => by simp at e; subst e; exact h.lo.1), h.lo, by simpa using blk_set h.r 3 (.bool b), heap_grown hg h.f (q1 (j := 3) (by omega) rfl), ⟨ce, heap_grown hg he (q1 (j := 1) (by omega) rfl), he'⟩, ⟨cd, heap_grown hg hd (q1 (j := 2) (by omega) rfl), hd'⟩,
    row_keep h.t hg (fun g e => by simp at e; subst e; exact n1 (j := 4) (by omega) rfl), row_keep h.sw hg (fun g e => by simp at e; subst e; exact n1 (j := 5) (by omega) rfl), row_keep h.l hg (fun g e => by simp at e; subst e; exact n1 (j := 6) (by omega) rfl), row_keep h.k hg (fun g e => by simp at e; subst e; exact n1 (j := 7) (by omega) rfl), h.dj⟩
theorem Mem.setEnded (h : Mem wA wr TF R E D F fv vt vs vl vk s ks) (i : Nat) (x : Int) : Mem wA (wr.setCell ⟨E, i, none⟩ (vi x)) TF R E D F fv vt vs vl vk { s with ended := s.ended.set i x } ks := by
  obtain ⟨ce, he, he'⟩ := h.e
  obtain ⟨cd, hd, hd'⟩ := h.d
  have hg := grown_set wr E i (vi x)
  have n1 := fun {j x} hj hx => h.dj.ne 1 j hj (g := E) (x := x) rfl hx
  have q1 : ∀ {j : Nat} {g : Nat}, 1 ≠ j → [some R, some E, some D, some F, vt.ownBlock, vs.ownBlock, vl.ownBlock, vk.ownBlock][j]? = some (some g) → (some E : Option Nat) ≠ some g := fun hj hx e => n1 hj hx e.symm
  exact ⟨bw_grown h.bw hg (fun g e => by simp at e; subst e; exact h.lo.2.1), h.lo, by simpa using heap_grown hg h.r (q1 (j := 0) (by omega) rfl), heap_grown hg h.f (q1 (j := 3) (by omega) rfl), ⟨ce.setIfInBounds i (vi x), blk_set he i (vi x), by rw [Array.toList_setIfInBounds, he', ints_set]⟩, ⟨cd, heap_grown hg hd (q1 (j := 2) (by omega) rfl), hd'⟩,
    row_keep h.t hg (fun g e => by simp at e; subst e; exact n1 (j := 4) (by omega) rfl), row_keep h.sw hg (fun g e => by simp at e; subst e; exact n1 (j := 5) (by omega) rfl), row_keep h.l hg (fun g e => by simp at e; subst e; exact n1 (j := 6) (by omega) rfl), row_keep h.k hg (fun g e => by simp at e; subst e; exact n1 (j := 7) (by omega) rfl), h.dj⟩
theorem Mem.setDone (h : Mem wA wr TF R E D F fv vt vs vl vk s ks) (i : Nat) (x : Int) : Mem wA (wr.setCell ⟨D, i, none⟩ (vi x)) TF R E D F fv vt vs vl vk { s with done := s.done.set i x } ks := by
  obtain ⟨ce, he, he'⟩ := h.e
  obtain ⟨cd, hd, hd'⟩ := h.d
  have hg := grown_set wr D i (vi x)
  have n1 := fun {j x} hj hx => h.dj.ne 2 j hj (g := D) (x := x) rfl hx
  have q1 : ∀ {j : Nat} {g : Nat}, 2 ≠ j → [some R, some E, some D, some F, vt.ownBlock, vs.ownBlock, vl.ownBlock, vk.ownBlock][j]? = some (some g) → (some D : Option Nat) ≠ some g := fun hj hx e => n1 hj hx e.symm
  exact ⟨bw_grown h.bw hg (fun g e => by simp at e; subst e; exact h.lo.2.2.1), h.lo, heap_grown hg h.r (q1 (j := 0) (by omega) rfl), heap_grown hg h.f (q1 (j := 3) (by omega) rfl), ⟨ce, heap_grown hg he (q1 (j := 1) (by omega) rfl), he'⟩, ⟨cd.setIfInBounds i (vi x), blk_set hd i (vi x), by rw [Array.toList_setIfInBounds, hd', ints_set]⟩,
    row_keep h.t hg (fun g e => by simp at e; subst e; exact n1 (j := 4) (by omega) rfl), row_keep h.sw hg (fun g e => by simp at e; subst e; exact n1 (j := 5) (by omega) rfl), row_keep h.l hg (fun g e => by simp at e; subst e; exact n1 (j := 6) (by omega) rfl), row_keep h.k hg (fun g e => by simp at e; subst e; exact n1 (j := 7) (by omega) rfl), h.dj⟩
/-- A row has grown: the others stand. -/
theorem Mem.others {w' : World} (h : Mem wA wr TF R E D F fv vt vs vl vk s ks) (j : Nat) {row : Option Nat} (hj : [some R, some E, some D, some F, vt.ownBlock, vs.ownBlock, vl.ownBlock, vk.ownBlock][j]? = some row) (h3 : 3 < j) (hg : wr.grownBy w' row) :
    Bw wA w' ∧ w'.heap[R]? = some (.cells #[.slice (some ⟨E, 0, none⟩) s.ended.length s.ended.length, vt, vs, .bool s.high] 25 (0, 0)) ∧ w'.heap[F]? = some (.cells #[fv] TF (0, 0)) ∧ (∃ cur, w'.heap[E]? = some (.cells cur 3 (0, 0)) ∧ cur.toList = ints s.ended) ∧ (∃ cur, w'.heap[D]? = some (.cells cur 3 (0, 0)) ∧ cur.toList = ints s.done) ∧
      (j ≠ 4 → w'.ownsRow wA.heap.size 3 1 vt s.trace.length (ints s.trace)) ∧ (j ≠ 5 → w'.ownsRow wA.heap.size 3 1 vs s.switches.length (ints s.switches)) ∧ (j ≠ 6 → w'.ownsRow wA.heap.size 3 1 vl s.left.length (ints (nats s.left))) ∧ (j ≠ 7 → w'.ownsRow wA.heap.size 3 1 vk ks.length (ints (nats ks))) := by
  obtain ⟨ce, he, he'⟩ := h.e
  obtain ⟨cd, hd, hd'⟩ := h.d
  have q1 : ∀ {i : Nat} {g : Nat}, i ≠ j → [some R, some E, some D, some F, vt.ownBlock, vs.ownBlock, vl.ownBlock, vk.ownBlock][i]? = some (some g) → row ≠ some g := fun hij hx => h.dj.ne _ j hij hx hj
  have q2 : ∀ {i : Nat} {x : Option Nat}, j ≠ i → [some R, some E, some D, some F, vt.ownBlock, vs.ownBlock, vl.ownBlock, vk.ownBlock][i]? = some x → ∀ g, row = some g → x ≠ some g := fun hij hx g e => h.dj.ne j _ hij (g := g) (by rw [hj, e]) hx
  exact ⟨bw_grown h.bw hg (fun g e => (h.old j (by rw [hj, e])).1), heap_grown hg h.r (q1 (i := 0) (by omega) rfl), heap_grown hg h.f (q1 (i := 3) (by omega) rfl), ⟨ce, heap_grown hg he (q1 (i := 1) (by omega) rfl), he'⟩, ⟨cd, heap_grown hg hd (q1 (i := 2) (by omega) rfl), hd'⟩,
    fun hn => row_keep h.t hg (q2 hn rfl), fun hn => row_keep h.sw hg (q2 hn rfl), fun hn => row_keep h.l hg (q2 hn rfl), fun hn => row_keep h.k hg (q2 hn rfl)⟩
theorem Mem.app_l {w' : World} {ao : Option Addr} {c i : Nat} (h : Mem wA wr TF R E D F fv vt vs vl vk s ks) (hown : w'.ownsRow wA.heap.size 3 1 (.slice ao (s.left.length + 1) c) (s.left.length + 1) (ints (nats s.left ++ [(i : Int)]))) (hg : wr.grownBy w' vl.ownBlock)
    (hw : (Value.slice ao (s.left.length + 1) c).ownBlock = vl.ownBlock ∨ (Value.slice ao (s.left.length + 1) c).ownBlock = some wr.heap.size) : Mem wA w' TF R E D F fv vt vs (.slice ao (s.left.length + 1) c) vk { s with left := s.left ++ [i] } ks := by
  obtain ⟨a1, a2, a3, a4, a5, a6, a7, a8, a9⟩ := h.others 6 rfl (by omega) hg
  exact ⟨a1, h.lo, a2, a3, a4, a5, a6 (by omega), a7 (by omega), by simpa [nats] using hown, a9 (by omega), h.dj.set 6 rfl (h.fresh hw)⟩
theorem Mem.app_k {w' : World} {ao : Option Addr} {c i : Nat} (h : Mem wA wr TF R E D F fv vt vs vl vk s ks) (hown : w'.ownsRow wA.heap.size 3 1 (.slice ao (ks.length + 1) c) (ks.length + 1) (ints (nats ks ++ [(i : Int)]))) (hg : wr.grownBy w' vk.ownBlock)
    (hw : (Value.slice ao (ks.length + 1) c).ownBlock = vk.ownBlock ∨ (Value.slice ao (ks.length + 1) c).ownBlock = some wr.heap.size) : Mem wA w' TF R E D F fv vt vs vl (.slice ao (ks.length + 1) c) s (ks ++ [i]) := by
  obtain ⟨a1, a2, a3, a4, a5, a6, a7, a8, a9⟩ := h.others 7 rfl (by omega) hg
  exact ⟨a1, h.lo, a2, a3, a4, a5, a6 (by omega), a7 (by omega), a8 (by omega), by simpa [nats] using hown, h.dj.set 7 rfl (h.fresh hw)⟩
theorem Mem.app_t {w' : World} {ao : Option Addr} {c : Nat} {y : Int} (h : Mem wA wr TF R E D F fv vt vs vl vk s ks) (hown : w'.ownsRow wA.heap.size 3 1 (.slice ao (s.trace.length + 1) c) (s.trace.length + 1) (ints (s.trace ++ [y]))) (hg : wr.grownBy w' vt.ownBlock)
    (hw : (Value.slice ao (s.trace.length + 1) c).ownBlock = vt.ownBlock ∨ (Value.slice ao (s.trace.length + 1) c).ownBlock = some wr.heap.size) :
    w'.heap[R]? = some (.cells #[.slice (some ⟨E, 0, none⟩) s.ended.length s.ended.length, vt, vs, .bool s.high] 25 (0, 0)) ∧ Mem wA (w'.setCell ⟨R, 1, none⟩ (.slice ao (s.trace.length + 1) c)) TF R E D F fv (.slice ao (s.trace.length + 1) c) vs vl vk { s with trace := s.trace ++ [y] } ks := by
  obtain ⟨a1, a2, a3, ⟨ce, he, he'⟩, ⟨cd, hd, hd'⟩, a6, a7, a8, a9⟩ := h.others 4 rfl (by omega) hg
  have hdj := h.dj.set 4 rfl (h.fresh hw)
  have hg2 := grown_set w' R 1 (.slice ao (s.trace.length + 1) c)
  have n1 := fun {j x} hj hx => hdj.ne 0 j hj (g := R) (x := x) rfl hx
  have q1 : ∀ {j : Nat} {g : Nat}, 0 ≠ j → [some R, some E, some D, some F, (Value.slice ao (s.trace.length + 1) c).ownBlock, vs.ownBlock, vl.ownBlock, vk.ownBlock][j]? = some (some g) → (some R : Option Nat) ≠ some g := fun hj hx e => n1 hj hx e.symm
  exact ⟨a2, bw_grown a1 hg2 (fun g e => by simp at e; subst e; exact h.lo.1), h.lo, by simpa using blk_set a2 1 (.slice ao (s.trace.length + 1) c), heap_grown hg2 a3 (q1 (j := 3) (by omega) rfl), ⟨ce, heap_grown hg2 he (q1 (j := 1) (by omega) rfl), he'⟩, ⟨cd, heap_grown hg2 hd (q1 (j := 2) (by omega) rfl), hd'⟩,
    row_keep (by simpa using hown) hg2 (fun g e => by simp at e; subst e; exact n1 (j := 4) (by omega) rfl), row_keep (a7 (by omega)) hg2 (fun g e => by simp at e; subst e; exact n1 (j := 5) (by omega) rfl), row_keep (a8 (by omega)) hg2 (fun g e => by simp at e; subst e; exact n1 (j := 6) (by omega) rfl), row_keep (a9 (by omega)) hg2 (fun g e => by simp at e; subst e; exact n1 (j := 7) (by omega) rfl), hdj⟩
theorem Mem.app_s {w' : World} {ao : Option Addr} {c : Nat} {y : Int} (h : Mem wA wr TF R E D F fv vt vs vl vk s ks) (hown : w'.ownsRow wA.heap.size 3 1 (.slice ao (s.switches.length + 1) c) (s.switches.length + 1) (ints (s.switches ++ [y]))) (hg : wr.grownBy w' vs.ownBlock)
    (hw : (Value.slice ao (s.switches.length + 1) c).ownBlock = vs.ownBlock ∨ (Value.slice ao (s.switches.length + 1) c).ownBlock = some wr.heap.size) :
    w'.heap[R]? = some (.cells #[.slice (some ⟨E, 0, none⟩) s.ended.length s.ended.length, vt, vs, .bool s.high] 25 (0, 0)) ∧ Mem wA (w'.setCell ⟨R, 2, none⟩ (.slice ao (s.switches.length + 1) c)) TF R E D F fv vt (.slice ao (s.switches.length + 1) c) vl vk { s with switches := s.switches ++ [y] } ks := by
  obtain ⟨a1, a2, a3, ⟨ce, he, he'⟩, ⟨cd, hd, hd'⟩, a6, a7, a8, a9⟩ := h.others 5 rfl (by omega) hg
  have hdj := h.dj.set 5 rfl (h.fresh hw)
  have hg2 := grown_set w' R 2 (.slice ao (s.switches.length + 1) c)
  have n1 := fun {j x} hj hx => hdj.ne 0 j hj (g := R) (x := x) rfl hx
  have q1 : ∀ {j : Nat} {g : Nat}, 0 ≠ j → [some R, some E, some D, some F, vt.ownBlock, (Value.slice ao (s.switches.length + 1) c).ownBlock, vl.ownBlock, vk.ownBlock][j]? = some (some g) → (some R : Option Nat) ≠ some g := fun hj hx e => n1 hj hx e.symm
  exact ⟨a2, bw_grown a1 hg2 (fun g e => by simp at e; subst e; exact h.lo.1), h.lo, by simpa using blk_set a2 2 (.slice ao (s.switches.length + 1) c), heap_grown hg2 a3 (q1 (j := 3) (by omega) rfl), ⟨ce, heap_grown hg2 he (q1 (j := 1) (by omega) rfl), he'⟩, ⟨cd, heap_grown hg2 hd (q1 (j := 2) (by omega) rfl), hd'⟩,
    row_keep (a6 (by omega)) hg2 (fun g e => by simp at e; subst e; exact n1 (j := 4) (by omega) rfl), row_keep (by simpa using hown) hg2 (fun g e => by simp at e; subst e; exact n1 (j := 5) (by omega) rfl), row_keep (a8 (by omega)) hg2 (fun g e => by simp at e; subst e; exact n1 (j := 6) (by omega) rfl), row_keep (a9 (by omega)) hg2 (fun g e => by simp at e; subst e; exact n1 (j := 7) (by omega) rfl), hdj⟩
/-- A new row, empty. -/
theorem Mem.new_k (h : Mem wA wr TF R E D F fv vt vs vl vk s ks) (hb : wA.heap.size ≤ wr.heap.size) : Mem wA (wr.alloc (.cells #[] 3)) TF R E D F fv vt vs vl (.slice (some ⟨wr.heap.size, 0, none⟩) 0 0) s [] := by
  have h2 := h.on (bw_alloc wr (.cells #[] 3))
  exact ⟨h2.bw, h2.lo, h2.r, h2.f, h2.e, h2.d, h2.t, h2.sw, h2.l, by simpa [ints, nats] using World.ownsRow_made (base := wA.heap.size) (e := 3) (size := 1) wr #[] 0 hb (by simp) rfl, h.dj.set 7 rfl (h.fresh (.inr rfl))⟩
/-- What is left still is left. -/
theorem Mem.move_k (h : Mem wA wr TF R E D F fv vt vs vl vk s ks) : Mem wA wr TF R E D F fv vt vs vk (.slice none 0 0) { s with left := ks } [] := by
  have hd : Dj [some R, some E, some D, some F, vt.ownBlock, vs.ownBlock, vk.ownBlock, (Value.slice none 0 0).ownBlock] := by
    intro i j g hi hj
    have tr : ∀ i, i < 8 → [some R, some E, some D, some F, vt.ownBlock, vs.ownBlock, vk.ownBlock, (Value.slice none 0 0).ownBlock][i]? = some (some g) → i ≠ 7 ∧ [some R, some E, some D, some F, vt.ownBlock, vs.ownBlock, vl.ownBlock, vk.ownBlock][if i = 6 then 7 else i]? = some (some g) := by
      intro i hi hx
      match i, hx with
      | 0, hx => exact ⟨by omega, hx⟩
      | 1, hx => exact ⟨by omega, hx⟩
      | 2, hx => exact ⟨by omega, hx⟩
      | 3, hx => exact ⟨by omega, hx⟩
      | 4, hx => exact ⟨by omega, hx⟩
      | 5, hx => exact ⟨by omega, hx⟩
      | 6, hx => exact ⟨by omega, hx⟩
      | 7, hx => simp [Value.ownBlock] at hx
      | n + 8, hx => omega
    have li := (List.getElem?_eq_some_iff.1 hi).1
    have lj := (List.getElem?_eq_some_iff.1 hj).1
    obtain ⟨i7, hi'⟩ := tr i (by simpa using li) hi
    obtain ⟨j7, hj'⟩ := tr j (by simpa using lj) hj
    have := h.dj _ _ g hi' hj'
    split at this <;> split at this <;> omega
  exact ⟨h.bw, h.lo, h.r, h.f, h.e, h.d, h.t, h.sw, h.k, by simpa [ints, nats] using World.ownsRow_nil wr wA.heap.size 3 1, hd⟩

/-! ### Reading -/
theorem Mem.cellE (h : Mem wA wr TF R E D F fv vt vs vl vk s ks) {i : Nat} {x : Int} (hx : s.ended[i]? = some x) : wr.cell? ⟨E, i, none⟩ = some (vi x) ∧ wr.frozen? ⟨E, i, none⟩ = false := by
  obtain ⟨ce, he, he'⟩ := h.e
  exact ⟨blk_cell he i (by rw [← Array.getElem?_toList, he']; exact ints_get _ i x hx), blk_free he i⟩
theorem Mem.cellD (h : Mem wA wr TF R E D F fv vt vs vl vk s ks) {i : Nat} {x : Int} (hx : s.done[i]? = some x) : wr.cell? ⟨D, i, none⟩ = some (vi x) ∧ wr.frozen? ⟨D, i, none⟩ = false := by
  obtain ⟨cd, hd, hd'⟩ := h.d
  exact ⟨blk_cell hd i (by rw [← Array.getElem?_toList, hd']; exact ints_get _ i x hx), blk_free hd i⟩
theorem Mem.cellL (h : Mem wA wr TF R E D F fv vt vs vl vk s ks) {p i : Nat} (hp : s.left[p]? = some i) : ∃ g c, vl = .slice (some ⟨g, 0, none⟩) s.left.length c ∧ s.left.length ≤ c ∧ g < wr.heap.size ∧ wr.cell? ⟨g, p, none⟩ = some (vi i) := by
  have hpl := (List.getElem?_eq_some_iff.1 hp).1
  have hx : (ints (nats s.left))[p]? = some (vi i) := ints_get _ p i (by simp [nats, hp])
  rcases h.l.2 with ⟨_, h0⟩ | ⟨g, cap, cur, e, _, hg, hc, _⟩
  · omega
  · obtain ⟨g', e', _, hlt, hcell⟩ := (Own.ofRow (n := s.left.length) (cap := cap) (by rw [← e]; exact h.l)).cell hx
    simp at e'; subst e'
    exact ⟨g, cap, e, hc, hlt, hcell⟩
end
end Go.Proofs.YtaadlgpglfpmpaaDoor
