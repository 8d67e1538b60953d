/-
  What came in, opened: slices of numbers, of jobs and of tasks, and runs. No condition.
-/
import Derived.Test.YtaadlgpglfpmpaaDoorBase
import Derived.Test.YtaadlgpglfpmpaaDoorRows
import Derived.ProofKit
import Derived.OpenShut
import Derived.ShutString
import Derived.ChangeOld
import Derived.Below
import Derived.Deep.Slices
import Derived.Deep.Fields
import Derived.ChangeSame
import Derived.Lib.SmallJoins










namespace Go.Proofs.YtaadlgpglfpmpaaDoor
open Go.ChangeShapes Go.WideShapes Go.ChangeAt Go.RowKit Go.Deep Go.Joins

set_option maxRecDepth 100000 in
theorem lawOwn : ownKnob Tryd.prog.godebug = none := by kernel_rfl
set_option maxRecDepth 100000 in
theorem lawLaid : laidOutB Tryd.prog = true := by kernel_rfl

/-- An int's range. -/
def I64 (n : Int) : Prop := -9223372036854775808 ≤ n ∧ n ≤ 9223372036854775807
theorem i64_wf {n : Int} (h : (Lit.int .i64 n).wf = true) : I64 n := by
  simpa [Lit.wf, IntKind.min, IntKind.max, IntKind.signed, IntKind.bits, I64] using h

structure Rn where
  ended : List Int
  trace : List Int
  switches : List Int
  high : Bool

/-- A run's value over the addresses of its slices. -/
abbrev rnVal (a1 : Option Addr) (n1 c1 : Nat) (a2 : Option Addr) (n2 c2 : Nat) (a3 : Option Addr) (n3 c3 : Nat) (h : Bool) : Value := .agg #[.slice a1 n1 c1, .slice a2 n2 c2, .slice a3 n3 c3, .bool h]

/-- What came in, of whatever length. -/
structure RawI (w : World) (v : Value) (l : List Int) : Prop where
  form : ∃ ao c, v = .slice ao l.length c ∧ RI w ao l
  len : l.length ≤ maxLen
  rng : ∀ x ∈ l, I64 x
structure RawT (w : World) (v : Value) (l : List Tk) : Prop where
  form : ∃ ao c, v = .slice ao l.length c ∧ RT w ao l
  len : l.length ≤ maxLen
  rng : ∀ x ∈ l, I64 x.low ∧ I64 x.high ∧ I64 x.due ∧ I64 x.every
structure RawJ (w : World) (v : Value) (l : List Jb) : Prop where
  form : ∃ ao c, v = .slice ao l.length c ∧ RJ w ao l
  len : l.length ≤ maxLen
  rng : ∀ x ∈ l, I64 x.task ∧ I64 x.at_ ∧ I64 x.need
structure RawRun (w : World) (v : Value) (r : Rn) : Prop where
  form : ∃ a1 c1 a2 c2 a3 c3, v = rnVal a1 r.ended.length c1 a2 r.trace.length c2 a3 r.switches.length c3 r.high ∧ RI w a1 r.ended ∧ RI w a2 r.trace ∧ RI w a3 r.switches
  n1 : r.ended.length ≤ maxLen
  n2 : r.trace.length ≤ maxLen
  n3 : r.switches.length ≤ maxLen
  rng : (∀ x ∈ r.ended, I64 x) ∧ (∀ x ∈ r.trace, I64 x) ∧ (∀ x ∈ r.switches, I64 x)

section
variable {H : Type} {enc : TypeId × Value → H} {P : Program} {w : World} {base : Nat} {spare : Nat → Bool} {held : Bool}

theorem open_slice_fields {t e : TypeId} {fs : Array Field} {fuel : Nat} {cs : List Value} {x : DataW H × List MemPlace} (ht : P.underlying t = some (.slice e)) (he : P.underlying e = some (.struct fs))
    (hone : oneCellFields P fs = true) (hC : P.cellsOf e = fs.size) (h : DataW.trod enc P w base spare held fuel t cs = some x) :
    (cs = [.slice none 0 0] ∧ x = (.nil, [])) ∨
    ∃ (a : Addr) (len cap m : Nat) (D : Nat → DataW H) (Pl : Nat → List MemPlace), cs = [.slice (some a) len cap] ∧ base ≤ a.block ∧ len ≤ cap ∧ cap ≤ maxLen ∧ m = (if spare a.block then cap else len) ∧
      x = (.slice ((List.range len).map D) ((List.range (m - len)).map fun j => D (len + j)), MemPlace.row a (m * fs.size) ++ (List.range m).flatMap Pl) ∧
      ∀ i, i < m → ∃ (ys : List (DataW H × List MemPlace)) (n : Nat), D i = .agg (ys.map (·.1)) ∧ Pl i = ys.flatMap (·.2) ∧ ys.length = fs.size ∧
        ∀ (j : Nat) (f : Field), fs[j]? = some f → ∃ (v : Value) (y : DataW H × List MemPlace), w.cell? (a.add (i * fs.size + j)) = some v ∧ ys[j]? = some y ∧ DataW.trod enc P w base spare held n f.type [v] = some y := by
  rcases open_slice ht h with h0 | ⟨a, len, cap, m, n, D, Pl, hcs, hb, hl, hm, hmm, hx, hi⟩
  · exact .inl h0
  · refine .inr ⟨a, len, cap, m, D, Pl, hcs, hb, hl, hm, hmm, by rw [hC] at hx; exact hx, fun i him => ?_⟩
    obtain ⟨cs', hc, ht'⟩ := hi i him
    rw [hC] at hc
    obtain ⟨ys, n', hn', hy, hlen, hyl, hf⟩ := DataW.trod_struct he ht'
    obtain ⟨_, hcl, hat⟩ := World.cells?_some hc
    simp only [Prod.mk.injEq] at hy
    refine ⟨ys, n', hy.1, hy.2, hyl, fun j f hj => ?_⟩
    obtain ⟨ho, hk⟩ := hone_of hone j f hj
    have hjl : j < fs.size := (Array.getElem?_eq_some_iff.1 hj).1
    have hcell := hat j hjl
    have hv : cs'[j]? = some (cs'[j]'(by omega)) := List.getElem?_eq_getElem (by omega)
    have h1 := hf j f hj
    rw [ho, hk] at h1
    have hone' : (cs'.drop j).take 1 = [cs'[j]'(by omega)] := by
      rw [List.drop_eq_getElem_cons (by omega)]
      rfl
    rw [hone'] at h1
    have hys : ys[j]? = some (ys[j]'(by omega)) := List.getElem?_eq_getElem (by omega)
    refine ⟨_, _, ?_, hys, h1.trans hys⟩
    rw [← Go.Deep.add_add, hcell, hv]

/-- From a choice element by element to one list. -/
theorem choose_list {α : Type} (n : Nat) (p : Nat → α → Prop) (h : ∀ i, i < n → ∃ x, p i x) : ∃ l : List α, l.length = n ∧ ∀ i x, l[i]? = some x → p i x := by
  induction n with
  | zero => exact ⟨[], rfl, fun i x hx => by simp at hx⟩
  | succ n ih =>
    obtain ⟨l, hl, hp⟩ := ih fun i hi => h i (by omega)
    obtain ⟨x, hx⟩ := h n (by omega)
    refine ⟨l ++ [x], by simp [hl], fun i y hy => ?_⟩
    rcases Nat.lt_or_ge i l.length with hi | hi
    · rw [List.getElem?_append_left hi] at hy; exact hp i y hy
    · rw [List.getElem?_append_right hi] at hy
      have : i = n := by
        by_cases e : i - l.length = 0
        · omega
        · rw [List.getElem?_cons] at hy; simp [e] at hy
      subst this
      rw [show i - l.length = 0 from by omega] at hy
      simp at hy; subst hy; exact hx

theorem spot_none {w : World} {b off : Nat} {s : Option Nat} {v : Value} (h : w.cell? ((⟨b, off, s⟩ : Addr).add 0) = some v) : s = none := by
  have h1 := World.cell?_spot h
  simpa [Addr.add] using h1
theorem add_none (b off j : Nat) : (⟨b, off, none⟩ : Addr).add j = ⟨b, off + j, none⟩ := by unfold Addr.add; split <;> simp_all

theorem rawI_of {t e : TypeId} {fuel : Nat} {v : Value} {y : DataW H × List MemPlace} (ht : P.underlying t = some (.slice e)) (he : P.underlying e = some (.int .i64)) (hC : P.cellsOf e = 1)
    (hf : DataW.trod enc P w base spare held fuel t [v] = some y) : ∃ l, RawI w v l := by
  rcases open_ints ht he hC hf with ⟨hcs, _⟩ | ⟨x, len, cap, zs, hcs, _, hl, hm, hz, _, hcell, hwz⟩
  · simp at hcs; subst hcs
    exact ⟨[], ⟨none, 0, rfl, RI.nil _ _⟩, by simp, fun x h => by simp at h⟩
  · simp at hcs; subst hcs
    have hzl : len ≤ zs.length := by rw [hz]; split <;> omega
    refine ⟨zs.take len, ⟨some x, cap, by simp [Nat.min_eq_left hzl], fun k u hu => ?_⟩, by simp; omega, fun u hu => i64_wf (hwz u (List.mem_of_mem_take hu))⟩
    rw [List.getElem?_take] at hu
    split at hu
    · rename_i hk
      have hc := hcell k (by omega)
      obtain ⟨b, off, s⟩ := x
      have := spot_none (hcell 0 (by omega))
      subst this
      rw [add_none] at hc
      have e : zs.getD k 0 = u := by simp [List.getD_eq_getElem?_getD, hu]
      rw [e] at hc
      exact ⟨b, off, rfl, World.block_lt_of_cell? w _ hc, hc⟩
    · simp at hu

theorem rawJ_of {t e : TypeId} {f0 f1 f2 : Field} {fuel : Nat} {v : Value} {y : DataW H × List MemPlace} (ht : P.underlying t = some (.slice e)) (he : P.underlying e = some (.struct #[f0, f1, f2]))
    (hone : oneCellFields P #[f0, f1, f2] = true) (hC : P.cellsOf e = 3) (h0 : P.underlying f0.type = some (.int .i64)) (h1 : P.underlying f1.type = some (.int .i64)) (h2 : P.underlying f2.type = some (.int .i64))
    (hf : DataW.trod enc P w base spare held fuel t [v] = some y) : ∃ l, RawJ w v l := by
  rcases open_slice_fields ht he hone hC hf with ⟨hcs, _⟩ | ⟨x, len, cap, m, D, Pl, hcs, _, hl, hm, hmm, _, hel⟩
  · simp at hcs; subst hcs
    exact ⟨[], ⟨none, 0, rfl, RJ.nil _ _⟩, by simp, fun x h => by simp at h⟩
  · simp at hcs; subst hcs
    have hlm : len ≤ m := by rw [hmm]; split <;> omega
    obtain ⟨l, hll, hp⟩ := choose_list len (fun i (j : Jb) => (∃ b off, x = ⟨b, off, none⟩ ∧ b < w.heap.size ∧ w.cell? ⟨b, off + i * 3, none⟩ = some (vi j.task) ∧ w.cell? ⟨b, off + i * 3 + 1, none⟩ = some (vi j.at_) ∧ w.cell? ⟨b, off + i * 3 + 2, none⟩ = some (vi j.need)) ∧
        I64 j.task ∧ I64 j.at_ ∧ I64 j.need) (fun i hi => by
      obtain ⟨ys, n, _, _, _, hc⟩ := hel i (by omega)
      obtain ⟨v0, y0, c0, _, t0⟩ := hc 0 f0 rfl
      obtain ⟨v1, y1, c1, _, t1⟩ := hc 1 f1 rfl
      obtain ⟨v2, y2, c2, _, t2⟩ := hc 2 f2 rfl
      obtain ⟨n0, e0, _, w0⟩ := DataW.trod_int h0 t0
      obtain ⟨n1, e1, _, w1⟩ := DataW.trod_int h1 t1
      obtain ⟨n2, e2, _, w2⟩ := DataW.trod_int h2 t2
      simp at e0 e1 e2; subst e0 e1 e2
      obtain ⟨b, off, s⟩ := x
      have : s = none := by
        obtain ⟨_, _, _, _, _, hc'⟩ := hel 0 (by omega)
        obtain ⟨_, _, c', _⟩ := hc' 0 f0 rfl
        simp only [Nat.zero_mul, Nat.add_zero] at c'
        exact spot_none c'
      subst this
      simp only [add_none, List.size_toArray, List.length_cons, List.length_nil] at c0 c1 c2
      exact ⟨⟨n0, n1, n2⟩, ⟨b, off, rfl, World.block_lt_of_cell? w _ c0, by simpa using c0, by simpa [Nat.add_assoc] using c1, by simpa [Nat.add_assoc] using c2⟩, i64_wf w0, i64_wf w1, i64_wf w2⟩)
    refine ⟨l, ⟨some x, cap, by rw [hll], fun k u hu => ?_⟩, by omega, fun u hu => ?_⟩
    · obtain ⟨⟨b, off, hx, r⟩, _⟩ := hp k u hu
      exact ⟨b, off, by rw [hx], r⟩
    · obtain ⟨i, hi⟩ := List.getElem?_of_mem hu
      exact (hp i u hi).2

theorem rawT_of {t e : TypeId} {f0 f1 f2 f3 f4 : Field} {fuel : Nat} {v : Value} {y : DataW H × List MemPlace} (ht : P.underlying t = some (.slice e)) (he : P.underlying e = some (.struct #[f0, f1, f2, f3, f4]))
    (hone : oneCellFields P #[f0, f1, f2, f3, f4] = true) (hC : P.cellsOf e = 5) (h0 : P.underlying f0.type = some (.int .i64)) (h1 : P.underlying f1.type = some (.int .i64)) (h2 : P.underlying f2.type = some (.int .i64))
    (h3 : P.underlying f3.type = some (.int .i64)) (h4 : P.underlying f4.type = some .bool)
    (hf : DataW.trod enc P w base spare held fuel t [v] = some y) : ∃ l, RawT w v l := by
  rcases open_slice_fields ht he hone hC hf with ⟨hcs, _⟩ | ⟨x, len, cap, m, D, Pl, hcs, _, hl, hm, hmm, _, hel⟩
  · simp at hcs; subst hcs
    exact ⟨[], ⟨none, 0, rfl, RT.nil _ _⟩, by simp, fun x h => by simp at h⟩
  · simp at hcs; subst hcs
    have hlm : len ≤ m := by rw [hmm]; split <;> omega
    obtain ⟨l, hll, hp⟩ := choose_list len (fun i (j : Tk) => (∃ b off, x = ⟨b, off, none⟩ ∧ b < w.heap.size ∧ w.cell? ⟨b, off + i * 5, none⟩ = some (vi j.low) ∧ w.cell? ⟨b, off + i * 5 + 1, none⟩ = some (vi j.high) ∧ w.cell? ⟨b, off + i * 5 + 2, none⟩ = some (vi j.due) ∧
        w.cell? ⟨b, off + i * 5 + 3, none⟩ = some (vi j.every) ∧ w.cell? ⟨b, off + i * 5 + 4, none⟩ = some (.bool j.crit)) ∧ I64 j.low ∧ I64 j.high ∧ I64 j.due ∧ I64 j.every) (fun i hi => by
      obtain ⟨ys, n, _, _, _, hc⟩ := hel i (by omega)
      obtain ⟨v0, y0, c0, _, t0⟩ := hc 0 f0 rfl
      obtain ⟨v1, y1, c1, _, t1⟩ := hc 1 f1 rfl
      obtain ⟨v2, y2, c2, _, t2⟩ := hc 2 f2 rfl
      obtain ⟨v3, y3, c3, _, t3⟩ := hc 3 f3 rfl
      obtain ⟨v4, y4, c4, _, t4⟩ := hc 4 f4 rfl
      obtain ⟨n0, e0, _, w0⟩ := DataW.trod_int h0 t0
      obtain ⟨n1, e1, _, w1⟩ := DataW.trod_int h1 t1
      obtain ⟨n2, e2, _, w2⟩ := DataW.trod_int h2 t2
      obtain ⟨n3, e3, _, w3⟩ := DataW.trod_int h3 t3
      obtain ⟨n4, e4, _⟩ := DataW.trod_bool h4 t4
      simp at e0 e1 e2 e3 e4; subst e0 e1 e2 e3 e4
      obtain ⟨b, off, s⟩ := x
      have : s = none := by
        obtain ⟨_, _, _, _, _, hc'⟩ := hel 0 (by omega)
        obtain ⟨_, _, c', _⟩ := hc' 0 f0 rfl
        simp only [Nat.zero_mul, Nat.add_zero] at c'
        exact spot_none c'
      subst this
      simp only [add_none, List.size_toArray, List.length_cons, List.length_nil] at c0 c1 c2 c3 c4
      exact ⟨⟨n0, n1, n2, n3, n4⟩, ⟨b, off, rfl, World.block_lt_of_cell? w _ c0, by simpa using c0, by simpa [Nat.add_assoc] using c1, by simpa [Nat.add_assoc] using c2, by simpa [Nat.add_assoc] using c3, by simpa [Nat.add_assoc] using c4⟩, i64_wf w0, i64_wf w1, i64_wf w2, i64_wf w3⟩)
    refine ⟨l, ⟨some x, cap, by rw [hll], fun k u hu => ?_⟩, by omega, fun u hu => ?_⟩
    · obtain ⟨⟨b, off, hx, r⟩, _⟩ := hp k u hu
      exact ⟨b, off, by rw [hx], r⟩
    · obtain ⟨i, hi⟩ := List.getElem?_of_mem hu
      exact (hp i u hi).2
end

section
variable {H : Type} {enc : TypeId × Value → H} {w : World} {base : Nat} {spare : Nat → Bool} {held : Bool} {r : Reach} {b0 : Nat} {v : Value} {d : DataW H} {p : List MemPlace}
set_option maxRecDepth 100000 in
theorem open_run (hv : Value.okWide Tryd.prog w r b0 42 v) (h : DataW.Trod enc Tryd.prog w base spare held 42 v d p) : ∃ x, RawRun w v x := by
  obtain ⟨v0, v1, v2, v3, y0, y1, y2, y3, n, rfl, _, _, t0, t1, t2, t3⟩ := open_agg4 Tryd.underlying42 (by kernel_rfl) (by kernel_rfl) hv h
  obtain ⟨l0, ⟨⟨a1, c1, rfl, r1⟩, n1, g1⟩⟩ := rawI_of Tryd.underlying23 Tryd.underlying3 (by kernel_rfl) t0
  obtain ⟨l1, ⟨⟨a2, c2, rfl, r2⟩, n2, g2⟩⟩ := rawI_of Tryd.underlying23 Tryd.underlying3 (by kernel_rfl) t1
  obtain ⟨l2, ⟨⟨a3, c3, rfl, r3⟩, n3, g3⟩⟩ := rawI_of Tryd.underlying23 Tryd.underlying3 (by kernel_rfl) t2
  obtain ⟨q, e, _⟩ := DataW.trod_bool Tryd.underlying4 t3
  simp at e; subst e
  exact ⟨⟨l0, l1, l2, q⟩, ⟨a1, c1, a2, c2, a3, c3, rfl, r1, r2, r3⟩, n1, n2, n3, g1, g2, g3⟩
set_option maxRecDepth 100000 in
theorem open_jobs (hv : Value.okWide Tryd.prog w r b0 46 v) (h : DataW.Trod enc Tryd.prog w base spare held 46 v d p) : ∃ x, RawJ w v x := by
  obtain ⟨a, n, c, rfl⟩ := okWide_slice Tryd.underlying46 hv
  obtain ⟨fuel, hf⟩ := h
  exact rawJ_of Tryd.underlying46 Tryd.underlying87 (by kernel_rfl) (by kernel_rfl) Tryd.underlying3 Tryd.underlying3 Tryd.underlying3 (by simpa [Value.cells] using hf)
set_option maxRecDepth 100000 in
theorem open_job (hv : Value.okWide Tryd.prog w r b0 87 v) (h : DataW.Trod enc Tryd.prog w base spare held 87 v d p) : ∃ j : Jb, v = jbVal j ∧ I64 j.task ∧ I64 j.at_ ∧ I64 j.need := by
  obtain ⟨v0, v1, v2, y0, y1, y2, n, rfl, _, _, t0, t1, t2⟩ := open_agg3 Tryd.underlying87 (by kernel_rfl) (by kernel_rfl) hv h
  obtain ⟨n0, e0, _, w0⟩ := DataW.trod_int Tryd.underlying3 t0
  obtain ⟨n1, e1, _, w1⟩ := DataW.trod_int Tryd.underlying3 t1
  obtain ⟨n2, e2, _, w2⟩ := DataW.trod_int Tryd.underlying3 t2
  simp at e0 e1 e2; subst e0 e1 e2
  exact ⟨⟨n0, n1, n2⟩, rfl, i64_wf w0, i64_wf w1, i64_wf w2⟩
end
end Go.Proofs.YtaadlgpglfpmpaaDoor
