/-
  The walk of l7Run and of the draws that hand its run on.
-/
import Derived.Test.YtaadlgpglfpmpaaDoorGH
import Derived.Test.YtaadlgpglfpmpaaDoorLeave
import Derived.BigRegion
import Derived.Deep.RegionLaw
import Derived.Deep.DeepCutAuto




namespace Go.Proofs.YtaadlgpglfpmpaaDoor
open Go.RowKit

/-- The bounds of a run that is drawn. -/
structure RunB2 (r : Rn) : Prop where
  n1 : r.ended.length ≤ 61
  n2 : r.trace.length ≤ 201
  n3 : r.switches.length ≤ 200
  e : ∀ x ∈ r.ended, -2 ≤ x ∧ x ≤ 200
  t : ∀ x ∈ r.trace, -2 ≤ x ∧ x ≤ 10
  s : ∀ x ∈ r.switches, 0 ≤ x ∧ x ≤ 200
theorem RunB.b2 {r : Rn} (h : RunB r) : RunB2 r := ⟨by have := h.n1; omega, by have := h.n2; omega, h.n3, h.e, fun x hx => by have := h.t x hx; omega, h.s⟩
theorem RunB.app_e {r : Rn} (h : RunB r) {y : Int} (hy : -2 ≤ y ∧ y ≤ 5) : RunB2 { r with ended := r.ended ++ [y] } := ⟨by have := h.n1; simp; omega, by have := h.n2; dsimp only; omega, h.n3, fun x hx => by
  rcases List.mem_append.1 hx with hx | hx
  · exact h.e x hx
  · simp at hx; subst hx; omega, fun x hx => by have := h.t x hx; omega, h.s⟩
theorem RunB.app_t {r : Rn} (h : RunB r) {y : Int} (hy : -2 ≤ y ∧ y ≤ 5) : RunB2 { r with trace := r.trace ++ [y] } := ⟨by have := h.n1; dsimp only; omega, by have := h.n2; simp; omega, h.n3, h.e, fun x hx => by
  rcases List.mem_append.1 hx with hx | hx
  · have := h.t x hx; omega
  · simp at hx; subst hx; omega, h.s⟩
theorem rr_mk2 {w : World} {a1 a2 a3 : Option Addr} {c1 c2 c3 : Nat} {r : Rn} (h1 : RI w a1 r.ended) (h2 : RI w a2 r.trace) (h3 : RI w a3 r.switches) (hb : RunB2 r) : RR w (rnVal a1 r.ended.length c1 a2 r.trace.length c2 a3 r.switches.length c3 r.high) r :=
  ⟨⟨a1, c1, a2, c2, a3, c3, rfl, h1, h2, h3⟩, by have := hb.n1; omega, by have := hb.n2; omega, by have := hb.n3; omega, fun x hx => by have := hb.e x hx; unfold I64; omega, fun x hx => by have := hb.t x hx; unfold I64; omega, fun x hx => by have := hb.s x hx; unfold I64; omega⟩
/-- The run that is drawn: one of these tasks and jobs, or that and one more. -/
def Like (l : List Tk) (js : List Jb) (R : Rn) : Prop := ∃ (P N : Int) (x : Rn) (o : Bool), runJ l js P N = (x, o) ∧ ((R = x) ∨ (∃ y, R = { x with ended := x.ended ++ [y] }) ∨ ∃ y, R = { x with trace := x.trace ++ [y] })
/-- A run in memory. -/
structure RunM (w : World) (g : Nat) (R : Rn) (a1 : Option Addr) (c1 : Nat) (a2 : Option Addr) (c2 : Nat) (a3 : Option Addr) (c3 : Nat) : Prop where
  box : w.heap[g]? = some (.cells #[.slice a1 R.ended.length c1, .slice a2 R.trace.length c2, .slice a3 R.switches.length c3, .bool R.high] 25 (0, 0))
  e : RI w a1 R.ended
  t : RI w a2 R.trace
  s : RI w a3 R.switches
def Run8End (w : World) (e : Ending) (w' : World) : Prop := ∃ (ao : Option Addr) (c : Nat) (l : List Tk) (bo : Option Addr) (d : Nat) (js : List Jb) (R : Rn) (a1 : Option Addr) (c1 : Nat) (a2 : Option Addr) (c2 : Nat) (a3 : Option Addr) (c3 : Nat), e = .returned (.tuple #[.slice ao l.length c, .slice bo js.length d, rnVal a1 R.ended.length c1 a2 R.trace.length c2 a3 R.switches.length c3 R.high]) ∧ TJ w w' ao c l bo d js ∧ Own w' w.heap.size 3 a1 (ints R.ended) ∧ Own w' w.heap.size 3 a2 (ints R.trace) ∧ Own w' w.heap.size 3 a3 (ints R.switches) ∧ RunB2 R ∧ Like l js R

theorem row_ri {w : World} {base n c : Nat} {ao : Option Addr} {l : List Int} (h : w.ownsRow base 3 1 (.slice ao n c) n (ints l)) : RI w ao l := (Own.ofRow h).ri
theorem row_ne {w : World} {base E E' size n g : Nat} {v : Value} {xs : List Value} {o : Array Value} (h : w.ownsRow base E size v n xs) (hb : w.heap[g]? = some (.cells o E' (0, 0))) (hE : E ≠ E') : v.ownBlock ≠ some g := by
  intro hx
  rcases h.2 with ⟨rfl, _⟩ | ⟨k, cap, cur, rfl, _, hk, _⟩
  · simp [Value.ownBlock] at hx
  · simp [Value.ownBlock] at hx; subst hx
    rw [hb] at hk; simp at hk; exact hE hk.2.symm
theorem dj_ne {a b c : Option Nat} (h : Dj [a, b, c]) : (∀ g, a = some g → b ≠ some g ∧ c ≠ some g) ∧ (∀ g, b = some g → a ≠ some g ∧ c ≠ some g) :=
  ⟨fun g ha => ⟨fun hb => by have := h 0 1 g (by simp [ha]) (by simp [hb]); omega, fun hc => by have := h 0 2 g (by simp [ha]) (by simp [hc]); omega⟩,
   fun g hb => ⟨fun ha => by have := h 0 1 g (by simp [ha]) (by simp [hb]); omega, fun hc => by have := h 1 2 g (by simp [hb]) (by simp [hc]); omega⟩⟩
/-- The run in its box, its rows, the tasks and the jobs, as they stand ahead of what is drawn last. -/
structure S8 (bT base g : Nat) (w : World) (ao : Option Addr) (c : Nat) (l : List Tk) (bo : Option Addr) (d : Nat) (js : List Jb) (x : Rn) (a1 : Option Addr) (c1 : Nat) (a2 : Option Addr) (c2 : Nat) (a3 : Option Addr) (c3 : Nat) : Prop where
  box : w.heap[g]? = some (.cells #[.slice a1 x.ended.length c1, .slice a2 x.trace.length c2, .slice a3 x.switches.length c3, .bool x.high] 25 (0, 0))
  e : w.ownsRow base 3 1 (.slice a1 x.ended.length c1) x.ended.length (ints x.ended)
  t : w.ownsRow base 3 1 (.slice a2 x.trace.length c2) x.trace.length (ints x.trace)
  s : w.ownsRow base 3 1 (.slice a3 x.switches.length c3) x.switches.length (ints x.switches)
  dj : Dj [a1.map (·.block), a2.map (·.block), a3.map (·.block)]
  T : w.ownsRow bT 76 5 (.slice ao l.length c) l.length (tks l)
  J : w.ownsRow bT 57 3 (.slice bo js.length d) js.length (jbs js)
  gb : base ≤ g
  bb : bT ≤ base
/-- The same at the end. -/
structure S9 (bT base g : Nat) (w : World) (ao : Option Addr) (c : Nat) (l : List Tk) (bo : Option Addr) (d : Nat) (js : List Jb) (x : Rn) (a1 : Option Addr) (c1 : Nat) (a2 : Option Addr) (c2 : Nat) (a3 : Option Addr) (c3 : Nat) : Prop where
  box : w.heap[g]? = some (.cells #[.slice a1 x.ended.length c1, .slice a2 x.trace.length c2, .slice a3 x.switches.length c3, .bool x.high] 25 (0, 0))
  e : Own w base 3 a1 (ints x.ended)
  t : Own w base 3 a2 (ints x.trace)
  s : Own w base 3 a3 (ints x.switches)
  T : w.ownsRow bT 76 5 (.slice ao l.length c) l.length (tks l)
  J : w.ownsRow bT 57 3 (.slice bo js.length d) js.length (jbs js)
section
variable {bT base g : Nat} {w w' : World} {ao : Option Addr} {c : Nat} {l : List Tk} {bo : Option Addr} {d : Nat} {js : List Jb} {x : Rn} {a1 : Option Addr} {c1 : Nat} {a2 : Option Addr} {c2 : Nat} {a3 : Option Addr} {c3 : Nat}
theorem S8.on (h : S8 bT base g w ao c l bo d js x a1 c1 a2 c2 a3 c3) (hb : Bw w w') : S8 bT base g w' ao c l bo d js x a1 c1 a2 c2 a3 c3 :=
  ⟨blk_bw hb h.box, row_bw h.e hb, row_bw h.t hb, row_bw h.s hb, h.dj, row_bw h.T hb, row_bw h.J hb, h.gb, h.bb⟩
theorem S8.hit {lo hi : Nat} (h : S8 bT base g w ao c l bo d js x a1 c1 a2 c2 a3 c3) (hh : HitR lo hi w w') (h1 : hi ≤ bT) : S8 bT base g w' ao c l bo d js x a1 c1 a2 c2 a3 c3 := by
  have h2 := h.bb
  have h3 := h.gb
  exact ⟨blk_hit hh h.box (.inr (by omega)), row_hit h.e hh (by omega), row_hit h.t hh (by omega), row_hit h.s hh (by omega), h.dj, row_hit h.T hh h1, row_hit h.J hh h1, h.gb, h.bb⟩
theorem S8.end0 (h : S8 bT base g w ao c l bo d js x a1 c1 a2 c2 a3 c3) : S9 bT base g w ao c l bo d js x a1 c1 a2 c2 a3 c3 := ⟨h.box, Own.ofRow h.e, Own.ofRow h.t, Own.ofRow h.s, h.T, h.J⟩
theorem S8.boxg (h : S8 bT base g w ao c l bo d js x a1 c1 a2 c2 a3 c3) {v : Value} {n : Nat} {xs : List Value} (hv : w.ownsRow base 3 1 v n xs) (hg : w.grownBy w' v.ownBlock) : w'.heap[g]? = some (.cells #[.slice a1 x.ended.length c1, .slice a2 x.trace.length c2, .slice a3 x.switches.length c3, .bool x.high] 25 (0, 0)) :=
  (hg.block g (blk_lt h.box) (fun e => row_ne hv h.box (by decide) e.symm)).trans h.box
theorem S8.end_e {aN : Option Addr} {cN : Nat} {y : Int} (h : S8 bT base g w ao c l bo d js x a1 c1 a2 c2 a3 c3) (hn : w'.ownsRow base 3 1 (.slice aN (x.ended.length + 1) cN) (x.ended.length + 1) (ints x.ended ++ [.int .i64 y])) (hg : w.grownBy w' (Value.slice a1 x.ended.length c1).ownBlock) :
    S9 bT base g (w'.setCell ⟨g, 0, none⟩ (.slice aN (x.ended.length + 1) cN)) ao c l bo d js { x with ended := x.ended ++ [y] } aN cN a2 c2 a3 c3 := by
  have hbx := h.boxg h.e hg
  have hgs := grown_set w' g 0 (.slice aN (x.ended.length + 1) cN)
  have hd := (dj_ne h.dj).1
  have ht : w'.ownsRow base 3 1 (.slice a2 x.trace.length c2) x.trace.length (ints x.trace) := row_keep h.t hg (fun k hk => by
    have := hd k (by cases a1 <;> simp_all [Value.ownBlock])
    intro hx; exact this.1 (by cases a2 <;> simp_all [Value.ownBlock]))
  have hs : w'.ownsRow base 3 1 (.slice a3 x.switches.length c3) x.switches.length (ints x.switches) := row_keep h.s hg (fun k hk => by
    have := hd k (by cases a1 <;> simp_all [Value.ownBlock])
    intro hx; exact this.2 (by cases a3 <;> simp_all [Value.ownBlock]))
  have hT : w'.ownsRow bT 76 5 (.slice ao l.length c) l.length (tks l) := row_keep h.T hg (fun k hk hx => by
    rcases h.e.2 with ⟨e0, _⟩ | ⟨k', _, cur, e0, _, hk', _⟩
    · simp at e0; rw [e0.1] at hk; simp [Value.ownBlock] at hk
    · simp at e0; rw [e0.1] at hk; simp [Value.ownBlock] at hk; subst hk
      exact row_ne h.T hk' (by decide) hx)
  have hJ : w'.ownsRow bT 57 3 (.slice bo js.length d) js.length (jbs js) := row_keep h.J hg (fun k hk hx => by
    rcases h.e.2 with ⟨e0, _⟩ | ⟨k', _, cur, e0, _, hk', _⟩
    · simp at e0; rw [e0.1] at hk; simp [Value.ownBlock] at hk
    · simp at e0; rw [e0.1] at hk; simp [Value.ownBlock] at hk; subst hk
      exact row_ne h.J hk' (by decide) hx)
  have no := fun {E size n : Nat} {b : Nat} {v : Value} {xs : List Value} (hv : w'.ownsRow b E size v n xs) (hE : E ≠ 25) => row_keep hv hgs (fun k hk => by simp at hk; subst hk; exact row_ne hv hbx hE)
  refine ⟨by simpa using blk_set hbx 0 (.slice aN (x.ended.length + 1) cN), ?_, Own.ofRow (no ht (by decide)), Own.ofRow (no hs (by decide)), no hT (by decide), no hJ (by decide)⟩
  have := Own.ofRow (no hn (by decide))
  simpa [ints] using this
theorem S8.end_t {aN : Option Addr} {cN : Nat} {y : Int} (h : S8 bT base g w ao c l bo d js x a1 c1 a2 c2 a3 c3) (hn : w'.ownsRow base 3 1 (.slice aN (x.trace.length + 1) cN) (x.trace.length + 1) (ints x.trace ++ [.int .i64 y])) (hg : w.grownBy w' (Value.slice a2 x.trace.length c2).ownBlock) :
    S9 bT base g (w'.setCell ⟨g, 1, none⟩ (.slice aN (x.trace.length + 1) cN)) ao c l bo d js { x with trace := x.trace ++ [y] } a1 c1 aN cN a3 c3 := by
  have hbx := h.boxg h.t hg
  have hgs := grown_set w' g 1 (.slice aN (x.trace.length + 1) cN)
  have hd := (dj_ne h.dj).2
  have he : w'.ownsRow base 3 1 (.slice a1 x.ended.length c1) x.ended.length (ints x.ended) := row_keep h.e hg (fun k hk => by
    have := hd k (by cases a2 <;> simp_all [Value.ownBlock])
    intro hx; exact this.1 (by cases a1 <;> simp_all [Value.ownBlock]))
  have hs : w'.ownsRow base 3 1 (.slice a3 x.switches.length c3) x.switches.length (ints x.switches) := row_keep h.s hg (fun k hk => by
    have := hd k (by cases a2 <;> simp_all [Value.ownBlock])
    intro hx; exact this.2 (by cases a3 <;> simp_all [Value.ownBlock]))
  have hT : w'.ownsRow bT 76 5 (.slice ao l.length c) l.length (tks l) := row_keep h.T hg (fun k hk hx => by
    rcases h.t.2 with ⟨e0, _⟩ | ⟨k', _, cur, e0, _, hk', _⟩
    · simp at e0; rw [e0.1] at hk; simp [Value.ownBlock] at hk
    · simp at e0; rw [e0.1] at hk; simp [Value.ownBlock] at hk; subst hk
      exact row_ne h.T hk' (by decide) hx)
  have hJ : w'.ownsRow bT 57 3 (.slice bo js.length d) js.length (jbs js) := row_keep h.J hg (fun k hk hx => by
    rcases h.t.2 with ⟨e0, _⟩ | ⟨k', _, cur, e0, _, hk', _⟩
    · simp at e0; rw [e0.1] at hk; simp [Value.ownBlock] at hk
    · simp at e0; rw [e0.1] at hk; simp [Value.ownBlock] at hk; subst hk
      exact row_ne h.J hk' (by decide) hx)
  have no := fun {E size n : Nat} {b : Nat} {v : Value} {xs : List Value} (hv : w'.ownsRow b E size v n xs) (hE : E ≠ 25) => row_keep hv hgs (fun k hk => by simp at hk; subst hk; exact row_ne hv hbx hE)
  refine ⟨by simpa using blk_set hbx 1 (.slice aN (x.trace.length + 1) cN), Own.ofRow (no he (by decide)), ?_, Own.ofRow (no hs (by decide)), no hT (by decide), no hJ (by decide)⟩
  have := Own.ofRow (no hn (by decide))
  simpa [ints] using this
end

theorem own_oth {w : World} {b E g j : Nat} {ao : Option Addr} {xs : List Value} {v : Value} (h : Own w b E ao xs) (hg : g < b) : Own (w.setCell ⟨g, j, none⟩ v) b E ao xs := by
  rcases h with h | ⟨k, cur, e, hb, hk, ht⟩
  · exact .inl h
  · exact .inr ⟨k, cur, e, hb, blk_oth hk (by omega) j v, ht⟩
theorem row_set4 {w : World} {base E size n g : Nat} {v a b c d : Value} {xs : List Value} (h : w.ownsRow base E size v n xs) (hg : g < base) : ((((w.setCell ⟨g, 0, none⟩ a).setCell ⟨g, 1, none⟩ b).setCell ⟨g, 2, none⟩ c).setCell ⟨g, 3, none⟩ d).ownsRow base E size v n xs := by
  have hne : ∀ k, v.ownBlock = some k → k ≠ g := fun k hk => by have := (h.lt k hk).1; omega
  exact row_oth (row_oth (row_oth (row_oth h hne) hne) hne) hne
theorem own_set4 {w : World} {base E g : Nat} {ao : Option Addr} {a b c d : Value} {xs : List Value} (h : Own w base E ao xs) (hg : g < base) : Own ((((w.setCell ⟨g, 0, none⟩ a).setCell ⟨g, 1, none⟩ b).setCell ⟨g, 2, none⟩ c).setCell ⟨g, 3, none⟩ d) base E ao xs := own_oth (own_oth (own_oth (own_oth h hg) hg) hg) hg
theorem dr_set4 {w w' : World} {g : Nat} {a b c d : Value} (h : Bw w w') (hg : w.heap.size ≤ g) : Bw w ((((w'.setCell ⟨g, 0, none⟩ a).setCell ⟨g, 1, none⟩ b).setCell ⟨g, 2, none⟩ c).setCell ⟨g, 3, none⟩ d) := bw_set (bw_set (bw_set (bw_set h hg _ _) hg _ _) hg _ _) hg _ _
set_option maxRecDepth 100000 in
set_option maxHeartbeats 6400000 in
theorem l7Run_any {w0 w : World} {v : Value} (hv : RawB w0 v) (hb : Bw w0 w) : Calls Tryd.prog 41 #[v] w (Run8End w) := by
  obtain ⟨i0, hi0, hz0, hz1, hz2⟩ := info_parts infoInt
  have HV := Lib.hid hv
  clear hv
  go_enter Tryd.func41, Tryd.ntmps41
  go_wp2_with fail
  refine (l11Open_any HV.out (bw_trans hb (bw_alloc _ _))).mono ?_
  simp only [World.size_alloc]
  rintro e w1 ⟨rfl, hrd, hb1⟩
  have hz1' := hb1.size
  simp only [World.size_alloc] at hz1'
  have hG := hrd.lt
  have HBA := Lib.hid (blk_bw hb1 (heap_alloc_new w (.cells #[.slice none 0 0, .slice none 0 0, .slice none 0 0, .bool false] 25)))
  have hb01 := bw_trans (bw_alloc w (.cells #[.slice none 0 0, .slice none 0 0, .slice none 0 0, .bool false] 25)) hb1
  go_wp2_with fail
  refine (l7Draw_any _ _ _ _ hrd (by omega)).mono ?_
  rintro e w2 ⟨ao, c, l, bo, d, js, P, q, rfl, hown, hl6, hsm, hjow, hj61, hsj, hP, hq, hd2⟩
  have hz2' := hd2.2.size
  have HSM := Lib.hid hsm
  have HSJ := Lib.hid hsj
  have HT2 := Lib.hid hown
  have HJ2 := Lib.hid hjow
  have HR2 := Lib.hid hd2.1
  have HB2 := Lib.hid (show Bw w w2 from bw_hit hb01 hd2.2 (by omega))
  have HBA2 := Lib.hid (blk_hit hd2.2 HBA.out (.inl (by omega)))
  clear hsm hsj hown hjow hd2 hrd HBA
  go_wp2_with fail
  refine (num_any _ (w.heap.size + 1) (w.heap.size + 1) _ w2.heap.size [40, 20, 60, 5, 0] 5 (HR2.out.bw (bw_alloc _ _)) (by omega) (by simp) (by simp) (by omega) (ri_lit _ (heap_alloc_new w2 _) rfl)).mono ?_
  rintro e w4 ⟨N, rfl, _, hd4⟩
  have hz4 := hd4.2.size
  simp only [World.size_alloc] at hz4
  have HT4 := Lib.hid (row_hit (HT2.out.alloc _) hd4.2 (by omega))
  have HJ4 := Lib.hid (row_hit (HJ2.out.alloc _) hd4.2 (by omega))
  have HR4 := Lib.hid hd4.1
  have HB4 := Lib.hid (show Bw w w4 from bw_hit (bw_trans HB2.out (bw_alloc _ _)) hd4.2 (by omega))
  have HBA4 := Lib.hid (blk_hit hd4.2 (blk_bw (bw_alloc w2 (.cells #[vi 40, vi 20, vi 60, vi 5, vi 0] 3)) HBA2.out) (.inl (by omega)))
  clear hd4
  have hl : l.length ≤ 1048576 := by omega
  have hj : js.length ≤ 1048576 := by omega
  have hbd := runJ_bd l js P N
  go_wp2_with fail
  refine (runjobs_specO (st_row HT4.out hl) (sj_row HJ4.out hj) P N).mono ?_
  obtain ⟨x, hx⟩ : ∃ x, (runJ l js P N).1 = x := ⟨_, rfl⟩
  obtain ⟨o, ho⟩ : ∃ o, (runJ l js P N).2 = o := ⟨_, rfl⟩
  rw [hx] at hbd
  rw [hx, ho]
  have HXO := Lib.hid (runJ_same hx ho)
  have HBD := Lib.hid hbd
  have HX := Lib.hid hx
  have HO := Lib.hid ho
  clear hbd hx ho
  rintro e w5 ⟨a1, c1, a2, c2, a3, c3, rfl, h1, h2, h3, hdj, hb5⟩
  have hz5 := hb5.size
  have HS5 : Hid (S8 w1.heap.size w4.heap.size w5.heap.size (w5.alloc (.cells #[.slice a1 x.ended.length c1, .slice a2 x.trace.length c2, .slice a3 x.switches.length c3, .bool x.high] 25)) ao c l bo d js x a1 c1 a2 c2 a3 c3) :=
    ⟨heap_alloc_new _ _, row_bw h1 (bw_alloc _ _), row_bw h2 (bw_alloc _ _), row_bw h3 (bw_alloc _ _), hdj, row_bw (row_bw HT4.out hb5) (bw_alloc _ _), row_bw (row_bw HJ4.out hb5) (bw_alloc _ _), by omega, by omega⟩
  have HB5 := Lib.hid (bw_trans HB4.out (bw_trans hb5 (bw_alloc w5 (.cells #[.slice a1 x.ended.length c1, .slice a2 x.trace.length c2, .slice a3 x.switches.length c3, .bool x.high] 25))))
  have HR5 := Lib.hid ((HR4.out.bw hb5).bw (bw_alloc w5 (.cells #[.slice a1 x.ended.length c1, .slice a2 x.trace.length c2, .slice a3 x.switches.length c3, .bool x.high] 25)))
  have HBA5 := Lib.hid (blk_bw (bw_trans hb5 (bw_alloc w5 (.cells #[.slice a1 x.ended.length c1, .slice a2 x.trace.length c2, .slice a3 x.switches.length c3, .bool x.high] 25))) HBA4.out)
  clear h1 h2 h3 hdj hb5 HT2 HJ2 HT4 HJ4 HR2 HB2 HR4 HB4 HBA2 HBA4
  go_wp2_with fail
  refine (pick_any _ _ _ _ _ HR5.out (by omega)).mono ?_
  rintro e w7 ⟨r, rfl, hr, hd7⟩
  have hz7 := hd7.2.size
  simp only [World.size_alloc] at hz7
  have HS7 := Lib.hid (HS5.out.hit hd7.2 (by omega))
  have HR7 := Lib.hid hd7.1
  have HB7 := Lib.hid (show Bw w w7 from bw_hit HB5.out hd7.2 (by omega))
  have HBA7 := Lib.hid (blk_hit hd7.2 HBA5.out (.inl (by omega)))
  clear hd7 HS5 HR5 HB5 HBA5
  have s0 := blk_cell HS7.out.box 0 rfl
  have s1 := blk_cell HS7.out.box 1 rfl
  have sl := blk_lt HS7.out.box
  have hbn := HBD.out
  have hn1 := hbn.n1
  have hn2 := hbn.n2
  clear hbn
  rcases (show r = 0 ∨ r = 1 ∨ 2 ≤ r by omega) with h | h | h
  · subst h
    clear s0 s1 sl
    have k0 := blk_cell HS7.out.box 0 rfl
    have k1 := blk_cell HS7.out.box 1 rfl
    have kl := blk_lt HS7.out.box
    go_wp2_with fail
    go_region_law (first
      | (refine step_append_own rfl _ _ 23 rfl w4.heap.size 3 i0 (.int .i64 0) 1 8 Tryd.underlying23 hi0 hz0 hz1 hz2 rfl (by decide) _ _ _ rfl HROW.out ⟨w8.heap.size, 0, none⟩ 1 1 [.int .i64 y] rfl rfl (cell_one_new _ _ _) (oneI _) (by unfold maxLen; omega) (by omega) (by simp only [World.size_alloc]; omega) ?_
         intro v9 w9 hown9 hgrow9 _
         obtain ⟨aN, cN, hu9⟩ := own_form hown9
         subst hu9
         have hb9 : Bw w w9 := Below.grown (Below.alloc HB8.out (by omega) _) hgrow9 (by simp only [World.size_alloc]; omega) (fun g hg => by have := own_cap0 HROW.out g hg; omega)
         have hbx := HS8a.out.boxg HROW.out hgrow9
         have q9 := blk_cell hbx 0 rfl
         have f9 := fun j => blk_free hbx j
         have l9 := blk_lt hbx)
      | (go_simp; go_at_call 39; refine (num_any _ (w.heap.size + 1) (w.heap.size + 1) _ w7.heap.size [5, -1, -2] 3 (HR7.out.bw (bw_trans (bw_alloc _ _) (bw_drew _))) (by omega) (by simp) (by simp) (by omega) (ri_lit _ (heap_alloc_new w7 (.cells #[vi 5, vi (-1), vi (-2)] 3)) rfl)).mono ?_; rintro e w8 ⟨y, rfl, hy, hd8⟩; have hz8 := hd8.2.size; (try simp at hz8); have HS8 := Lib.hid ((HS7.out.on (bw_trans (bw_alloc _ _) (bw_drew _))).hit hd8.2 (by omega)); have HS8a := Lib.hid (HS8.out.on (bw_alloc _ (.cells #[.int .i64 y] 3))); have HROW := Lib.hid HS8a.out.e; have HBA8 := Lib.hid (blk_bw (bw_alloc w8 (.cells #[.int .i64 y] 3)) (blk_hit hd8.2 (blk_bw (bw_trans (bw_alloc _ _) (bw_drew _)) HBA7.out) (.inl (by omega)))); have HB8 : Hid (Bw w w8) := bw_hit (bw_trans HB7.out (bw_trans (bw_alloc _ _) (bw_drew _))) hd8.2 (by omega); have hyb : -2 ≤ y ∧ y ≤ 5 := (by simp at hy; omega); clear hy hd8; have m0 := blk_cell HS8.out.box 0 rfl; have m1 := blk_cell HS8.out.box 1 rfl; have ml := blk_lt HS8.out.box))
    all_goals
      have HS := Lib.hid (HS8a.out.end_e hown9 hgrow9)
      have hb9z : w9.heap[w.heap.size]? = some (.cells #[.slice none 0 0, .slice none 0 0, .slice none 0 0, .bool false] 25 (0, 0)) := (hgrow9.block w.heap.size (blk_lt HBA8.out) (fun e => by have := own_cap0 HROW.out w.heap.size e.symm; omega)).trans HBA8.out
      have HBx := Lib.hid (bw_set hb9 (show w.heap.size ≤ w5.heap.size by omega) 0 (.slice aN (x.ended.length + 1) cN))
      have HBAx := Lib.hid (blk_oth hb9z (show w.heap.size ≠ w5.heap.size by omega) 0 (.slice aN (x.ended.length + 1) cN))
      have HRB := Lib.hid (HBD.out.app_e hyb)
      have HLK := Lib.hid (show Like l js { x with ended := x.ended ++ [y] } from ⟨P, N, x, o, HXO.out, .inr (.inl ⟨y, rfl⟩)⟩)
      have hxl : (x.ended ++ [y]).length = x.ended.length + 1 := by simp
      have HXL := Lib.hid hxl
      clear hown9 hgrow9 hxl q9 f9 l9 hbx k0 k1 kl hb9z
      have s0 := blk_cell HS.out.box 0 rfl
      have s1 := blk_cell HS.out.box 1 rfl
      have s2 := blk_cell HS.out.box 2 rfl
      have s3 := blk_cell HS.out.box 3 rfl
      have sl := blk_lt HS.out.box
      have t0 := blk_cell HBAx.out 0 rfl
      have t1 := blk_cell HBAx.out 1 rfl
      have t2 := blk_cell HBAx.out 2 rfl
      have t3 := blk_cell HBAx.out 3 rfl
      have tl := blk_lt HBAx.out
      have tf := fun j => blk_free HBAx.out j
      go_wp2_with fail
      go_region
      go_wp2
      refine bodyPost_ret (v := .tuple #[.slice ao l.length c, .slice bo js.length d, (rnVal aN (x.ended ++ [y]).length cN a2 x.trace.length c2 a3 x.switches.length c3 x.high)]) (by simp [results, Tryd.results41, go_sem, t0, t1, t2, t3]) rfl ?_
      exact ⟨ao, c, l, bo, d, js, ({ x with ended := x.ended ++ [y] } : Rn), _, _, _, _, _, _, rfl, ⟨Go.Joins.ownsRow_le (row_bw (row_set4 HS.out.T (by omega)) (bw_drew _)) (by omega), hl6, HSM.out, Go.Joins.ownsRow_le (row_bw (row_set4 HS.out.J (by omega)) (bw_drew _)) (by omega), hj61, HSJ.out, bw_trans (dr_set4 HBx.out (Nat.le_refl _)) (bw_drew _)⟩, ((own_set4 HS.out.e (by omega)).bw (bw_drew _)).mono (by omega), ((own_set4 HS.out.t (by omega)).bw (bw_drew _)).mono (by omega), ((own_set4 HS.out.s (by omega)).bw (bw_drew _)).mono (by omega), HRB.out, HLK.out⟩
  · subst h
    clear s0 s1 sl
    have k0 := blk_cell HS7.out.box 0 rfl
    have k1 := blk_cell HS7.out.box 1 rfl
    have kl := blk_lt HS7.out.box
    go_wp2_with fail
    go_region_law (first
      | (refine step_append_own rfl _ _ 23 rfl w4.heap.size 3 i0 (.int .i64 0) 1 8 Tryd.underlying23 hi0 hz0 hz1 hz2 rfl (by decide) _ _ _ rfl HROW.out ⟨w8.heap.size, 0, none⟩ 1 1 [.int .i64 y] rfl rfl (cell_one_new _ _ _) (oneI _) (by unfold maxLen; omega) (by omega) (by simp only [World.size_alloc]; omega) ?_
         intro v9 w9 hown9 hgrow9 _
         obtain ⟨aN, cN, hu9⟩ := own_form hown9
         subst hu9
         have hb9 : Bw w w9 := Below.grown (Below.alloc HB8.out (by omega) _) hgrow9 (by simp only [World.size_alloc]; omega) (fun g hg => by have := own_cap0 HROW.out g hg; omega)
         have hbx := HS8a.out.boxg HROW.out hgrow9
         have q9 := blk_cell hbx 1 rfl
         have f9 := fun j => blk_free hbx j
         have l9 := blk_lt hbx)
      | (go_simp; go_at_call 39; refine (num_any _ (w.heap.size + 1) (w.heap.size + 1) _ w7.heap.size [0, 5, -2] 3 (HR7.out.bw (bw_trans (bw_alloc _ _) (bw_drew _))) (by omega) (by simp) (by simp) (by omega) (ri_lit _ (heap_alloc_new w7 (.cells #[vi 0, vi 5, vi (-2)] 3)) rfl)).mono ?_; rintro e w8 ⟨y, rfl, hy, hd8⟩; have hz8 := hd8.2.size; (try simp at hz8); have HS8 := Lib.hid ((HS7.out.on (bw_trans (bw_alloc _ _) (bw_drew _))).hit hd8.2 (by omega)); have HS8a := Lib.hid (HS8.out.on (bw_alloc _ (.cells #[.int .i64 y] 3))); have HROW := Lib.hid HS8a.out.t; have HBA8 := Lib.hid (blk_bw (bw_alloc w8 (.cells #[.int .i64 y] 3)) (blk_hit hd8.2 (blk_bw (bw_trans (bw_alloc _ _) (bw_drew _)) HBA7.out) (.inl (by omega)))); have HB8 : Hid (Bw w w8) := bw_hit (bw_trans HB7.out (bw_trans (bw_alloc _ _) (bw_drew _))) hd8.2 (by omega); have hyb : -2 ≤ y ∧ y ≤ 5 := (by simp at hy; omega); clear hy hd8; have m0 := blk_cell HS8.out.box 0 rfl; have m1 := blk_cell HS8.out.box 1 rfl; have ml := blk_lt HS8.out.box))
    all_goals
      have HS := Lib.hid (HS8a.out.end_t hown9 hgrow9)
      have hb9z : w9.heap[w.heap.size]? = some (.cells #[.slice none 0 0, .slice none 0 0, .slice none 0 0, .bool false] 25 (0, 0)) := (hgrow9.block w.heap.size (blk_lt HBA8.out) (fun e => by have := own_cap0 HROW.out w.heap.size e.symm; omega)).trans HBA8.out
      have HBx := Lib.hid (bw_set hb9 (show w.heap.size ≤ w5.heap.size by omega) 1 (.slice aN (x.trace.length + 1) cN))
      have HBAx := Lib.hid (blk_oth hb9z (show w.heap.size ≠ w5.heap.size by omega) 1 (.slice aN (x.trace.length + 1) cN))
      have HRB := Lib.hid (HBD.out.app_t hyb)
      have HLK := Lib.hid (show Like l js { x with trace := x.trace ++ [y] } from ⟨P, N, x, o, HXO.out, .inr (.inr ⟨y, rfl⟩)⟩)
      have hxl : (x.trace ++ [y]).length = x.trace.length + 1 := by simp
      have HXL := Lib.hid hxl
      clear hown9 hgrow9 hxl q9 f9 l9 hbx k0 k1 kl hb9z
      have s0 := blk_cell HS.out.box 0 rfl
      have s1 := blk_cell HS.out.box 1 rfl
      have s2 := blk_cell HS.out.box 2 rfl
      have s3 := blk_cell HS.out.box 3 rfl
      have sl := blk_lt HS.out.box
      have t0 := blk_cell HBAx.out 0 rfl
      have t1 := blk_cell HBAx.out 1 rfl
      have t2 := blk_cell HBAx.out 2 rfl
      have t3 := blk_cell HBAx.out 3 rfl
      have tl := blk_lt HBAx.out
      have tf := fun j => blk_free HBAx.out j
      go_wp2_with fail
      go_region
      go_wp2
      refine bodyPost_ret (v := .tuple #[.slice ao l.length c, .slice bo js.length d, (rnVal a1 x.ended.length c1 aN (x.trace ++ [y]).length cN a3 x.switches.length c3 x.high)]) (by simp [results, Tryd.results41, go_sem, t0, t1, t2, t3]) rfl ?_
      exact ⟨ao, c, l, bo, d, js, ({ x with trace := x.trace ++ [y] } : Rn), _, _, _, _, _, _, rfl, ⟨Go.Joins.ownsRow_le (row_bw (row_set4 HS.out.T (by omega)) (bw_drew _)) (by omega), hl6, HSM.out, Go.Joins.ownsRow_le (row_bw (row_set4 HS.out.J (by omega)) (bw_drew _)) (by omega), hj61, HSJ.out, bw_trans (dr_set4 HBx.out (Nat.le_refl _)) (bw_drew _)⟩, ((own_set4 HS.out.e (by omega)).bw (bw_drew _)).mono (by omega), ((own_set4 HS.out.t (by omega)).bw (bw_drew _)).mono (by omega), ((own_set4 HS.out.s (by omega)).bw (bw_drew _)).mono (by omega), HRB.out, HLK.out⟩
  · have e0 : ((r : Int) == 0) = false := by simp; omega
    have e1 : ((r : Int) == 1) = false := by simp; omega
    have H := Lib.hid h
    clear h
    clear s0 s1 sl
    have HS := Lib.hid HS7.out.end0
    have HRB := Lib.hid HBD.out.b2
    have HLK := Lib.hid (show Like l js x from ⟨P, N, x, o, HXO.out, .inl rfl⟩)
    have s0 := blk_cell HS.out.box 0 rfl
    have s1 := blk_cell HS.out.box 1 rfl
    have s2 := blk_cell HS.out.box 2 rfl
    have s3 := blk_cell HS.out.box 3 rfl
    have sl := blk_lt HS.out.box
    have t0 := blk_cell HBA7.out 0 rfl
    have t1 := blk_cell HBA7.out 1 rfl
    have t2 := blk_cell HBA7.out 2 rfl
    have t3 := blk_cell HBA7.out 3 rfl
    have tl := blk_lt HBA7.out
    have tf := fun j => blk_free HBA7.out j
    go_wp2_with fail
    go_region
    go_wp2
    refine bodyPost_ret (v := .tuple #[.slice ao l.length c, .slice bo js.length d, (rnVal a1 x.ended.length c1 a2 x.trace.length c2 a3 x.switches.length c3 x.high)]) (by simp [results, Tryd.results41, go_sem, t0, t1, t2, t3]) rfl ?_
    exact ⟨ao, c, l, bo, d, js, x, _, _, _, _, _, _, rfl, ⟨Go.Joins.ownsRow_le (row_bw (row_set4 HS.out.T (by omega)) (bw_drew _)) (by omega), hl6, HSM.out, Go.Joins.ownsRow_le (row_bw (row_set4 HS.out.J (by omega)) (bw_drew _)) (by omega), hj61, HSJ.out, bw_trans (dr_set4 HB7.out (Nat.le_refl _)) (bw_drew _)⟩, ((own_set4 HS.out.e (by omega)).bw (bw_drew _)).mono (by omega), ((own_set4 HS.out.t (by omega)).bw (bw_drew _)).mono (by omega), ((own_set4 HS.out.s (by omega)).bw (bw_drew _)).mono (by omega), HRB.out, HLK.out⟩
end Go.Proofs.YtaadlgpglfpmpaaDoor
