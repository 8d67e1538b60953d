/-
  The contracts in the words that the laws use.
-/
import Derived.Test.YtbgfclcnddgboaaArg
namespace Go.Proofs.Ytbgfclcnddgboaa
open Go.RowKit
theorem own_ri {w : World} {b E : Nat} {ao : Option Addr} {l : List Int} (h : Own w b E ao (ints l)) : RI w ao l := h.ri

theorem dropped_impl {w : World} {v : Value} {r : Rn} (h : RR w v r) : Calls Try.prog 45 #[v] w (RS w 3 (ints (dropped r.ended)) (dropped r.ended).length) := by
  obtain ⟨⟨a1, c1, a2, c2, a3, c3, rfl, h1, h2, h3⟩, n1, n2, n3, _⟩ := h
  exact (DroppedOf_impl _ _ _ _ _ _ _ n1 h1).mono fun e w' => Ret.rs
set_option maxHeartbeats 3200000 in
theorem same_impl {w : World} {v u : Value} {r s : Rn} (hv : RR w v r) (hu : RR w u s) : Calls Try.prog 44 #[v, u] w fun e w' => e = .returned (.bool (eqR r s)) ∧ Bw w w' := by
  obtain ⟨⟨a1, c1, a2, c2, a3, c3, rfl, h1, h2, h3⟩, n1, n2, n3, _⟩ := hv
  obtain ⟨⟨b1, d1, b2, d2, b3, d3, rfl, k1, k2, k3⟩, m1, m2, m3, _⟩ := hu
  have H1 := Lib.hid h1
  have H2 := Lib.hid h2
  have H3 := Lib.hid h3
  have K1 := Lib.hid k1
  have K2 := Lib.hid k2
  have K3 := Lib.hid k3
  clear h1 h2 h3 k1 k2 k3
  obtain ⟨e1, E1⟩ : ∃ b, Hid (eqI r.ended s.ended = b) := ⟨_, rfl⟩
  obtain ⟨e2, E2⟩ : ∃ b, Hid (eqI r.trace s.trace = b) := ⟨_, rfl⟩
  obtain ⟨e3, E3⟩ : ∃ b, Hid (eqI r.switches s.switches = b) := ⟨_, rfl⟩
  have E : Hid (eqR r s = (e1 && e2 && e3 && (r.high == s.high))) := by show eqR r s = _; rw [eqR, E1.out, E2.out, E3.out]
  obtain ⟨rh, RH⟩ : ∃ x, Hid (r.high = x) := ⟨_, rfl⟩
  obtain ⟨sh, SH⟩ : ∃ x, Hid (s.high = x) := ⟨_, rfl⟩
  rw [RH.out, SH.out]
  have E' : Hid (eqR r s = (e1 && e2 && e3 && (rh == sh))) := by show _ = _; rw [E.out, RH.out, SH.out]
  clear E
  go_enter Try.func44, Try.ntmps44
  go_wp2_with fail
  refine (slicesEqual_any _ _ _ _ _ _ _ (H1.out.bw (bw_trans (bw_alloc _ _) (bw_alloc _ _))) (K1.out.bw (bw_trans (bw_alloc _ _) (bw_alloc _ _))) n1 m1).mono ?_
  rw [E1.out]
  rintro e w1 ⟨rfl, hb1⟩
  have hw1 := bw_trans (bw_trans (bw_alloc _ _) (bw_alloc _ _)) hb1
  have C1 := Lib.hid (box_two hb1).1
  have C2 := Lib.hid (box_two hb1).2
  cases e1 with
  | false =>
    go_wp2
    go_ret
    exact ⟨ret_b (by rw [E'.out]; simp), hw1⟩
  | true =>
    have p2 := blk_cell C1.out 1 rfl
    have q2 := blk_cell C2.out 1 rfl
    go_wp2_with fail
    refine (slicesEqual_any _ _ _ _ _ _ _ (H2.out.bw hw1) (K2.out.bw hw1) n2 m2).mono ?_
    rw [E2.out]
    rintro e w2 ⟨rfl, hb2⟩
    have hw2 := bw_trans hw1 hb2
    clear p2 q2
    cases e2 with
    | false =>
      go_wp2
      go_ret
      exact ⟨ret_b (by rw [E'.out]; simp), hw2⟩
    | true =>
      have p3 := blk_cell (blk_bw hb2 C1.out) 2 rfl
      have q3 := blk_cell (blk_bw hb2 C2.out) 2 rfl
      go_wp2_with fail
      refine (slicesEqual_any _ _ _ _ _ _ _ (H3.out.bw hw2) (K3.out.bw hw2) n3 m3).mono ?_
      rw [E3.out]
      rintro e w3 ⟨rfl, hb3⟩
      have hw3 := bw_trans hw2 hb3
      clear p3 q3
      cases e3 with
      | false =>
        go_wp2
        go_ret
        exact ⟨ret_b (by rw [E'.out]; simp), hw3⟩
      | true =>
        have p3' := blk_cell (blk_bw hb3 (blk_bw hb2 C1.out)) 3 rfl
        have q3' := blk_cell (blk_bw hb3 (blk_bw hb2 C2.out)) 3 rfl
        cases rh <;> cases sh
        all_goals
          go_wp2
          go_ret
          exact ⟨ret_b (by rw [E'.out]; rfl), hw3⟩
theorem dropped_len {r : Rn} {w : World} {v : Value} (h : RR w v r) : (dropped r.ended).length ≤ 1048576 := Nat.le_trans (dropFrom_len _ _) h.n1

theorem keep4 {w5 W : World} {g : Nat} {v0 v1 v2 v3 : Value} (hb : Bw w5 W)
    (hs : w5.cell? ⟨g, 0, none⟩ = some v0 ∧ w5.cell? ⟨g, 1, none⟩ = some v1 ∧ w5.cell? ⟨g, 2, none⟩ = some v2 ∧ w5.cell? ⟨g, 3, none⟩ = some v3) :
    W.cell? ⟨g, 0, none⟩ = some v0 ∧ W.cell? ⟨g, 1, none⟩ = some v1 ∧ W.cell? ⟨g, 2, none⟩ = some v2 ∧ W.cell? ⟨g, 3, none⟩ = some v3 := by
  obtain ⟨a, b, c, d⟩ := hs
  exact ⟨cell_bw hb a, cell_bw hb b, cell_bw hb c, cell_bw hb d⟩
/-- What a size leaves: less than nothing, or what is left of the limit. -/
def Sz (left : Int) (n : Nat) (q : Int) : Prop := q < 0 ∨ (0 ≤ q ∧ q + n = left)
def SzEnd (w : World) (left : Int) (n : Nat) (e : Ending) (w' : World) : Prop := ∃ q, e = .returned (.int .i64 q) ∧ Bw w w' ∧ Sz left n q
theorem box4 {w : World} {g E : Nat} {x0 x1 x2 x3 : Value} (h : w.heap[g]? = some (.cells #[x0, x1, x2, x3] E (0, 0))) :
    w.cell? ⟨g, 0, none⟩ = some x0 ∧ w.cell? ⟨g, 1, none⟩ = some x1 ∧ w.cell? ⟨g, 2, none⟩ = some x2 ∧ w.cell? ⟨g, 3, none⟩ = some x3 :=
  ⟨blk_cell h 0 rfl, blk_cell h 1 rfl, blk_cell h 2 rfl, blk_cell h 3 rfl⟩

theorem szJobE (ao : Option Addr) (n c : Nat) (left : Int) (w : World) (hn : n ≤ maxLen) (h0 : 0 ≤ left) (h1 : left ≤ 1048576) : Calls Try.prog 31 #[.slice ao n c, .int .i64 left] w (SzEnd w left n) :=
  (szJobS_any ao n c left w hn h0 h1).mono fun e w' ⟨he, hw⟩ => by
    subst hw
    by_cases h : left - (n : Int) < 0
    · rw [if_pos h] at he; exact ⟨-1, he, Bw.refl _, .inl (by omega)⟩
    · rw [if_neg h] at he; exact ⟨_, he, Bw.refl _, .inr ⟨by omega, by omega⟩⟩
theorem szTaskE (ao : Option Addr) (n c : Nat) (left : Int) (w : World) (hn : n ≤ maxLen) (h0 : 0 ≤ left) (h1 : left ≤ 1048576) : Calls Try.prog 30 #[.slice ao n c, .int .i64 left] w (SzEnd w left n) :=
  (szTaskS_any ao n c left w hn h0 h1).mono fun e w' ⟨he, hw⟩ => by
    subst hw
    by_cases h : left - (n : Int) < 0
    · rw [if_pos h] at he; exact ⟨-1, he, Bw.refl _, .inl (by omega)⟩
    · rw [if_neg h] at he; exact ⟨_, he, Bw.refl _, .inr ⟨by omega, by omega⟩⟩
theorem eqI_self (l : List Int) : eqI l l = true := by simp [eqI_iff]
theorem rr_raw {w : World} {v : Value} {r : Rn} (h : RawRun w v r) (n1 : r.ended.length ≤ 1048576) (n2 : r.trace.length ≤ 1048576) (n3 : r.switches.length ≤ 1048576) : RR w v r := by
  obtain ⟨f, _, _, _, ng⟩ := h
  exact ⟨f, n1, n2, n3, ng⟩
theorem Own.bw' {w w' : World} {base E : Nat} {ao : Option Addr} {xs : List Value} (hb : Bw w w') (h : Own w base E ao xs) : Own w' base E ao xs := h.bw hb
theorem Own.hit' {w w' : World} {lo hi b E : Nat} {ao : Option Addr} {xs : List Value} (hh : HitR lo hi w w') (h : Own w b E ao xs) (hb : hi ≤ b) : Own w' b E ao xs := h.hit hh hb
theorem NT.bw' {w w' : World} {g : Nat} {v : Value} {l : List Tk} (hb : Bw w w') (h : NT w g v l) : NT w' g v l := h.bw hb
theorem NT.hit' {w w' : World} {lo hi g : Nat} {v : Value} {l : List Tk} (hh : HitR lo hi w w') (h : NT w g v l) (hg : g < lo ∨ hi ≤ g) : NT w' g v l := h.hit hh hg
theorem NJ.bw' {w w' : World} {g : Nat} {v : Value} {l : List Jb} (hb : Bw w w') (h : NJ w g v l) : NJ w' g v l := h.bw hb
theorem NJ.hit' {w w' : World} {lo hi g : Nat} {v : Value} {l : List Jb} (hh : HitR lo hi w w') (h : NJ w g v l) (hg : g < lo ∨ hi ≤ g) : NJ w' g v l := h.hit hh hg
end Go.Proofs.Ytbgfclcnddgboaa
