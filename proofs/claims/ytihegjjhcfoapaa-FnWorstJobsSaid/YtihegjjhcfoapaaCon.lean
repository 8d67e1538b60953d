/-
  The contracts in the words that the laws use.
-/
import Derived.Test.YtihegjjhcfoapaaArg
namespace Go.Proofs.Ytihegjjhcfoapaa
open Go.RowKit
theorem own_ri {w : World} {b E : Nat} {ao : Option Addr} {l : List Int} (h : Own w b E ao (ints l)) : RI w ao l := h.ri

theorem dropped_len {r : Rn} {w : World} {v : Value} (h : RR w v r) : (dropped r.ended).length ≤ 1048576 := Nat.le_trans (dropFrom_len _ _) h.n1

theorem keep4 {w5 W : World} {g : Nat} {v0 v1 v2 v3 : Value} (hb : Bw w5 W)
    (hs : w5.cell? ⟨g, 0, none⟩ = some v0 ∧ w5.cell? ⟨g, 1, none⟩ = some v1 ∧ w5.cell? ⟨g, 2, none⟩ = some v2 ∧ w5.cell? ⟨g, 3, none⟩ = some v3) :
    W.cell? ⟨g, 0, none⟩ = some v0 ∧ W.cell? ⟨g, 1, none⟩ = some v1 ∧ W.cell? ⟨g, 2, none⟩ = some v2 ∧ W.cell? ⟨g, 3, none⟩ = some v3 := by
  obtain ⟨a, b, c, d⟩ := hs
  exact ⟨cell_bw hb a, cell_bw hb b, cell_bw hb c, cell_bw hb d⟩
/-- What a size leaves: less than nothing, or what is left of the limit. -/
def Sz (left : Int) (n : Nat) (q : Int) : Prop := q < 0 ∨ (0 ≤ q ∧ q + n = left)
def SzEnd (w : World) (left : Int) (n : Nat) (e : Ending) (w' : World) : Prop := ∃ q, e = .returned (.int .i64 q) ∧ Bw w w' ∧ Sz left n q
theorem box4 {w : World} {g E : Nat} {x0 x1 x2 x3 : Value} (h : w.heap[g]? = some (.cells #[x0, x1, x2, x3] E (0, 0))) :
    w.cell? ⟨g, 0, none⟩ = some x0 ∧ w.cell? ⟨g, 1, none⟩ = some x1 ∧ w.cell? ⟨g, 2, none⟩ = some x2 ∧ w.cell? ⟨g, 3, none⟩ = some x3 :=
  ⟨blk_cell h 0 rfl, blk_cell h 1 rfl, blk_cell h 2 rfl, blk_cell h 3 rfl⟩

theorem eqI_self (l : List Int) : eqI l l = true := by simp [eqI_iff]
theorem rr_raw {w : World} {v : Value} {r : Rn} (h : RawRun w v r) (n1 : r.ended.length ≤ 1048576) (n2 : r.trace.length ≤ 1048576) (n3 : r.switches.length ≤ 1048576) : RR w v r := by
  obtain ⟨f, _, _, _, ng⟩ := h
  exact ⟨f, n1, n2, n3, ng⟩
theorem Own.bw' {w w' : World} {base E : Nat} {ao : Option Addr} {xs : List Value} (hb : Bw w w') (h : Own w base E ao xs) : Own w' base E ao xs := h.bw hb
theorem Own.hit' {w w' : World} {lo hi b E : Nat} {ao : Option Addr} {xs : List Value} (hh : HitR lo hi w w') (h : Own w b E ao xs) (hb : hi ≤ b) : Own w' b E ao xs := h.hit hh hb
theorem NT.bw' {w w' : World} {g : Nat} {v : Value} {l : List Tk} (hb : Bw w w') (h : NT w g v l) : NT w' g v l := h.bw hb
theorem NT.hit' {w w' : World} {lo hi g : Nat} {v : Value} {l : List Tk} (hh : HitR lo hi w w') (h : NT w g v l) (hg : g < lo ∨ hi ≤ g) : NT w' g v l := h.hit hh hg
theorem NJ.bw' {w w' : World} {g : Nat} {v : Value} {l : List Jb} (hb : Bw w w') (h : NJ w g v l) : NJ w' g v l := h.bw hb
theorem NJ.hit' {w w' : World} {lo hi g : Nat} {v : Value} {l : List Jb} (hh : HitR lo hi w w') (h : NJ w g v l) (hg : g < lo ∨ hi ≤ g) : NJ w' g v l := h.hit hh hg
end Go.Proofs.Ytihegjjhcfoapaa
