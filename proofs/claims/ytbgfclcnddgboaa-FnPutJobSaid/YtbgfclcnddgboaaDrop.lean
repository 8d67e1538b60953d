/-
  The walks of DroppedOf, of the marks on a run and of RunSame. Lengths at most 2^20.
-/
import Derived.Test.YtbgfclcnddgboaaMark
namespace Go.Proofs.Ytbgfclcnddgboaa
open Go.RowKit

/-- The places from i on at which -2 stands. -/
def dropFrom : List Int → Nat → List Int
  | [], _ => []
  | x :: l, i => if x = -2 then (i : Int) :: dropFrom l (i + 1) else dropFrom l (i + 1)
abbrev dropped (l : List Int) : List Int := dropFrom l 0
theorem dropFrom_len (l : List Int) : ∀ i, (dropFrom l i).length ≤ l.length := by
  induction l with
  | nil => intro i; simp [dropFrom]
  | cons x l ih => intro i; simp only [dropFrom, List.length_cons]; split <;> (have := ih (i + 1); simp; omega)

/-- A slice of the call's own: what it owns, and that its capacity is known. -/
def Ret (w : World) (E size : Nat) (xs : List Value) (n : Nat) (e : Ending) (w' : World) : Prop := ∃ ao c, e = .returned (.slice ao n c) ∧ w'.ownsRow w.heap.size E size (.slice ao n c) n xs ∧ Bw w w'

theorem own_form {w : World} {base E size n : Nat} {v : Value} {xs : List Value} (h : w.ownsRow base E size v n xs) : ∃ ao c, v = .slice ao n c := by
  rcases h.2 with ⟨rfl, rfl⟩ | ⟨g, cap, cur, rfl, _⟩
  · exact ⟨none, 0, rfl⟩
  · exact ⟨_, _, rfl⟩

theorem own_cap0 {w : World} {base E size n : Nat} {v : Value} {xs : List Value} (h : w.ownsRow base E size v n xs) : ∀ k, v.ownBlock = some k → base ≤ k := fun k hk => (h.lt k hk).1

set_option maxHeartbeats 1600000 in
theorem DroppedOf_impl (v1 v2 : Value) (ao : Option Addr) (c : Nat) (hi : Bool) (w : World) (l : List Int) (hl : l.length ≤ 1048576) (hr : RI w ao l) :
    Calls Try.prog 45 #[.agg #[.slice ao l.length c, v1, v2, .bool hi]] w (Ret w 3 1 (ints (dropped l)) (dropped l).length) := by
  obtain ⟨i0, hi0, hz0, hz1, hz2⟩ := info_parts infoInt
  have HR := Lib.hid hr
  clear hr
  go_enter Try.func45, Try.ntmps45
  go_wp2
  go_loopw [3, 10] (fun u i wr => ∃ (k : Nat) (q : List Int), k ≤ l.length ∧ i = .int .i64 k ∧ wr.ownsRow (w.heap.size + 1) 3 1 u q.length (ints q) ∧ q.length ≤ k ∧ Hid (dropped l = q ++ dropFrom (l.drop k) k) ∧ Bw w wr ∧ Hid (wr.heap[w.heap.size]? = some (.cells #[.slice ao l.length c, v1, v2, .bool hi] 52 (0, 0)))) (fun _ i _ => l.length - (intOf i).toNat)
  case atStart => exact ⟨0, [], Nat.zero_le _, rfl, by simpa [ints] using World.ownsRow_made (w.alloc _) #[] 0 (by simp) (by simp) rfl, Nat.le_refl _, rfl, bw_trans (bw_alloc _ _) (bw_alloc _ _), blk_bw (bw_alloc _ _) (heap_alloc_new w _)⟩
  case round =>
    obtain ⟨k, q, hk, rfl, hown, hq, hx, hbw, hbox⟩ := hrel
    by_cases hlt : k < l.length
    · obtain ⟨x, b, off, hxk, hao, hbs, hcell⟩ := HR.out.get hbw hlt
      have HXK := Lib.hid hxk
      clear hxk
      subst hao
      have p0 := blk_cell hbox.out 0 rfl
      have hz := hbw.size
      have hbl : w.heap.size < wr.heap.size := blk_lt hbox.out
      have hstep : dropFrom (l.drop k) k = if x = -2 then (k : Int) :: dropFrom (l.drop (k + 1)) (k + 1) else dropFrom (l.drop (k + 1)) (k + 1) := by rw [drop_cons HXK.out]; rfl
      have HSTEP := Lib.hid hstep
      clear hstep
      by_cases he : x = -2
      · subst he
        have hq2 : ((-2 : Int) == -2) = true := by simp
        have hst2 : dropped l = (q ++ [(k : Int)]) ++ dropFrom (l.drop (k + 1)) (k + 1) := by rw [hx.out, HSTEP.out]; simp
        have HST2 := Lib.hid hst2
        clear hst2
        go_wp2_with (at_builtin; refine wpList_append_own _ rfl _ _ 50 rfl (w.heap.size + 1) 3 i0 (.int .i64 0) 1 8 Try.underlying50 hi0 hz0 hz1 hz2 rfl (by decide) _ _ _ rfl (hown.alloc _) ⟨wr.heap.size, 0, none⟩ 1 1 [.int .i64 k] rfl rfl (cell_one_new _ _ _) (oneI _) (by unfold maxLen; omega) (by omega) (by simp; omega) ?_; intro v' w1 hown' hgrow _)
        have hb1 : Bw w w1 := Below.grown (Below.alloc hbw hz _) hgrow (by simp; omega) (fun g hg => by have := own_cap0 hown g hg; omega)
        have hbox1 : Hid (w1.heap[w.heap.size]? = some (.cells #[.slice (some ⟨b, off, none⟩) l.length c, v1, v2, .bool hi] 52 (0, 0))) := by
          show _ = _
          rw [hgrow.block w.heap.size (by simp; omega) (fun e => by have := own_cap0 hown w.heap.size e.symm; omega)]
          exact blk_bw (bw_alloc _ _) hbox.out
        have hown2 : w1.ownsRow (w.heap.size + 1) 3 1 v' (q ++ [(k : Int)]).length (ints (q ++ [(k : Int)])) := by simpa [ints] using hown'
        clear hown' hgrow hown hbox p0 hcell
        go_wp2
        go_roundw
        case rel => exact ⟨k + 1, q ++ [(k : Int)], by omega, by go_num, hown2, by simp; omega, HST2.out, hb1, hbox1⟩
        case measure => simp [intOf]; omega
      · have hq2 : (x == -2) = false := by simp [he]
        have hst2 : dropped l = q ++ dropFrom (l.drop (k + 1)) (k + 1) := by rw [hx.out, HSTEP.out, if_neg he]
        have HST2 := Lib.hid hst2
        have HE := Lib.hid he
        clear hst2 he
        go_wp2
        go_roundw
        case rel => exact ⟨k + 1, q, by omega, by go_num, hown, by omega, HST2.out, hbw, hbox⟩
        case measure => simp [intOf]; omega
    · have hfin : dropped l = q := by rw [hx.out, drop_end hlt]; simp [dropFrom]
      have HFIN := Lib.hid hfin
      clear hfin
      have p0 := blk_cell hbox.out 0 rfl
      obtain ⟨ao', c', hu⟩ := own_form hown
      subst hu
      go_wp2
      go_ret
      exact ⟨ao', c', by rw [HFIN.out]; rfl, by rw [HFIN.out]; exact Go.Joins.ownsRow_le hown (by omega), hbw⟩
end Go.Proofs.Ytbgfclcnddgboaa
