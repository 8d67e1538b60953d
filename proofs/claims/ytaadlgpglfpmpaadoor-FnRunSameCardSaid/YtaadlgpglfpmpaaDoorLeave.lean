/-
  The walks of LeaveTask.
-/
import Derived.Test.YtaadlgpglfpmpaaDoorRaise
import Derived.Deep.RegionLaw
import Derived.StillTailTactics


namespace Go.Proofs.YtaadlgpglfpmpaaDoor
open Go.RowKit

def leaveT (l : List Tk) (a : Int) : List Tk × Bool := if placedB l a = true then (l.eraseIdx a.toNat, true) else ([], false)
theorem leaveT_no {l : List Tk} {a : Int} (h : placedB l a = false) : leaveT l a = ([], false) := by rw [leaveT, h]; rfl
theorem leaveT_yes {l : List Tk} {n : Nat} (h : placedB l n = true) : leaveT l n = (l.eraseIdx n, true) := by rw [leaveT, h]; rfl
theorem leaveT_len (l : List Tk) (a : Int) : (leaveT l a).1.length ≤ 5 := by
  unfold leaveT
  split
  · rename_i h
    simp only [placedB, Bool.and_eq_true] at h
    exact Nat.le_trans (List.length_eraseIdx_le ..) (setOk_len h.1)
  · simp

theorem step_append_own {P : Program} {ops : Array Oper} {o : Oper} {a : Act} {w : World} {K : Act → World → Prop} {Q : Exit → Act → World → Prop} {E : Prop} (hgd : o.guard = none) (s x : Operand) (t : TypeId)
    (ho : o.op = .call { callee := .builtin .append, args := #[s, x], argTypes := #[t, t] })
    (base : Nat) (e : TypeId) (i : TypeInfo) (z : Value) (size bytes : Nat) (ht : P.underlying t = some (.slice e)) (hi : P.info? e = some i) (hz : i.zero = some z)
    (hsize : i.size = size) (hby : i.bytes = bytes) (hzs : z.cells.size = size) (hsz : 0 < size)
    (v : Value) (n : Nat) (xs : List Value) (hs : a.eval s = v) (hown : w.ownsRow base e size v n xs)
    (ad : Addr) (m c : Nat) (news : List Value) (hx : a.eval x = .slice (some ad) m c) (hl : news.length = m * size) (hnews : ∀ j u, news[j]? = some u → w.cell? (ad.add j) = some u) (h1 : ∀ u ∈ news, u.oneCell' = true)
    (h63 : n + m ≤ maxLen) (hbytes : (n + m) * bytes ≤ 140737488355328) (hbase : base ≤ w.heap.size)
    (h : ∀ v' w', w'.ownsRow base e size v' (n + m) (xs ++ news) → w.grownBy w' v.ownBlock → (v' = .slice none 0 0 ↔ v = .slice none 0 0 ∧ m = 0) → K (a.put o.dst v') w') :
    if Region.wanted o (yielded ops a.tmps) = true then Oper.wp P o a w K Q else E := by
  have hw : Region.wanted o (yielded ops a.tmps) = true := by simp [Region.wanted, hgd]
  rw [if_pos hw]
  exact wp_append_own w s x t ho base e i z size bytes ht hi hz hsize hby hzs hsz v n xs hs hown ad m c news hx hl hnews h1 h63 hbytes hbase h

theorem rt_drop {w : World} {b off : Nat} {js : List Tk} (h : RT w (some ⟨b, off, none⟩) js) (k : Nat) : RT w (some ⟨b, off + k * 5, none⟩) (js.drop k) := fun i t ht => by
  rw [List.getElem?_drop] at ht
  obtain ⟨b', off', e, hb, h0, h1, h2, h3, h4⟩ := h _ t ht
  simp at e; obtain ⟨rfl, rfl⟩ := e
  have e : off + k * 5 + i * 5 = off + (k + i) * 5 := by omega
  refine ⟨b, off + k * 5, rfl, hb, ?_, ?_, ?_, ?_, ?_⟩ <;> rw [e]
  · exact h0
  · exact h1
  · exact h2
  · exact h3
  · exact h4
theorem rt_take {w : World} {ao : Option Addr} {js : List Tk} (h : RT w ao js) (k : Nat) : RT w ao (js.take k) := fun i t ht => by
  rw [List.getElem?_take] at ht
  split at ht
  · exact h i t ht
  · cases ht
theorem rt_from {w : World} {b off d : Nat} {js : List Tk} (h : RT w (some ⟨b, off, none⟩) js) (k : Nat) (hd : js.length ≤ d) :
    ∃ A : Addr, (if d = k then some (⟨b, off, none⟩ : Addr) else some ⟨b, off + k * 5, none⟩) = some A ∧ ∀ w', Bw w w' → ∀ j u, (tks (js.drop k))[j]? = some u → w'.cell? (A.add j) = some u := by
  by_cases hdk : d = k
  · refine ⟨⟨b, off, none⟩, by rw [if_pos hdk], fun w' hb j u hu => ?_⟩
    rw [List.drop_eq_nil_of_le (by omega)] at hu; simp [tks] at hu
  · exact ⟨⟨b, off + k * 5, none⟩, by rw [if_neg hdk], fun w' hb => rt_cells (rt_drop h k) hb⟩

theorem own_capT {w : World} {base E size n : Nat} {ao : Option Addr} {c : Nat} {xs : List Value} (h : w.ownsRow base E size (.slice ao n c) n xs) : n ≤ c := by
  rcases h.2 with ⟨e, h0⟩ | ⟨g, cap, cur, e, _, _, h, _⟩
  · simp at e; omega
  · simp at e; omega
theorem cells_own {w : World} {base g c : Nat} {l : List Tk} (h : w.ownsRow base 76 5 (.slice (some ⟨g, 0, none⟩) l.length c) l.length (tks l)) : RT w (some ⟨g, 0, none⟩) l := (Own.ofRow h).rt
theorem own_part {w : World} {base E g n c m : Nat} {xs : List Value} (h : w.ownsRow base E 5 (.slice (some ⟨g, 0, none⟩) n c) n xs) (hm : m ≤ n) : w.ownsRow base E 5 (.slice (some ⟨g, 0, none⟩) m c) m (xs.take (m * 5)) := by
  obtain ⟨h1, h⟩ := h
  rcases h with ⟨e, _⟩ | ⟨g', cap, cur, e, hg, hh, a1, a2, a3, a4⟩
  · simp at e
  · simp at e; obtain ⟨rfl, rfl⟩ := e
    refine ⟨by rw [List.length_take, h1]; omega, .inr ⟨g, c, cur, rfl, hg, hh, by omega, a2, a3, ?_⟩⟩
    rw [← a4, List.take_take, Nat.min_eq_left (by omega)]
theorem tks_take (l : List Tk) (n : Nat) : (tks l).take (n * 5) = tks (l.take n) := by
  induction l generalizing n with
  | nil => simp [tks]
  | cons t l ih =>
    cases n with
    | zero => simp [tks]
    | succ n =>
      have := ih n
      simp only [tks, List.flatMap_cons, List.take_succ_cons] at this ⊢
      rw [List.take_append, List.take_of_length_le (by simp [tkCells]; omega), ← this]
      congr 2
      simp [tkCells]; omega

/-- clear of one task's cells. -/
theorem clear_one (w : World) (b o c : Nat) (hc : ∀ j, j < 5 → (w.cell? ⟨b, o + j, none⟩).isSome = true) (hf : ∀ j, j < 5 → w.frozen? ⟨b, o + j, none⟩ = false) (ty : TypeId) :
    (Builtin.clear_ #[36] ty #[.slice (some ⟨b, o, none⟩) 1 c]).run Tryd.prog w = .ok (.tuple #[]) (w.setCells b o [vi 0, vi 0, vi 0, vi 0, .bool false]) := by
  have hst := run_storeCells_cells (P := Tryd.prog) b o [vi 0, vi 0, vi 0, vi 0, .bool false] 0 w (by simpa using hc) (by simpa using hf) (by intro v hv; simp at hv; rcases hv with rfl | rfl <;> rfl)
  simp only [Nat.add_zero] at hst
  have hv : ∀ w, (zeroValue 76).run Tryd.prog w = .ok zTask w := fun w => by
    obtain ⟨i, hi, hz, _, _⟩ := info_parts infoTask
    simp [zeroValue, typeInfo, hi, hz]
  have hzc : (Builtin.zeroCells zTask.cells 1).toList = [vi 0, vi 0, vi 0, vi 0, .bool false] := by kernel_rfl
  simp [Builtin.clear_, run_underlying Tryd.underlying36, hv, hzc, hst]

theorem take_keep {cur : Array Value} {n j : Nat} (v : Value) (h : n ≤ j) : (cur.setIfInBounds j v).toList.take n = cur.toList.take n := by
  rw [Array.toList_setIfInBounds, List.take_set, List.set_eq_of_length_le (by rw [List.length_take]; omega)]
/-- clear behind the row's M tasks: the row stays. -/
theorem clear_own (w : World) (base g c M : Nat) (xs : List Value) (d : Nat) (h : w.ownsRow base 76 5 (.slice (some ⟨g, 0, none⟩) M c) M xs) (hM : M < c) :
    ∃ w', (∀ ty, (Builtin.clear_ #[36] ty #[.slice (some ⟨g, M * 5, none⟩) 1 d]).run Tryd.prog w = .ok (.tuple #[]) w') ∧ w'.ownsRow base 76 5 (.slice (some ⟨g, 0, none⟩) M c) M xs ∧ Below base w w' := by
  obtain ⟨h1, h⟩ := h
  rcases h with ⟨e, _⟩ | ⟨g', cap, cur, e, hg, hh, a1, a2, a3, a4⟩
  · simp at e
  · simp at e; obtain ⟨rfl, rfl⟩ := e
    have hcell : ∀ j, j < 5 → (w.cell? ⟨g, M * 5 + j, none⟩).isSome = true := fun j hj => by
      have hlt : M * 5 + j < cur.size := by omega
      rw [blk_cell hh (M * 5 + j) (v := cur[M * 5 + j]) (by simp [hlt])]; rfl
    refine ⟨_, fun ty => clear_one w g (M * 5) d hcell (fun j _ => blk_free hh _) ty, ⟨h1, .inr ⟨g, c, _, rfl, hg, blk_set (blk_set (blk_set (blk_set (blk_set hh (M * 5) (vi 0)) (M * 5 + 1) (vi 0)) (M * 5 + 1 + 1) (vi 0)) (M * 5 + 1 + 1 + 1) (vi 0)) (M * 5 + 1 + 1 + 1 + 1) (.bool false), a1, a2, by simpa using a3, ?_⟩⟩, ?_⟩
    · rw [take_keep _ (by omega), take_keep _ (by omega), take_keep _ (by omega), take_keep _ (by omega), take_keep _ (by omega)]; exact a4
    · exact Below.setCell (Below.setCell (Below.setCell (Below.setCell (Below.setCell (Below.refl _ _) hg _) hg _) hg _) hg _) hg _

end Go.Proofs.YtaadlgpglfpmpaaDoor
