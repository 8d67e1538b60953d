/-
  The walks of LeaveTask.
-/
import Derived.Test.YtfjcpnkiddpdcaaRaise
import Derived.Deep.RegionLaw
import Derived.StillTailTactics
namespace Go.Proofs.Ytfjcpnkiddpdcaa
open Go.RowKit

def leaveT (l : List Tk) (a : Int) : List Tk × Bool := if placedB l a = true then (l.eraseIdx a.toNat, true) else ([], false)
theorem leaveT_no {l : List Tk} {a : Int} (h : placedB l a = false) : leaveT l a = ([], false) := by rw [leaveT, h]; rfl
theorem leaveT_yes {l : List Tk} {n : Nat} (h : placedB l n = true) : leaveT l n = (l.eraseIdx n, true) := by rw [leaveT, h]; rfl
theorem leaveT_len (l : List Tk) (a : Int) : (leaveT l a).1.length ≤ 5 := by
  unfold leaveT
  split
  · rename_i h
    simp only [placedB, Bool.and_eq_true] at h
    exact Nat.le_trans (List.length_eraseIdx_le ..) (setOk_len h.1)
  · simp

theorem step_append_own {P : Program} {ops : Array Oper} {o : Oper} {a : Act} {w : World} {K : Act → World → Prop} {Q : Exit → Act → World → Prop} {E : Prop} (hgd : o.guard = none) (s x : Operand) (t : TypeId)
    (ho : o.op = .call { callee := .builtin .append, args := #[s, x], argTypes := #[t, t] })
    (base : Nat) (e : TypeId) (i : TypeInfo) (z : Value) (size bytes : Nat) (ht : P.underlying t = some (.slice e)) (hi : P.info? e = some i) (hz : i.zero = some z)
    (hsize : i.size = size) (hby : i.bytes = bytes) (hzs : z.cells.size = size) (hsz : 0 < size)
    (v : Value) (n : Nat) (xs : List Value) (hs : a.eval s = v) (hown : w.ownsRow base e size v n xs)
    (ad : Addr) (m c : Nat) (news : List Value) (hx : a.eval x = .slice (some ad) m c) (hl : news.length = m * size) (hnews : ∀ j u, news[j]? = some u → w.cell? (ad.add j) = some u) (h1 : ∀ u ∈ news, u.oneCell' = true)
    (h63 : n + m ≤ maxLen) (hbytes : (n + m) * bytes ≤ 140737488355328) (hbase : base ≤ w.heap.size)
    (h : ∀ v' w', w'.ownsRow base e size v' (n + m) (xs ++ news) → w.grownBy w' v.ownBlock → (v' = .slice none 0 0 ↔ v = .slice none 0 0 ∧ m = 0) → K (a.put o.dst v') w') :
    if Region.wanted o (yielded ops a.tmps) = true then Oper.wp P o a w K Q else E := by
  have hw : Region.wanted o (yielded ops a.tmps) = true := by simp [Region.wanted, hgd]
  rw [if_pos hw]
  exact wp_append_own w s x t ho base e i z size bytes ht hi hz hsize hby hzs hsz v n xs hs hown ad m c news hx hl hnews h1 h63 hbytes hbase h

theorem rt_drop {w : World} {b off : Nat} {js : List Tk} (h : RT w (some ⟨b, off, none⟩) js) (k : Nat) : RT w (some ⟨b, off + k * 5, none⟩) (js.drop k) := fun i t ht => by
  rw [List.getElem?_drop] at ht
  obtain ⟨b', off', e, hb, h0, h1, h2, h3, h4⟩ := h _ t ht
  simp at e; obtain ⟨rfl, rfl⟩ := e
  have e : off + k * 5 + i * 5 = off + (k + i) * 5 := by omega
  refine ⟨b, off + k * 5, rfl, hb, ?_, ?_, ?_, ?_, ?_⟩ <;> rw [e]
  · exact h0
  · exact h1
  · exact h2
  · exact h3
  · exact h4
theorem rt_take {w : World} {ao : Option Addr} {js : List Tk} (h : RT w ao js) (k : Nat) : RT w ao (js.take k) := fun i t ht => by
  rw [List.getElem?_take] at ht
  split at ht
  · exact h i t ht
  · cases ht
theorem rt_from {w : World} {b off d : Nat} {js : List Tk} (h : RT w (some ⟨b, off, none⟩) js) (k : Nat) (hd : js.length ≤ d) :
    ∃ A : Addr, (if d = k then some (⟨b, off, none⟩ : Addr) else some ⟨b, off + k * 5, none⟩) = some A ∧ ∀ w', Bw w w' → ∀ j u, (tks (js.drop k))[j]? = some u → w'.cell? (A.add j) = some u := by
  by_cases hdk : d = k
  · refine ⟨⟨b, off, none⟩, by rw [if_pos hdk], fun w' hb j u hu => ?_⟩
    rw [List.drop_eq_nil_of_le (by omega)] at hu; simp [tks] at hu
  · exact ⟨⟨b, off + k * 5, none⟩, by rw [if_neg hdk], fun w' hb => rt_cells (rt_drop h k) hb⟩

set_option maxRecDepth 100000 in
set_option maxHeartbeats 3200000 in
theorem Without_spec (b off c : Nat) (w : World) (l : List Tk) (n : Nat) (hl : l.length ≤ 1048576) (hn : n < l.length) (hc : l.length ≤ c) (hr : RT w (some ⟨b, off, none⟩) l) :
    Calls Try.prog 63 #[.slice (some ⟨b, off, none⟩) l.length c, .int .i64 n] w (Ret w 73 5 (tks (l.eraseIdx n)) (l.eraseIdx n).length) := by
  obtain ⟨i0, hi0, hz0, hz1, hz2⟩ := info_parts infoTask
  obtain ⟨A, hA, hnews⟩ := rt_from hr (n + 1) hc
  have hown0 := World.ownsRow_made (base := w.heap.size) (e := 73) (size := 5) w.drew #[] 0 (Nat.le_refl _) (by simp) rfl
  have hnc : n ≤ c := by omega
  have hn1 : n + 1 ≤ l.length := by omega
  have hn1i : (n : Int) + 1 ≤ (l.length : Int) := by omega
  have hw := IntWalk.i64_in ((n : Int) + 1) (by omega)
  have hw2 : (0 : Int) ≤ (n : Int) + 1 := by omega
  have hw3 : ((n : Int) + 1).toNat = n + 1 := by omega
  have HR := Lib.hid hr
  have HNEWS := Lib.hid hnews
  have HOWN0 := Lib.hid hown0
  clear hr hnews hown0
  go_enter Try.func63, Try.ntmps63
  go_wp2_with fail
  go_region_law (first
    | (refine step_append_own rfl _ _ 46 rfl w.heap.size 73 i0 zTask 5 40 Try.underlying46 hi0 hz0 hz1 hz2 rfl (by decide) _ _ _ rfl HOWN0.out ⟨b, off, none⟩ n c (tks (l.take n)) rfl (by rw [tks_length, List.length_take, Nat.min_eq_left (by omega)]) (rt_cells (rt_take HR.out n) (bw_trans (bw_drew _) (bw_alloc _ _))) (oneTs _) (by unfold maxLen; omega) (by omega) (by simp) ?_
       intro v1 w2 hown1 hgrow1 _
       have HW2 := Lib.hid (show Bw w w2 from Below.grown (Below.alloc (bw_drew w) (Nat.le_refl _) _) hgrow1 (by simp) (fun g hg => by have := own_cap0 HOWN0.out g hg; omega))
       have hz2' := HW2.out.size)
    | (refine step_append_own rfl _ _ 46 rfl w.heap.size 73 i0 zTask 5 40 Try.underlying46 hi0 hz0 hz1 hz2 rfl (by decide) _ _ _ rfl hown1 A (l.length - (n + 1)) (c - (n + 1)) (tks (l.drop (n + 1))) rfl (by rw [tks_length, List.length_drop]) (HNEWS.out _ HW2.out) (oneTs _) (by unfold maxLen; omega) (by omega) hz2' ?_
       intro v2 w3 hown2 hgrow2 _
       obtain ⟨ao2, c2, hu⟩ := own_form hown2
       subst hu))
  have HW3 : Bw w w3 := Below.grown HW2.out hgrow2 hz2' (fun g hg => by have := own_cap0 hown1 g hg; omega)
  have he : l.eraseIdx n = l.take n ++ l.drop (n + 1) := List.eraseIdx_eq_take_drop_succ ..
  have hlen : (l.eraseIdx n).length = 0 + n + (l.length - (n + 1)) := by rw [List.length_eraseIdx_of_lt hn]; omega
  have hown3 : w3.ownsRow w.heap.size 73 5 (.slice ao2 (l.eraseIdx n).length c2) (l.eraseIdx n).length (tks (l.eraseIdx n)) := by
    rw [hlen, he, tks_append]; simpa using hown2
  have hlen2 : (l.eraseIdx n).length = n + (l.length - (n + 1)) := by omega
  rw [← hlen2]
  clear hown2 hgrow2 hown1 hgrow1 hA
  have HE := Lib.hid he
  have HLEN := Lib.hid hlen
  have HLEN2 := Lib.hid hlen2
  clear he hlen hlen2
  go_wp2
  go_ret
  exact ⟨ao2, c2, rfl, hown3, HW3⟩

set_option maxRecDepth 100000 in
set_option maxHeartbeats 3200000 in
theorem LeaveTask_spec (ao : Option Addr) (c : Nat) (w : World) (l : List Tk) (a : Int) (hl : l.length ≤ 1048576) (hc : l.length ≤ c) (hr : RT w ao l) :
    Calls Try.prog 36 #[.slice ao l.length c, .int .i64 a] w (RetP w 73 5 (tks (leaveT l a).1) (leaveT l a).1.length (leaveT l a).2) := by
  have HR := Lib.hid hr
  clear hr
  go_enter Try.func36, Try.ntmps36
  go_wp2_with fail
  refine (spec.l3At_any _ _ _ l a hl HR.out).mono ?_
  obtain ⟨q, HQ⟩ : ∃ q, Hid (placedB l a = q) := ⟨_, rfl⟩
  rw [HQ.out]
  rintro e w1 ⟨rfl, hb1⟩
  cases q with
  | false =>
    have hf := leaveT_no HQ.out
    have hz := hb1.size
    have HF := Lib.hid hf
    clear hf
    go_wp2
    go_ret2
    exact ⟨some ⟨w1.heap.size, 0, none⟩, 0, by rw [HF.out]; rfl, by rw [HF.out]; simpa [tks] using World.ownsRow_made (base := w.heap.size) (e := 73) (size := 5) w1 #[] 0 hz (by simp) rfl, bw_trans hb1 (bw_alloc _ _)⟩
  | true =>
    have hp := HQ.out
    simp only [placedB, Bool.and_eq_true, decide_eq_true_eq] at hp
    obtain ⟨_, ha0, ha1⟩ := hp
    obtain ⟨n, rfl⟩ : ∃ n : Nat, a = n := ⟨a.toNat, by omega⟩
    have hn : n < l.length := by omega
    obtain ⟨t, b, off, _, hao, _⟩ := HR.out.get (Bw.refl _) hn
    subst hao
    have hf := leaveT_yes HQ.out
    have HF := Lib.hid hf
    clear hf
    go_wp2_with fail
    refine (Without_spec b off c _ l n hl hn hc (HR.out.bw hb1)).mono ?_
    rintro e w2 ⟨a2, c2, rfl, hown, hb2⟩
    have hz := hb1.size
    go_wp2
    go_ret2
    exact ⟨a2, c2, by rw [HF.out]; rfl, by rw [HF.out]; exact Go.Joins.ownsRow_le hown hz, bw_trans hb1 hb2⟩

theorem own_capT {w : World} {base E size n : Nat} {ao : Option Addr} {c : Nat} {xs : List Value} (h : w.ownsRow base E size (.slice ao n c) n xs) : n ≤ c := by
  rcases h.2 with ⟨e, h0⟩ | ⟨g, cap, cur, e, _, _, h, _⟩
  · simp at e; omega
  · simp at e; omega
theorem cells_own {w : World} {base g c : Nat} {l : List Tk} (h : w.ownsRow base 73 5 (.slice (some ⟨g, 0, none⟩) l.length c) l.length (tks l)) : RT w (some ⟨g, 0, none⟩) l := (Own.ofRow h).rt
theorem own_part {w : World} {base E g n c m : Nat} {xs : List Value} (h : w.ownsRow base E 5 (.slice (some ⟨g, 0, none⟩) n c) n xs) (hm : m ≤ n) : w.ownsRow base E 5 (.slice (some ⟨g, 0, none⟩) m c) m (xs.take (m * 5)) := by
  obtain ⟨h1, h⟩ := h
  rcases h with ⟨e, _⟩ | ⟨g', cap, cur, e, hg, hh, a1, a2, a3, a4⟩
  · simp at e
  · simp at e; obtain ⟨rfl, rfl⟩ := e
    refine ⟨by rw [List.length_take, h1]; omega, .inr ⟨g, c, cur, rfl, hg, hh, by omega, a2, a3, ?_⟩⟩
    rw [← a4, List.take_take, Nat.min_eq_left (by omega)]
theorem tks_take (l : List Tk) (n : Nat) : (tks l).take (n * 5) = tks (l.take n) := by
  induction l generalizing n with
  | nil => simp [tks]
  | cons t l ih =>
    cases n with
    | zero => simp [tks]
    | succ n =>
      have := ih n
      simp only [tks, List.flatMap_cons, List.take_succ_cons] at this ⊢
      rw [List.take_append, List.take_of_length_le (by simp [tkCells]; omega), ← this]
      congr 2
      simp [tkCells]; omega

/-- clear of one task's cells. -/
theorem clear_one (w : World) (b o c : Nat) (hc : ∀ j, j < 5 → (w.cell? ⟨b, o + j, none⟩).isSome = true) (hf : ∀ j, j < 5 → w.frozen? ⟨b, o + j, none⟩ = false) (ty : TypeId) :
    (Builtin.clear_ #[46] ty #[.slice (some ⟨b, o, none⟩) 1 c]).run Try.prog w = .ok (.tuple #[]) (w.setCells b o [vi 0, vi 0, vi 0, vi 0, .bool false]) := by
  have hst := run_storeCells_cells (P := Try.prog) b o [vi 0, vi 0, vi 0, vi 0, .bool false] 0 w (by simpa using hc) (by simpa using hf) (by intro v hv; simp at hv; rcases hv with rfl | rfl <;> rfl)
  simp only [Nat.add_zero] at hst
  have hv : ∀ w, (zeroValue 73).run Try.prog w = .ok zTask w := fun w => by
    obtain ⟨i, hi, hz, _, _⟩ := info_parts infoTask
    simp [zeroValue, typeInfo, hi, hz]
  have hzc : (Builtin.zeroCells zTask.cells 1).toList = [vi 0, vi 0, vi 0, vi 0, .bool false] := by kernel_rfl
  simp [Builtin.clear_, run_underlying Try.underlying46, hv, hzc, hst]

theorem take_keep {cur : Array Value} {n j : Nat} (v : Value) (h : n ≤ j) : (cur.setIfInBounds j v).toList.take n = cur.toList.take n := by
  rw [Array.toList_setIfInBounds, List.take_set, List.set_eq_of_length_le (by rw [List.length_take]; omega)]
/-- clear behind the row's M tasks: the row stays. -/
theorem clear_own (w : World) (base g c M : Nat) (xs : List Value) (d : Nat) (h : w.ownsRow base 73 5 (.slice (some ⟨g, 0, none⟩) M c) M xs) (hM : M < c) :
    ∃ w', (∀ ty, (Builtin.clear_ #[46] ty #[.slice (some ⟨g, M * 5, none⟩) 1 d]).run Try.prog w = .ok (.tuple #[]) w') ∧ w'.ownsRow base 73 5 (.slice (some ⟨g, 0, none⟩) M c) M xs ∧ Below base w w' := by
  obtain ⟨h1, h⟩ := h
  rcases h with ⟨e, _⟩ | ⟨g', cap, cur, e, hg, hh, a1, a2, a3, a4⟩
  · simp at e
  · simp at e; obtain ⟨rfl, rfl⟩ := e
    have hcell : ∀ j, j < 5 → (w.cell? ⟨g, M * 5 + j, none⟩).isSome = true := fun j hj => by
      have hlt : M * 5 + j < cur.size := by omega
      rw [blk_cell hh (M * 5 + j) (v := cur[M * 5 + j]) (by simp [hlt])]; rfl
    refine ⟨_, fun ty => clear_one w g (M * 5) d hcell (fun j _ => blk_free hh _) ty, ⟨h1, .inr ⟨g, c, _, rfl, hg, blk_set (blk_set (blk_set (blk_set (blk_set hh (M * 5) (vi 0)) (M * 5 + 1) (vi 0)) (M * 5 + 1 + 1) (vi 0)) (M * 5 + 1 + 1 + 1) (vi 0)) (M * 5 + 1 + 1 + 1 + 1) (.bool false), a1, a2, by simpa using a3, ?_⟩⟩, ?_⟩
    · rw [take_keep _ (by omega), take_keep _ (by omega), take_keep _ (by omega), take_keep _ (by omega), take_keep _ (by omega)]; exact a4
    · exact Below.setCell (Below.setCell (Below.setCell (Below.setCell (Below.setCell (Below.refl _ _) hg _) hg _) hg _) hg _) hg _

set_option maxRecDepth 100000 in
set_option maxHeartbeats 3200000 in
theorem DeleteT (base g c : Nat) (w : World) (l : List Tk) (n : Nat) (hl : l.length ≤ 1048576) (hn : n < l.length) (hown : w.ownsRow base 73 5 (.slice (some ⟨g, 0, none⟩) l.length c) l.length (tks l)) (hB : base ≤ w.heap.size) :
    Calls Try.prog 66 #[.slice (some ⟨g, 0, none⟩) l.length c, .int .i64 n, .int .i64 ((n : Int) + 1)] w fun e w' => e = .returned (.slice (some ⟨g, 0, none⟩) (l.eraseIdx n).length c) ∧ w'.ownsRow base 73 5 (.slice (some ⟨g, 0, none⟩) (l.eraseIdx n).length c) (l.eraseIdx n).length (tks (l.eraseIdx n)) ∧ Below base w w' := by
  obtain ⟨i0, hi0, hz0, hz1, hz2⟩ := info_parts infoTask
  have hcap := own_capT hown
  have hgb : base ≤ g := own_cap0 hown g rfl
  have hR := cells_own hown
  obtain ⟨A, hA, hnews⟩ := rt_from hR (n + 1) hcap
  have hp := own_part (m := n) hown (by omega)
  rw [tks_take] at hp
  have hnc : n ≤ c := by omega
  have hn1 : n + 1 ≤ l.length := by omega
  have hn1i : (n : Int) + 1 ≤ (l.length : Int) := by omega
  have hw2 : (0 : Int) ≤ (n : Int) + 1 := by omega
  have hw3 : ((n : Int) + 1).toNat = n + 1 := by omega
  have hne : ((n : Int) == (n : Int) + 1) = false := by simp; omega
  simp only [Nat.zero_add] at hA
  obtain ⟨M, hM⟩ : ∃ M, n + (l.length - (n + 1)) = M := ⟨_, rfl⟩
  have hM1 : M < l.length := by omega
  have hM2 : M ≤ l.length := by omega
  have hM3 : (M : Int) ≤ (l.length : Int) := by omega
  have hM4 : l.length - M = 1 := by omega
  have hM5 : M < c := by omega
  have hM6 : (c = M) = False := by simp; omega
  have hM7 : l.length ≤ M + 1 := by omega
  have he : l.eraseIdx n = l.take n ++ l.drop (n + 1) := List.eraseIdx_eq_take_drop_succ ..
  have hlen : (l.eraseIdx n).length = M := by rw [List.length_eraseIdx_of_lt hn]; omega
  have HR := Lib.hid hR
  have HNEWS := Lib.hid hnews
  have HP := Lib.hid hp
  have HOWN := Lib.hid hown
  have HM := Lib.hid hM
  have HM4 := Lib.hid hM4
  have HM6 := Lib.hid hM6
  have HE := Lib.hid he
  have HLEN := Lib.hid hlen
  clear hR hnews hp hown hM hM4 hM6 he hlen
  go_enter Try.func66, Try.ntmps66
  go_wp2_with fail
  go_still_tail 6, (by kernel_rfl)
  change wpList _ _ _ _ _ w.drew
  go_wp2_with (at_builtin; refine wpList_append_fits _ rfl _ _ 46 rfl base 73 i0 5 Try.underlying46 hi0 hz1 g n c (tks (l.take n)) rfl HP.out A (l.length - (n + 1)) (c - (n + 1)) (tks (l.drop (n + 1))) rfl (by rw [tks_length, List.length_drop]) (HNEWS.out _ (bw_drew _)) (oneTs _) (by omega) ?_; intro w3 hown3 hgrow3; rw [HM.out] at hown3 ⊢; have hl1 := HM4.out; have hcM := HM6.out; obtain ⟨w4, hclr, hown4, hb4⟩ := clear_own w3 base g c M (tks (l.take n) ++ tks (l.drop (n + 1))) (c - M) hown3 hM5)
  have hown5 : w4.ownsRow base 73 5 (.slice (some ⟨g, 0, none⟩) (l.eraseIdx n).length c) (l.eraseIdx n).length (tks (l.eraseIdx n)) := by
    rw [HLEN.out, HE.out, tks_append]; exact hown4
  go_ret
  exact ⟨by rw [HLEN.out]; rfl, hown5, Below.trans (Below.grown (show Below base w w.drew from ⟨rfl, rfl, rfl, Nat.le_refl _, fun _ _ => rfl⟩) hgrow3 hB (fun k hk => by simp at hk; omega)) hb4⟩

set_option maxRecDepth 100000 in
set_option maxHeartbeats 3200000 in
theorem LeaveTask_impl (ao : Option Addr) (c : Nat) (w : World) (l : List Tk) (a : Int) (hl : l.length ≤ 1048576) (hf : Fit ao c) (hr : RT w ao l) :
    Calls Try.prog 38 #[.slice ao l.length c, .int .i64 a] w (RetP w 73 5 (tks (leaveT l a).1) (leaveT l a).1.length (leaveT l a).2) := by
  have HR := Lib.hid hr
  have HF := Lib.hid hf
  clear hr hf
  go_enter Try.func38, Try.ntmps38
  go_wp2_with fail
  refine (impl.placed_any _ _ _ l a hl HR.out).mono ?_
  obtain ⟨q, HQ⟩ : ∃ q, Hid (placedB l a = q) := ⟨_, rfl⟩
  rw [HQ.out]
  rintro e w1 ⟨rfl, hb1⟩
  cases q with
  | false =>
    have hf := leaveT_no HQ.out
    have HF := Lib.hid hf
    clear hf
    go_wp2
    go_ret2
    exact ⟨none, 0, by rw [HF.out]; rfl, by rw [HF.out]; exact World.ownsRow_nil _ _ _ _, hb1⟩
  | true =>
    have hp := HQ.out
    simp only [placedB, Bool.and_eq_true, decide_eq_true_eq] at hp
    obtain ⟨_, ha0, ha1⟩ := hp
    obtain ⟨n, rfl⟩ : ∃ n : Nat, a = n := ⟨a.toNat, by omega⟩
    have hn : n < l.length := by omega
    have hf := leaveT_yes HQ.out
    go_wp2_with fail
    refine (CloneT _ _ _ l hl HF.out (HR.out.bw hb1)).mono ?_
    have HF := Lib.hid hf
    clear hf
    rintro e w2 ⟨a2, c2, rfl, hown, hb2⟩
    have hz := hb1.size
    have hz2 := hb2.size
    obtain ⟨g, rfl⟩ : ∃ g, a2 = some ⟨g, 0, none⟩ := by
      rcases hown.2 with ⟨e0, h0⟩ | ⟨g, cap, cur0, e0, _⟩
      · omega
      · simp only [Value.slice.injEq] at e0; exact ⟨g, e0.1⟩
    go_wp2_with fail
    refine (DeleteT w1.heap.size g c2 _ l n hl hn hown hz2).mono ?_
    rintro e w3 ⟨rfl, hown3, hb3⟩
    go_wp2
    go_ret2
    exact ⟨_, _, by rw [HF.out]; rfl, by rw [HF.out]; exact Go.Joins.ownsRow_le hown3 hz, Below.trans (bw_trans hb1 hb2) (Below.mono hb3 hz)⟩

theorem leave_impl {w : World} {v : Value} {l : List Tk} (hl : ST w v l) (d : Int) : Calls Try.prog 38 #[v, .int .i64 d] w (RP w 73 (tks (leaveT l d).1) (leaveT l d).1.length (leaveT l d).2) := by
  obtain ⟨⟨ao, c, rfl, hr, hc, hf⟩, hn⟩ := hl
  exact (LeaveTask_impl ao c w l d hn hf hr).mono fun _ _ h => h.rp2
theorem leave_spec {w : World} {v : Value} {l : List Tk} (hl : ST w v l) (d : Int) : Calls Try.prog 36 #[v, .int .i64 d] w (RP w 73 (tks (leaveT l d).1) (leaveT l d).1.length (leaveT l d).2) := by
  obtain ⟨⟨ao, c, rfl, hr, hc, hf⟩, hn⟩ := hl
  exact (LeaveTask_spec ao c w l d hn hc hr).mono fun _ _ h => h.rp2
end Go.Proofs.Ytfjcpnkiddpdcaa
