/-
  The walks of RaiseAll.
-/
import Derived.Test.YtbgfclcnddgboaaGB
import Derived.Test.YtbgfclcnddgboaaWorst


namespace Go.Proofs.Ytbgfclcnddgboaa
open Go.RowKit

def upT (d : Int) (t : Tk) : Tk := ⟨t.low + d, t.high + d, t.due, t.every, t.crit⟩
def raiseT (l : List Tk) (d : Int) : List Tk × Bool := if -20 ≤ d ∧ d ≤ 20 ∧ setOk l = true ∧ setOk (l.map (upT d)) = true then (l.map (upT d), true) else ([], false)
theorem raiseT_len (l : List Tk) (d : Int) : (raiseT l d).1.length ≤ 5 := by
  unfold raiseT
  split
  · rename_i h; exact setOk_len h.2.2.2
  · simp
theorem raiseT_no {l : List Tk} {d : Int} (h : ¬ (-20 ≤ d ∧ d ≤ 20 ∧ setOk l = true ∧ setOk (l.map (upT d)) = true)) : raiseT l d = ([], false) := if_neg h
theorem raiseT_yes {l : List Tk} {d : Int} (h : -20 ≤ d ∧ d ≤ 20 ∧ setOk l = true ∧ setOk (l.map (upT d)) = true) : raiseT l d = (l.map (upT d), true) := if_pos h

theorem oneTs (l : List Tk) : ∀ u ∈ tks l, u.oneCell' = true := by
  intro u hu
  obtain ⟨j, _, h⟩ := List.mem_flatMap.1 hu
  exact oneT j u h
theorem rt_none {w : World} {l : List Tk} (h : RT w none l) : l = [] := by
  cases l with
  | nil => rfl
  | cons j l => obtain ⟨_, _, e, _⟩ := h 0 j rfl; cases e
theorem rt_cells {w w' : World} {b off : Nat} {l : List Tk} (h : RT w (some ⟨b, off, none⟩) l) (hb : Bw w w') : ∀ j u, (tks l)[j]? = some u → w'.cell? ((⟨b, off, none⟩ : Addr).add j) = some u := by
  intro j u hu
  have hj : j < (tks l).length := (List.getElem?_eq_some_iff.1 hu).1
  rw [tks_length] at hj
  obtain ⟨q, r, hr, rfl⟩ : ∃ q r, r < 5 ∧ j = q * 5 + r := ⟨j / 5, j % 5, by omega, by omega⟩
  obtain ⟨t, ht⟩ := getSome (l := l) (k := q) (by omega)
  rw [tks_get l q t ht r hr] at hu
  obtain ⟨b', off', e, _, h0, h1, h2, h3, h4⟩ := h.bw hb q t ht
  simp at e; obtain ⟨rfl, rfl⟩ := e
  rw [add_none, ← Nat.add_assoc]
  match r, hr, hu with
  | 0, _, hu => simp [tkCells] at hu; subst hu; exact h0
  | 1, _, hu => simp [tkCells] at hu; subst hu; exact h1
  | 2, _, hu => simp [tkCells] at hu; subst hu; exact h2
  | 3, _, hu => simp [tkCells] at hu; subst hu; exact h3
  | 4, _, hu => simp [tkCells] at hu; subst hu; exact h4
theorem cell_task_new (w : World) (j : Tk) (t : TypeId) : ∀ i u, (tkCells j)[i]? = some u → (w.alloc (.cells #[vi j.low, vi j.high, vi j.due, vi j.every, .bool j.crit] t)).cell? ((⟨w.heap.size, 0, none⟩ : Addr).add i) = some u := by
  intro i u h
  match i, h with
  | 0, h => simp [tkCells] at h; subst h; simp [Addr.add]
  | 1, h => simp [tkCells] at h; subst h; simp [Addr.add]
  | 2, h => simp [tkCells] at h; subst h; simp [Addr.add]
  | 3, h => simp [tkCells] at h; subst h; simp [Addr.add]
  | 4, h => simp [tkCells] at h; subst h; simp [Addr.add]

set_option maxHeartbeats 1600000 in
theorem CloneT (ao : Option Addr) (c : Nat) (w : World) (l : List Tk) (hl : l.length ≤ 1048576) (hf : Fit ao c) (hr : RT w ao l) :
    Calls Try.prog 55 #[.slice ao l.length c] w (Ret w 64 5 (tks l) l.length) := by
  obtain ⟨i0, hi0, hz0, hz1, hz2⟩ := info_parts infoTask
  have HR := Lib.hid hr
  clear hr
  rcases hf with ⟨rfl, rfl⟩ | ⟨b, off, rfl⟩
  · obtain rfl := rt_none HR.out
    have hnil : ∀ W, (binOp .eql 23 (.slice none 0 0) (.slice none 0 0)).run Try.prog W = .ok (.bool true) W := fun W => Lib.run_eql_slice_nil W _ _ _ _ _ _ _ Try.underlying23
    go_enter Try.func55, Try.ntmps55
    go_wp2
    go_ret
    exact ⟨none, 0, rfl, World.ownsRow_nil _ _ _ _, Bw.refl _⟩
  · have hown0 := World.ownsRow_made (base := w.heap.size) (e := 64) (size := 5) w #[] 0 (by omega) (by simp) rfl
    have hnil : ∀ W, (binOp .eql 23 (.slice (some ⟨b, off, none⟩) l.length c) (.slice none 0 0)).run Try.prog W = .ok (.bool false) W := fun W => Lib.run_eql_slice_nil W _ _ _ _ _ _ _ Try.underlying23
    go_enter Try.func55, Try.ntmps55
    go_wp2_with (at_builtin; refine wpList_append_own _ rfl _ _ 23 rfl w.heap.size 64 i0 zTask 5 40 Try.underlying23 hi0 hz0 hz1 hz2 rfl (by decide) _ _ _ rfl hown0 ⟨b, off, none⟩ l.length c (tks l) rfl (tks_length _) (rt_cells HR.out (bw_alloc _ _)) (oneTs _) (by unfold maxLen; omega) (by omega) (by simp only [World.size_alloc]; omega) ?_; intro v1 w2 hown1 hgrow1 _; obtain ⟨ao2, c2, hu⟩ := own_form hown1; subst hu)
    have HW2 : Bw w w2 := Below.grown (Below.alloc (Bw.refl _) (Nat.le_refl _) _) hgrow1 (by simp only [World.size_alloc]; omega) (fun g hg => by have := own_cap0 hown0 g hg; omega)
    have hown2 : w2.ownsRow w.heap.size 64 5 (.slice ao2 l.length c2) l.length (tks l) := by
      have := hown1; rw [Nat.zero_add, List.nil_append] at this; exact this
    clear hown1 hgrow1
    go_wp2
    go_ret
    exact ⟨ao2, c2, by simp, hown2, HW2⟩

theorem set_up {cur : Array Value} {A B : List Tk} {t : Tk} {n : Nat} (h : cur.toList.take n = tks (A ++ t :: B)) (d : Int) :
    ((cur.setIfInBounds (A.length * 5) (vi (t.low + d))).setIfInBounds (A.length * 5 + 1) (vi (t.high + d))).toList.take n = tks (A ++ [upT d t] ++ B) := by
  rw [Array.toList_setIfInBounds, Array.toList_setIfInBounds, List.take_set, List.take_set, h]
  have e : tks (A ++ t :: B) = tks A ++ ([vi t.low, vi t.high, vi t.due, vi t.every, .bool t.crit] ++ tks B) := by simp [tks, tkCells]
  have e2 : tks (A ++ [upT d t] ++ B) = tks A ++ ([vi (t.low + d), vi (t.high + d), vi t.due, vi t.every, .bool t.crit] ++ tks B) := by simp [tks, tkCells, upT]
  rw [e, e2, List.set_append_right _ _ (by rw [tks_length]; omega), List.set_append_right _ _ (by rw [tks_length]; omega), tks_length]
  rw [Nat.sub_self, show A.length * 5 + 1 - A.length * 5 = 1 by omega]
  rfl
theorem cur_at {cur : Array Value} {L : List Value} {n j : Nat} {v : Value} (h : cur.toList.take n = L) (hj : L[j]? = some v) : cur[j]? = some v := by
  rw [← h, List.getElem?_take] at hj
  split at hj
  · simpa using hj
  · cases hj
theorem up_next {l : List Tk} {k : Nat} {t : Tk} (d : Int) (h : l[k]? = some t) : (l.take (k + 1)).map (upT d) ++ l.drop (k + 1) = (l.take k).map (upT d) ++ [upT d t] ++ l.drop (k + 1) := by
  rw [take_snoc h]; simp
theorem up_here {l : List Tk} {k : Nat} {t : Tk} (d : Int) (h : l[k]? = some t) : (l.take k).map (upT d) ++ l.drop k = (l.take k).map (upT d) ++ t :: l.drop (k + 1) := by
  rw [drop_cons h]

set_option maxRecDepth 100000 in
set_option maxHeartbeats 3200000 in
theorem RaiseAll_impl (ao : Option Addr) (c : Nat) (w : World) (l : List Tk) (d : Int) (hl : l.length ≤ 1048576) (hf : Fit ao c) (hr : RT w ao l) :
    Calls Try.prog 22 #[.slice ao l.length c, .int .i64 d] w (RetP w 64 5 (tks (raiseT l d).1) (raiseT l d).1.length (raiseT l d).2) := by
  have no : ∀ W, Bw w W → ¬ (-20 ≤ d ∧ d ≤ 20 ∧ setOk l = true ∧ setOk (l.map (upT d)) = true) → RetP w 64 5 (tks (raiseT l d).1) (raiseT l d).1.length (raiseT l d).2 (.returned (.tuple #[.slice none 0 0, .bool false])) W := by
    intro W hW h
    rw [raiseT_no h]
    exact ⟨none, 0, rfl, World.ownsRow_nil _ _ _ _, hW⟩
  have HR := Lib.hid hr
  have NO := Lib.hid no
  have HF := Lib.hid hf
  clear hr no hf
  by_cases hd0 : d < -20
  · go_enter Try.func22, Try.ntmps22
    go_wp2
    go_ret2
    exact NO.out _ (Bw.refl _) (by omega)
  · have hdd0 : decide (d < -20) = false := by simp; omega
    by_cases hd1 : 20 < d
    · go_enter Try.func22, Try.ntmps22
      go_wp2
      go_ret2
      exact NO.out _ (Bw.refl _) (by omega)
    · have hdd1 : decide (20 < d) = false := by simp; omega
      go_enter Try.func22, Try.ntmps22
      go_wp2_with fail
      refine (impl.SetValid_walk _ _ _ l hl HR.out).mono ?_
      obtain ⟨q, HQ⟩ : ∃ q, Hid (setOk l = q) := ⟨_, rfl⟩
      rw [HQ.out]
      rintro e w1 ⟨rfl, hb1⟩
      cases q with
      | false =>
        go_wp2
        go_ret2
        exact NO.out _ hb1 (by rw [HQ.out]; simp)
      | true =>
        clear hdd0 hdd1
        go_wp2_with fail
        refine (CloneT _ _ _ l hl HF.out (HR.out.bw hb1)).mono ?_
        rintro e w2 ⟨a2, c2, rfl, hown, hb2⟩
        have hw2 := bw_trans hb1 hb2
        have h5 := setOk_len HQ.out
        rcases hown.2 with ⟨e0, h0⟩ | ⟨g, cap, cur0, e0, hg, hblk, hcap, hcm, hcs, htk⟩
        · simp only [Value.slice.injEq] at e0
          obtain ⟨rfl, _, rfl⟩ := e0
          obtain rfl := List.eq_nil_of_length_eq_zero h0
          have hs0 : raiseT [] d = ([], true) := by rw [raiseT_yes ⟨by omega, by omega, HQ.out, HQ.out⟩]; rfl
          have HS0 := Lib.hid hs0
          clear hs0
          go_wp2
          go_loopw [23] (fun u wr => u = .int .i64 0 ∧ Bw w2 wr) (fun _ _ => 0)
          case atStart => exact ⟨rfl, Bw.refl _⟩
          case round =>
            obtain ⟨rfl, hbw⟩ := hrel
            go_wp2_with fail
            refine (impl.SetValid_walk none 0 _ [] (by simp) (RT.nil _ _)).mono ?_
            rw [HQ.out]
            rintro e w3 ⟨rfl, hb3⟩
            go_wp2
            go_ret2
            exact ⟨none, 0, by rw [HS0.out]; rfl, by rw [HS0.out]; exact World.ownsRow_nil _ _ _ _, bw_trans (bw_trans hw2 hbw) hb3⟩
        · simp only [Value.slice.injEq] at e0
          obtain ⟨rfl, _, rfl⟩ := e0
          have hgz := blk_lt hblk
          have hg0 := Nat.le_trans hb1.size hg
          have HBLK := Lib.hid hblk
          have HTK := Lib.hid htk
          clear hblk htk
          go_wp2
          go_loopw [7, 23] (fun _ i wr => ∃ (k : Nat) (cur : Array Value), k ≤ l.length ∧ i = .int .i64 k ∧ Hid (wr.heap[g]? = some (.cells cur 64 (0, 0))) ∧ cur.size = c2 * 5 ∧ Hid (cur.toList.take (l.length * 5) = tks ((l.take k).map (upT d) ++ l.drop k)) ∧ Bw w wr) (fun _ i _ => l.length - (intOf i).toNat)
          case atStart => exact ⟨0, cur0, Nat.zero_le _, rfl, HBLK.out, hcs, by show _ = _; rw [HTK.out]; rfl, hw2⟩
          case round =>
            obtain ⟨k, cur, hk, rfl, hb, hcz, hx, hbw⟩ := hrel
            have hgr := blk_lt hb.out
            by_cases hlt : k < l.length
            · obtain ⟨t, ht⟩ := getSome hlt
              have hok := (Tk.ok_iff _).1 (setOk_at HQ.out ht)
              have hx2 := hx.out
              rw [up_here d ht] at hx2
              have hA : ((l.take k).map (upT d)).length = k := by simp; omega
              have hcell : ∀ i, i < 5 → cur[k * 5 + i]? = (tkCells t)[i]? := fun i hi => by
                have h1 := tks_get ((l.take k).map (upT d) ++ t :: l.drop (k + 1)) k t (by rw [List.getElem?_append_right (by omega), hA]; simp) i hi
                obtain ⟨v, hv⟩ := getSome (l := tkCells t) (k := i) (by simp [tkCells]; omega)
                rw [hv] at h1
                rw [hv]; exact cur_at hx2 h1
              have c0 := blk_cell hb.out (k * 5) (hcell 0 (by omega))
              have c1 := blk_cell hb.out (k * 5 + 1) (hcell 1 (by omega))
              have hfree := fun j => blk_free hb.out j
              have hst := set_up hx2 d
              rw [hA, ← up_next d ht] at hst
              obtain ⟨t1, t2, t3, t4, t5, _⟩ := hok
              have w0 := IntWalk.i64_in (t.low + d) (by omega)
              have w1' := IntWalk.i64_in (t.high + d) (by omega)
              have hkc : k < c2 := by omega
              have HT := Lib.hid ht
              have HX2 := Lib.hid hx2
              have HA := Lib.hid hA
              have HCELL := Lib.hid hcell
              have HST := Lib.hid hst
              clear ht hx2 hA hcell hst
              go_wp2
              go_roundw
              case rel => exact ⟨k + 1, _, by omega, by go_num, blk_set (blk_set hb.out (k * 5) (vi (t.low + d))) (k * 5 + 1) (vi (t.high + d)), by simpa using hcz, HST.out, bw_set (bw_set hbw hg0 _ _) hg0 _ _⟩
              case measure => simp [intOf]; omega
            · obtain ⟨L, HL⟩ : ∃ L, Hid (L = l.map (upT d)) := ⟨_, rfl⟩
              have hLl : L.length = l.length := by rw [HL.out]; simp
              have hL5 : L.length ≤ 1048576 := by omega
              have hownL : wr.ownsRow w.heap.size 64 5 (.slice (some ⟨g, 0, none⟩) L.length c2) L.length (tks L) := by
                have e := hx.out
                rw [take_end hlt, drop_end hlt, List.append_nil, ← HL.out] at e
                rw [hLl]
                exact ⟨by rw [tks_length, hLl], .inr ⟨g, c2, cur, rfl, hg0, hb.out, hcap, hcm, hcz, e⟩⟩
              have hltL : ¬ k < L.length := by omega
              rw [← hLl]
              have HLL := Lib.hid hLl
              clear hLl
              go_wp2_with fail
              refine (impl.SetValid_walk _ _ _ L hL5 (Own.ofRow hownL).rt).mono ?_
              obtain ⟨q, HG⟩ : ∃ q, Hid (setOk L = q) := ⟨_, rfl⟩
              rw [HG.out]
              rintro e w3 ⟨rfl, hb3⟩
              cases q with
              | false =>
                have hn : ¬ (-20 ≤ d ∧ d ≤ 20 ∧ setOk l = true ∧ setOk (l.map (upT d)) = true) := by rw [← HL.out, HG.out]; simp
                have HN := Lib.hid hn
                clear hn
                go_wp2
                go_ret2
                exact NO.out _ (bw_trans hbw hb3) HN.out
              | true =>
                have hy : raiseT l d = (L, true) := by rw [HL.out]; exact raiseT_yes ⟨by omega, by omega, HQ.out, by rw [← HL.out]; exact HG.out⟩
                have HY := Lib.hid hy
                clear hy
                go_wp2
                go_ret2
                exact ⟨some ⟨g, 0, none⟩, c2, by rw [HY.out]; rfl, by rw [HY.out]; exact row_bw hownL hb3, bw_trans hbw hb3⟩

set_option maxRecDepth 100000 in
set_option maxHeartbeats 3200000 in
theorem RaiseAll_spec (ao : Option Addr) (c : Nat) (w : World) (l : List Tk) (d : Int) (hl : l.length ≤ 1048576) (hr : RT w ao l) :
    Calls Try.prog 23 #[.slice ao l.length c, .int .i64 d] w (RetP w 64 5 (tks (raiseT l d).1) (raiseT l d).1.length (raiseT l d).2) := by
  obtain ⟨i0, hi0, hz0, hz1, hz2⟩ := info_parts infoTask
  have no : ∀ W, Bw w W → ¬ (-20 ≤ d ∧ d ≤ 20 ∧ setOk l = true ∧ setOk (l.map (upT d)) = true) → RetP w 64 5 (tks (raiseT l d).1) (raiseT l d).1.length (raiseT l d).2 (.returned (.tuple #[.slice (some ⟨W.heap.size, 0, none⟩) 0 0, .bool false])) (W.alloc (.cells #[] 64)) := by
    intro W hW h
    rw [raiseT_no h]
    exact ⟨some ⟨W.heap.size, 0, none⟩, 0, rfl, by simpa [tks] using World.ownsRow_made (base := w.heap.size) (e := 64) (size := 5) W #[] 0 hW.size (by simp) rfl, bw_trans hW (bw_alloc _ _)⟩
  have HR := Lib.hid hr
  have NO := Lib.hid no
  clear hr no
  go_enter Try.func23, Try.ntmps23
  go_wp2_with fail
  refine (spec.SetValid_walk _ _ _ l hl HR.out).mono ?_
  obtain ⟨q, HQ⟩ : ∃ q, Hid (setOk l = q) := ⟨_, rfl⟩
  rw [HQ.out]
  rintro e w1 ⟨rfl, hb1⟩
  cases q with
  | false =>
    go_wp2
    go_ret2
    exact NO.out _ hb1 (by rw [HQ.out]; simp)
  | true =>
    by_cases hd0 : d < -20
    · go_wp2
      go_ret2
      exact NO.out _ hb1 (by omega)
    · have hdd0 : decide (d < -20) = false := by simp; omega
      by_cases hd1 : 20 < d
      · go_wp2
        go_ret2
        exact NO.out _ hb1 (by omega)
      · have hdd1 : decide (20 < d) = false := by simp; omega
        have h5 := setOk_len HQ.out
        have hz1' := hb1.size
        go_wp2
        clear hdd0 hdd1
        go_loopw [6, 7] (fun u i wr => ∃ (k : Nat), k ≤ l.length ∧ i = .int .i64 k ∧ wr.ownsRow w.heap.size 64 5 u k (tks ((l.take k).map (upT d))) ∧ Bw w wr) (fun _ i _ => l.length - (intOf i).toNat)
        case atStart => exact ⟨0, Nat.zero_le _, rfl, by simpa [tks] using World.ownsRow_made (base := w.heap.size) (e := 64) (size := 5) w1 #[] 0 hz1' (by simp) rfl, bw_trans hb1 (bw_alloc _ _)⟩
        case round =>
          obtain ⟨k, hk, rfl, hown, hbw⟩ := hrel
          have hz := hbw.size
          by_cases hlt : k < l.length
          · obtain ⟨⟨t0, t1, t2, t3, t4⟩, b, off, htk, hao, hbs, c0, c1, c2, c3, c4⟩ := HR.out.get hbw hlt
            have hok := (Tk.ok_iff _).1 (setOk_at HQ.out htk)
            dsimp only at c0 c1 c2 c3 c4 hok
            subst hao
            have v0 := IntWalk.i64_in (t0 + d) (by omega)
            have v1 := IntWalk.i64_in (t1 + d) (by omega)
            have hst : (l.take (k + 1)).map (upT d) = (l.take k).map (upT d) ++ [(⟨t0 + d, t1 + d, t2, t3, t4⟩ : Tk)] := by rw [take_snoc htk]; simp [upT]
            have HTK := Lib.hid htk
            have HOK := Lib.hid hok
            have HST := Lib.hid hst
            clear htk hok hst
            go_wp2_with (at_builtin; refine wpList_append_own _ rfl _ _ 23 rfl w.heap.size 64 i0 zTask 5 40 Try.underlying23 hi0 hz0 hz1 hz2 rfl (by decide) _ _ _ rfl ((row_bw hown (bw_alloc _ _)).alloc _) ⟨wr.heap.size + 1, 0, none⟩ 1 1 (tkCells ⟨t0 + d, t1 + d, t2, t3, t4⟩) rfl rfl (by have := cell_task_new (wr.alloc (.cells #[.int .i64 (t0 + d), .int .i64 (t1 + d), .int .i64 t2, .int .i64 t3, .bool t4] 64)) ⟨t0 + d, t1 + d, t2, t3, t4⟩ 64; simpa using this) (oneT _) (by unfold maxLen; omega) (by omega) (by simp only [World.size_alloc]; omega) ?_; intro v' w2 hown' hgrow _)
            have hb2 : Bw w w2 := Below.grown (Below.alloc (bw_trans hbw (bw_alloc _ _)) (by simp only [World.size_alloc]; omega) _) hgrow (by simp only [World.size_alloc]; omega) (fun g hg => by have := own_cap0 hown g hg; omega)
            have hown2 : w2.ownsRow w.heap.size 64 5 v' (k + 1) (tks ((l.take (k + 1)).map (upT d))) := by rw [HST.out]; simpa [tks] using hown'
            clear hown' hgrow hown
            go_wp2
            go_roundw
            case rel => exact ⟨k + 1, by omega, by go_num, hown2, hb2⟩
            case measure => simp [intOf]; omega
          · obtain ⟨L, HL⟩ : ∃ L, Hid (L = l.map (upT d)) := ⟨_, rfl⟩
            have hkl : k = l.length := by omega
            have hLl : L.length = k := by rw [HL.out, hkl]; simp
            have hL5 : L.length ≤ 1048576 := by omega
            rw [take_end hlt, ← HL.out, ← hLl] at hown
            obtain ⟨ao2, c2, hu⟩ := own_form hown
            subst hu
            have HLL := Lib.hid hLl
            have HKL := Lib.hid hkl
            clear hLl hkl
            go_wp2_with fail
            refine (spec.SetValid_walk _ _ _ L hL5 ((Own.ofRow hown).rt)).mono ?_
            obtain ⟨q, HG⟩ : ∃ q, Hid (setOk L = q) := ⟨_, rfl⟩
            rw [HG.out]
            rintro e w3 ⟨rfl, hb3⟩
            cases q with
            | false =>
              have hn : ¬ (-20 ≤ d ∧ d ≤ 20 ∧ setOk l = true ∧ setOk (l.map (upT d)) = true) := by rw [← HL.out, HG.out]; simp
              have HN := Lib.hid hn
              clear hn
              go_wp2
              go_ret2
              exact NO.out _ (bw_trans hbw hb3) HN.out
            | true =>
              have hy : raiseT l d = (L, true) := by rw [HL.out]; exact raiseT_yes ⟨by omega, by omega, HQ.out, by rw [← HL.out]; exact HG.out⟩
              have HY := Lib.hid hy
              clear hy
              go_wp2
              go_ret2
              exact ⟨ao2, c2, by rw [HY.out]; rfl, by rw [HY.out]; exact row_bw hown hb3, bw_trans hbw hb3⟩

theorem RetP.rp2 {w : World} {E size : Nat} {xs : List Value} {n : Nat} {ok : Bool} {e : Ending} {w' : World} (h : RetP w E size xs n ok e w') : RP w E xs n ok e w' := by
  obtain ⟨ao, c, e1, h1, h2⟩ := h
  exact ⟨ao, c, e1, Own.ofRow h1, h2⟩
theorem raise_implR {w : World} {v : Value} {l : List Tk} (hl : ST w v l) (d : Int) : Calls Try.prog 22 #[v, .int .i64 d] w (RetP w 64 5 (tks (raiseT l d).1) (raiseT l d).1.length (raiseT l d).2) := by
  obtain ⟨⟨ao, c, rfl, hr, _, hf⟩, hn⟩ := hl
  exact RaiseAll_impl ao c w l d hn hf hr
theorem raise_specR {w : World} {v : Value} {l : List Tk} (hl : ST w v l) (d : Int) : Calls Try.prog 23 #[v, .int .i64 d] w (RetP w 64 5 (tks (raiseT l d).1) (raiseT l d).1.length (raiseT l d).2) := by
  obtain ⟨⟨ao, c, rfl, hr, _, hf⟩, hn⟩ := hl
  exact RaiseAll_spec ao c w l d hn hr
theorem raise_impl {w : World} {v : Value} {l : List Tk} (hl : ST w v l) (d : Int) : Calls Try.prog 22 #[v, .int .i64 d] w (RP w 64 (tks (raiseT l d).1) (raiseT l d).1.length (raiseT l d).2) :=
  (raise_implR hl d).mono fun _ _ h => h.rp2
theorem raise_spec {w : World} {v : Value} {l : List Tk} (hl : ST w v l) (d : Int) : Calls Try.prog 23 #[v, .int .i64 d] w (RP w 64 (tks (raiseT l d).1) (raiseT l d).1.length (raiseT l d).2) :=
  (raise_specR hl d).mono fun _ _ h => h.rp2
end Go.Proofs.Ytbgfclcnddgboaa
