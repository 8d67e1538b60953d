/-
  The walks of the functions that draw lists of tasks.
-/
import Derived.Test.YtbgfclcnddgboaaDrT
import Derived.Test.YtbgfclcnddgboaaRaise
namespace Go.Proofs.Ytbgfclcnddgboaa
open Go.RowKit

theorem row_hit {w w' : World} {lo hi base E size n : Nat} {v : Value} {xs : List Value} (h : w.ownsRow base E size v n xs) (hh : HitR lo hi w w') (hb : hi ≤ base) : w'.ownsRow base E size v n xs := by
  refine ⟨h.1, ?_⟩
  rcases h.2 with hn | ⟨g, cap, cur, rfl, hg, hk, rest⟩
  · exact .inl hn
  · exact .inr ⟨g, cap, cur, rfl, hg, blk_hit hh hk (.inr (by omega)), rest⟩
theorem hitR_grown {lo hi : Nat} {a b c : World} {row : Option Nat} (h : HitR lo hi a b) (hg : b.grownBy c row) (hr : ∀ k, row = some k → a.heap.size ≤ k) : HitR lo hi a c :=
  ⟨hg.os.trans h.os, hg.tape.trans h.tape, hg.output.trans h.output, Nat.le_trans h.size hg.size, fun k hk hx => (hg.block k (Nat.lt_of_lt_of_le hk h.size) (fun e => by have := hr k e.symm; omega)).trans (h.block k hk hx)⟩
theorem Rd.grown {w w' : World} {base G p : Nat} {row : Option Nat} (h : Rd w base G p) (hg : w.grownBy w' row) (hr : ∀ k, row = some k → G < k) : Rd w' base G p := by
  have hlt := h.lt
  obtain ⟨h1, bo, n, c, h2, h3, h4⟩ := h
  refine ⟨h1, bo, n, c, ?_, h3, fun i hi => ?_⟩
  · rw [hg.block G hlt (fun e => by have := hr G e.symm; omega)]; exact h2
  · obtain ⟨b, off, x, e, hb, hc, h5, h6⟩ := h4 i hi
    refine ⟨b, off, x, e, hb, ?_, h5, h6⟩
    rw [World.cell?_of_block (hg.block b (World.block_lt_of_cell? w _ hc) (fun e => by have := hr b e.symm; omega))]; exact hc

def SetEnd (K M : Nat) (w : World) (base G p : Nat) (e : Ending) (w' : World) : Prop := ∃ (ao : Option Addr) (c : Nat) (l : List Tk) (q : Nat), e = .returned (.slice ao l.length c) ∧ w'.ownsRow w.heap.size 64 5 (.slice ao l.length c) l.length (tks l) ∧ l.length ≤ M ∧ (∀ t ∈ l, Sm t) ∧ q ≤ p + K ∧ Dr w w' base G q

set_option maxRecDepth 100000 in
set_option maxHeartbeats 1600000 in
theorem l1Set_any (w : World) (base G p : Nat) (hr : Rd w base G p) (hp : p ≤ 800000) :
    Calls Try.prog 77 #[.pointer (some ⟨G, 0, none⟩)] w (SetEnd 31 5 w base G p) := by
  obtain ⟨i0, hi0, hz0, hz1, hz2⟩ := info_parts infoTask
  have hG := hr.lt
  have hbG := hr.1
  have HR := Lib.hid hr
  clear hr
  go_enter Try.func77, Try.ntmps77
  go_wp2_with fail
  refine (num_any _ base G p (w.heap.size + 1) [3, 2, 4, 1, 5, 0] 6 ((HR.out.bw (bw_alloc _ _)).bw (bw_alloc _ _)) (by omega) (by simp) (by simp) (by omega) (ri_lit _ (by have := heap_alloc_new (w.alloc (.cells #[] 64)) (.cells #[vi 3, vi 2, vi 4, vi 1, vi 5, vi 0] 3); simpa using this) rfl)).mono ?_
  rintro e w1 ⟨x, rfl, hx, hd1⟩
  obtain ⟨n, rfl, hn⟩ : ∃ n : Nat, x = n ∧ n ≤ 5 := by
    have : 0 ≤ x ∧ x ≤ 5 := by simp at hx; omega
    exact ⟨x.toNat, by omega, by omega⟩
  have hz1' := hd1.2.size
  simp only [World.size_alloc] at hz1'
  have HR1 := Lib.hid hd1.1
  have HH1 := Lib.hid (HitR.trans (hitR_alloc (hitR_alloc (HitR.refl G (G + 1) w) _) _) hd1.2)
  have hown0 := row_hit (World.ownsRow.alloc (World.ownsRow_made (base := w.heap.size) (e := 64) (size := 5) w #[] 0 (Nat.le_refl _) (by simp) rfl) (.cells #[vi 3, vi 2, vi 4, vi 1, vi 5, vi 0] 3)) hd1.2 (by omega)
  clear hd1 hx
  go_wp2
  go_loopw [3, 4] (fun u i wr => ∃ (k : Nat) (l : List Tk) (q : Nat), k ≤ n ∧ i = .int .i64 k ∧ l.length + k = n ∧ Hid (∀ t ∈ l, Sm t) ∧ q ≤ p + 1 + 6 * l.length ∧ wr.ownsRow w.heap.size 64 5 u l.length (tks l) ∧ Hid (Rd wr base G q) ∧ Hid (HitR G (G + 1) w wr)) (fun _ i _ => (intOf i).toNat)
  case atStart => exact ⟨n, [], p + 1, Nat.le_refl _, rfl, by simp, by intro t ht; simp at ht, by simp, by simpa [tks] using hown0, HR1.out, HH1.out⟩
  case round =>
    clear hown0
    obtain ⟨k, l, q, hk, rfl, hkl, hsm, hq, hown, hrd, hh⟩ := hrel
    have hz := hh.out.size
    rcases Nat.eq_zero_or_pos k with h0 | h0
    · subst h0
      obtain ⟨ao, c, hu⟩ := own_form hown
      subst hu
      have hlt0 : decide ((0 : Int) < 0) = false := by simp
      go_wp2
      go_ret
      exact ⟨ao, c, l, q, rfl, hown, by omega, hsm.out, by omega, hrd.out, hh.out⟩
    · obtain ⟨k, rfl⟩ : ∃ m, k = m + 1 := ⟨k - 1, by omega⟩
      go_wp2_with fail
      refine (l1Task_any _ base G q hrd.out (by omega)).mono ?_
      rintro e w2 ⟨⟨t0, t1, t2, t3, t4⟩, q2, rfl, hts, hq2, hd2⟩
      have hz2' := hd2.2.size
      have hown2 := row_hit hown hd2.2 (by omega)
      have HSM2 : Hid (∀ t ∈ l ++ [(⟨t0, t1, t2, t3, t4⟩ : Tk)], Sm t) := by
        intro t ht
        rcases List.mem_append.1 ht with ht | ht
        · exact hsm.out t ht
        · simp at ht; subst ht; exact hts
      have HR2 := Lib.hid hd2.1
      have HH2 := Lib.hid (HitR.trans hh.out hd2.2)
      clear hd2 hown hts
      go_wp2_with (at_builtin; refine wpList_append_own _ rfl _ _ 23 rfl w.heap.size 64 i0 zTask 5 40 Try.underlying23 hi0 hz0 hz1 hz2 rfl (by decide) _ _ _ rfl (hown2.alloc _) ⟨w2.heap.size, 0, none⟩ 1 1 (tkCells ⟨t0, t1, t2, t3, t4⟩) rfl rfl (cell_task_new w2 ⟨t0, t1, t2, t3, t4⟩ 64) (oneT _) (by unfold maxLen; omega) (by omega) (by simp only [World.size_alloc]; omega) ?_; intro v' w3 hown' hgrow _)
      have hown3 : w3.ownsRow w.heap.size 64 5 v' (l ++ [(⟨t0, t1, t2, t3, t4⟩ : Tk)]).length (tks (l ++ [(⟨t0, t1, t2, t3, t4⟩ : Tk)])) := by simpa [tks] using hown'
      have HR3 := Lib.hid (Rd.grown (HR2.out.bw (bw_alloc _ _)) hgrow (fun g hg => by have := own_cap0 hown2 g hg; omega))
      have HH3 := Lib.hid (hitR_grown (hitR_alloc HH2.out _) hgrow (fun g hg => own_cap0 hown2 g hg))
      clear hown' hgrow hown2
      go_wp2
      go_roundw
      case rel => exact ⟨k, l ++ [(⟨t0, t1, t2, t3, t4⟩ : Tk)], q2, by omega, by go_num, by simp; omega, HSM2.out, by simp; omega, hown3, HR3.out, HH3.out⟩
      case measure => simp [intOf]

theorem set_t {cur : Array Value} {A B : List Tk} {t : Tk} {n : Nat} (h : cur.toList.take n = tks (A ++ t :: B)) (u : Tk) :
    (((((cur.setIfInBounds (A.length * 5) (vi u.low)).setIfInBounds (A.length * 5 + 1) (vi u.high)).setIfInBounds (A.length * 5 + 2) (vi u.due)).setIfInBounds (A.length * 5 + 3) (vi u.every)).setIfInBounds (A.length * 5 + 4) (.bool u.crit)).toList.take n = tks (A ++ u :: B) := by
  simp only [Array.toList_setIfInBounds, List.take_set, h]
  have e : tks (A ++ t :: B) = tks A ++ ([vi t.low, vi t.high, vi t.due, vi t.every, .bool t.crit] ++ tks B) := by simp [tks, tkCells]
  have e2 : tks (A ++ u :: B) = tks A ++ ([vi u.low, vi u.high, vi u.due, vi u.every, .bool u.crit] ++ tks B) := by simp [tks, tkCells]
  have d : ∀ j, A.length * 5 + j - A.length * 5 = j := fun j => by omega
  rw [e, e2, List.set_append_right _ _ (by rw [tks_length]; omega), List.set_append_right _ _ (by rw [tks_length]; omega), List.set_append_right _ _ (by rw [tks_length]; omega), List.set_append_right _ _ (by rw [tks_length]; omega), List.set_append_right _ _ (by rw [tks_length]; omega), tks_length, d, d, d, d, Nat.sub_self]
  rfl
theorem split_at {α : Type} {l : List α} {k : Nat} {t : α} (h : l[k]? = some t) : l = l.take k ++ t :: l.drop (k + 1) := by
  rw [← drop_cons h, List.take_append_drop]
/-- One task of a row of the call's own is put in another one's place. -/
theorem row_set {w : World} {base g c n : Nat} {l : List Tk} (h : w.ownsRow base 64 5 (.slice (some ⟨g, 0, none⟩) n c) n (tks l)) (hn : n = l.length) {k : Nat} {t : Tk} (ht : l[k]? = some t) (u : Tk) :
    (((((w.setCell ⟨g, k * 5, none⟩ (vi u.low)).setCell ⟨g, k * 5 + 1, none⟩ (vi u.high)).setCell ⟨g, k * 5 + 2, none⟩ (vi u.due)).setCell ⟨g, k * 5 + 3, none⟩ (vi u.every)).setCell ⟨g, k * 5 + 4, none⟩ (.bool u.crit)).ownsRow base 64 5 (.slice (some ⟨g, 0, none⟩) n c) n (tks (l.set k u)) := by
  have hk : k < l.length := (List.getElem?_eq_some_iff.1 ht).1
  have hA : (l.take k).length = k := by rw [List.length_take]; omega
  have hs : l.set k u = l.take k ++ u :: l.drop (k + 1) := by rw [List.set_eq_take_append_cons_drop, if_pos hk]
  rw [hs]
  rcases h.2 with ⟨e, _⟩ | ⟨g', cap, cur, e, hg, hh, a1, a2, a3, a4⟩
  · simp at e
  · simp at e; obtain ⟨rfl, rfl⟩ := e
    rw [split_at ht] at a4
    have hst := set_t a4 u
    rw [hA] at hst
    refine ⟨by rw [tks_length]; simp; omega, .inr ⟨g, c, _, rfl, hg, blk_set (blk_set (blk_set (blk_set (blk_set hh (k * 5) (vi u.low)) (k * 5 + 1) (vi u.high)) (k * 5 + 2) (vi u.due)) (k * 5 + 3) (vi u.every)) (k * 5 + 4) (.bool u.crit), a1, a2, by simpa using a3, hst⟩⟩

def lenV : Value → Nat
  | .slice _ n _ => n
  | _ => 0


set_option maxRecDepth 100000 in
set_option maxHeartbeats 3200000 in
theorem l1Some_any (w : World) (base G p : Nat) (hr : Rd w base G p) (hp : p ≤ 700000) :
    Calls Try.prog 54 #[.pointer (some ⟨G, 0, none⟩)] w (SetEnd 100 6 w base G p) := by
  obtain ⟨i0, hi0, hz0, hz1, hz2⟩ := info_parts infoTask
  have hG := hr.lt
  have hbG := hr.1
  have HR := Lib.hid hr
  clear hr
  go_enter Try.func54, Try.ntmps54
  go_wp2_with fail
  refine (l1Set_any _ base G p HR.out (by omega)).mono ?_
  rintro e w1 ⟨ao, c, l, q, rfl, hown, hl5, hsm, hq, hd1⟩
  have hz1' := hd1.2.size
  have HR1 := Lib.hid hd1.1
  have HH1 := Lib.hid hd1.2
  have HSM := Lib.hid hsm
  clear hd1 hsm
  by_cases h0 : 0 < l.length
  · obtain ⟨g, rfl⟩ : ∃ g, ao = some ⟨g, 0, none⟩ := by
      rcases hown.2 with ⟨e0, hx⟩ | ⟨g, cap, cur0, e0, _⟩
      · omega
      · simp only [Value.slice.injEq] at e0; exact ⟨g, e0.1⟩
    have hgb := own_cap0 hown g rfl
    go_wp2_with fail
    refine (pick_any _ base G _ _ HR1.out (by omega)).mono ?_
    rintro e w2 ⟨k, rfl, hk, hd2⟩
    have hkl : k < l.length := by omega
    have hz2' := hd2.2.size
    have hown2 := row_hit hown hd2.2 (by omega)
    have HR2 := Lib.hid hd2.1
    have HH2 := Lib.hid (HitR.trans HH1.out hd2.2)
    clear hd2 hown
    obtain ⟨⟨t0, t1, t2, t3, t4⟩, ht⟩ := getSome hkl
    have hts := HSM.out _ (List.mem_of_getElem? ht)
    have hrt := (Own.ofRow hown2).rt
    obtain ⟨b, off, e, hbs, c0, c1, c2, c3, c4⟩ := hrt k _ ht
    simp only [Option.some.injEq, Addr.mk.injEq, and_true] at e
    obtain ⟨rfl, rfl⟩ := e
    dsimp only at c0 c1 c2 c3 c4
    simp only [Nat.zero_add] at c0 c1 c2 c3 c4
    have HT := Lib.hid ht
    have HTS := Lib.hid hts
    clear ht hts hrt
    go_wp2_with fail
    refine (l1Wrong_any _ base G _ ⟨t0, t1, t2, t3, t4⟩ HR2.out (by omega) HTS.out).mono ?_
    rintro e w3 ⟨⟨u0, u1, u2, u3, u4⟩, q3, rfl, hus, hq3, hd3⟩
    have hz3' := hd3.2.size
    have hown3 := row_hit hown2 hd3.2 (by omega)
    have HR3 := Lib.hid hd3.1
    have HH3 := Lib.hid (HitR.trans HH2.out hd3.2)
    have d0 := cell_hit hd3.2 c0 (.inr (by omega))
    have d1 := cell_hit hd3.2 c1 (.inr (by omega))
    have d2 := cell_hit hd3.2 c2 (.inr (by omega))
    have d3 := cell_hit hd3.2 c3 (.inr (by omega))
    have d4 := cell_hit hd3.2 c4 (.inr (by omega))
    have hfz : ∀ j, w3.frozen? ⟨g, j, none⟩ = false := by
      rcases hown3.2 with ⟨e0, _⟩ | ⟨g', cap, cur0, e0, _, hbk, _⟩
      · simp at e0
      · simp at e0; obtain ⟨rfl, _⟩ := e0; exact fun j => blk_free hbk j
    have hset := row_set hown3 rfl HT.out ⟨u0, u1, u2, u3, u4⟩
    dsimp only at hset
    have HSM3 : Hid (∀ t ∈ l.set k (⟨u0, u1, u2, u3, u4⟩ : Tk), Sm t) := by
      intro t ht
      rcases List.mem_or_eq_of_mem_set ht with ht | rfl
      · exact HSM.out t ht
      · exact hus
    obtain ⟨L, HL⟩ : ∃ L, Hid (L = l.set k (⟨u0, u1, u2, u3, u4⟩ : Tk)) := ⟨_, rfl⟩
    have hLl : L.length = l.length := by rw [HL.out]; simp
    have hls5 : L.length ≤ 5 := by omega
    have h0L : 0 < L.length := by omega
    have hkL : k < L.length := by omega
    rw [← HL.out, ← hLl] at hset
    rw [← HL.out] at HSM3
    rw [← hLl]
    have HLL := Lib.hid hLl
    clear hLl
    have HSET := Lib.hid hset
    clear hset hown3 hown2 hus hd3 c0 c1 c2 c3 c4
    go_wp2_with fail
    refine (pick_any _ base G _ _ (Rd.set (Rd.set (Rd.set (Rd.set (Rd.set HR3.out (by omega) (by omega) _ _) (by omega) (by omega) _ _) (by omega) (by omega) _ _) (by omega) (by omega) _ _) (by omega) (by omega) _ _) (by omega)).mono ?_
    rintro e w7 ⟨r7, rfl, hr7, hd7⟩
    have hz7 := hd7.2.size
    try simp only [World.size_setCell] at hz7
    have hown7 := row_hit HSET.out hd7.2 (by omega)
    have HR7 := Lib.hid hd7.1
    have HH7 := Lib.hid (HitR.trans (hitR_own (hitR_own (hitR_own (hitR_own (hitR_own HH3.out hgb _ _) hgb _ _) hgb _ _) hgb _ _) hgb _ _) hd7.2)
    clear hd7
    by_cases h7 : r7 = 0
    · subst h7
      go_wp2
      go_loopw [3] (fun u wr => ∃ (l : List Tk) (ao : Option Addr) (c q : Nat), u = .slice ao l.length c ∧ l.length ≤ 6 ∧ Hid (∀ t ∈ l, Sm t) ∧ q ≤ p + 40 + 6 * l.length ∧ wr.ownsRow w.heap.size 64 5 u l.length (tks l) ∧ Hid (Rd wr base G q) ∧ Hid (HitR G (G + 1) w wr)) (fun u _ => 6 - lenV u)
      case atStart =>
        refine ⟨L, _, _, _, rfl, ?_, HSM3.out, ?_, hown7, HR7.out, HH7.out⟩ <;> omega
      case round =>
        clear hown7
        obtain ⟨l, ao, c, q, rfl, hl6, hsm, hq, hown, hrd, hh⟩ := hrel
        have hz := hh.out.size
        by_cases h6 : l.length ≤ 5
        · have h6i : (l.length : Int) ≤ 5 := by omega
          go_wp2_with fail
          refine (l1Task_any _ base G q hrd.out (by omega)).mono ?_
          rintro e w2 ⟨⟨t0, t1, t2, t3, t4⟩, q2, rfl, hts, hq2, hd2⟩
          have hz2' := hd2.2.size
          have hown2 := row_hit hown hd2.2 (by omega)
          have HSM2 : Hid (∀ t ∈ l ++ [(⟨t0, t1, t2, t3, t4⟩ : Tk)], Sm t) := by
            intro t ht
            rcases List.mem_append.1 ht with ht | ht
            · exact hsm.out t ht
            · simp at ht; subst ht; exact hts
          have HR2 := Lib.hid hd2.1
          have HH2 := Lib.hid (HitR.trans hh.out hd2.2)
          clear hd2 hown hts
          go_wp2_with (at_builtin; refine wpList_append_own _ rfl _ _ 23 rfl w.heap.size 64 i0 zTask 5 40 Try.underlying23 hi0 hz0 hz1 hz2 rfl (by decide) _ _ _ rfl (hown2.alloc _) ⟨w2.heap.size, 0, none⟩ 1 1 (tkCells ⟨t0, t1, t2, t3, t4⟩) rfl rfl (cell_task_new w2 ⟨t0, t1, t2, t3, t4⟩ 64) (oneT _) (by unfold maxLen; omega) (by omega) (by simp only [World.size_alloc]; omega) ?_; intro v' w3 hown' hgrow _; obtain ⟨ao3, c3, hu⟩ := own_form hown'; subst hu)
          have hown3 : w3.ownsRow w.heap.size 64 5 (.slice ao3 (l.length + 1) c3) (l ++ [(⟨t0, t1, t2, t3, t4⟩ : Tk)]).length (tks (l ++ [(⟨t0, t1, t2, t3, t4⟩ : Tk)])) := by simpa [tks] using hown'
          have HR3 := Lib.hid (Rd.grown (HR2.out.bw (bw_alloc _ _)) hgrow (fun g hg => by have := own_cap0 hown2 g hg; omega))
          have HH3 := Lib.hid (hitR_grown (hitR_alloc HH2.out _) hgrow (fun g hg => own_cap0 hown2 g hg))
          clear hown' hgrow hown2
          go_wp2
          go_roundw
          case rel => exact ⟨l ++ [(⟨t0, t1, t2, t3, t4⟩ : Tk)], ao3, c3, q2, by simp, by simp; omega, HSM2.out, by simp; omega, hown3, HR3.out, HH3.out⟩
          case measure => simp [lenV]; omega
        · have h6i : decide ((l.length : Int) ≤ 5) = false := by simp; omega
          go_wp2
          go_ret
          exact ⟨ao, c, l, q, rfl, hown, by omega, hsm.out, by omega, hrd.out, hh.out⟩
    · have h7b : ((r7 : Int) == 0) = false := by simp; omega
      clear h7
      go_wp2
      go_ret
      refine ⟨_, _, L, _, rfl, hown7, ?_, HSM3.out, ?_, HR7.out, HH7.out⟩ <;> omega
  · have hl0 : l.length = 0 := by omega
    have h0b : decide (0 < l.length) = false := decide_eq_false (by omega)
    have HL0 := Lib.hid hl0
    clear hl0
    go_wp2_with fail
    refine (pick_any _ base G _ _ HR1.out (by omega)).mono ?_
    rintro e w7 ⟨r7, rfl, hr7, hd7⟩
    have hz7 := hd7.2.size
    try simp only [World.size_setCell] at hz7
    have hown7 := row_hit hown hd7.2 (by omega)
    have HR7 := Lib.hid hd7.1
    have HH7 := Lib.hid (HitR.trans HH1.out hd7.2)
    clear hd7
    by_cases h7 : r7 = 0
    · subst h7
      go_wp2
      go_loopw [3] (fun u wr => ∃ (l : List Tk) (ao : Option Addr) (c q : Nat), u = .slice ao l.length c ∧ l.length ≤ 6 ∧ Hid (∀ t ∈ l, Sm t) ∧ q ≤ p + 40 + 6 * l.length ∧ wr.ownsRow w.heap.size 64 5 u l.length (tks l) ∧ Hid (Rd wr base G q) ∧ Hid (HitR G (G + 1) w wr)) (fun u _ => 6 - lenV u)
      case atStart =>
        refine ⟨l, _, _, _, rfl, ?_, HSM.out, ?_, hown7, HR7.out, HH7.out⟩ <;> omega
      case round =>
        clear hown7
        obtain ⟨l, ao, c, q, rfl, hl6, hsm, hq, hown, hrd, hh⟩ := hrel
        have hz := hh.out.size
        by_cases h6 : l.length ≤ 5
        · have h6i : (l.length : Int) ≤ 5 := by omega
          go_wp2_with fail
          refine (l1Task_any _ base G q hrd.out (by omega)).mono ?_
          rintro e w2 ⟨⟨t0, t1, t2, t3, t4⟩, q2, rfl, hts, hq2, hd2⟩
          have hz2' := hd2.2.size
          have hown2 := row_hit hown hd2.2 (by omega)
          have HSM2 : Hid (∀ t ∈ l ++ [(⟨t0, t1, t2, t3, t4⟩ : Tk)], Sm t) := by
            intro t ht
            rcases List.mem_append.1 ht with ht | ht
            · exact hsm.out t ht
            · simp at ht; subst ht; exact hts
          have HR2 := Lib.hid hd2.1
          have HH2 := Lib.hid (HitR.trans hh.out hd2.2)
          clear hd2 hown hts
          go_wp2_with (at_builtin; refine wpList_append_own _ rfl _ _ 23 rfl w.heap.size 64 i0 zTask 5 40 Try.underlying23 hi0 hz0 hz1 hz2 rfl (by decide) _ _ _ rfl (hown2.alloc _) ⟨w2.heap.size, 0, none⟩ 1 1 (tkCells ⟨t0, t1, t2, t3, t4⟩) rfl rfl (cell_task_new w2 ⟨t0, t1, t2, t3, t4⟩ 64) (oneT _) (by unfold maxLen; omega) (by omega) (by simp only [World.size_alloc]; omega) ?_; intro v' w3 hown' hgrow _; obtain ⟨ao3, c3, hu⟩ := own_form hown'; subst hu)
          have hown3 : w3.ownsRow w.heap.size 64 5 (.slice ao3 (l.length + 1) c3) (l ++ [(⟨t0, t1, t2, t3, t4⟩ : Tk)]).length (tks (l ++ [(⟨t0, t1, t2, t3, t4⟩ : Tk)])) := by simpa [tks] using hown'
          have HR3 := Lib.hid (Rd.grown (HR2.out.bw (bw_alloc _ _)) hgrow (fun g hg => by have := own_cap0 hown2 g hg; omega))
          have HH3 := Lib.hid (hitR_grown (hitR_alloc HH2.out _) hgrow (fun g hg => own_cap0 hown2 g hg))
          clear hown' hgrow hown2
          go_wp2
          go_roundw
          case rel => exact ⟨l ++ [(⟨t0, t1, t2, t3, t4⟩ : Tk)], ao3, c3, q2, by simp, by simp; omega, HSM2.out, by simp; omega, hown3, HR3.out, HH3.out⟩
          case measure => simp [lenV]; omega
        · have h6i : decide ((l.length : Int) ≤ 5) = false := by simp; omega
          go_wp2
          go_ret
          exact ⟨ao, c, l, q, rfl, hown, by omega, hsm.out, by omega, hrd.out, hh.out⟩
    · have h7b : ((r7 : Int) == 0) = false := by simp; omega
      clear h7
      go_wp2
      go_ret
      refine ⟨_, _, l, _, rfl, hown7, ?_, HSM.out, ?_, HR7.out, HH7.out⟩ <;> omega
end Go.Proofs.Ytbgfclcnddgboaa
