/-
  The walk of l6Case and of the draws that hand it on.
-/
import Derived.Test.YtbgfclcnddgboaaDrJ
import Derived.Test.YtbgfclcnddgboaaLeave
namespace Go.Proofs.Ytbgfclcnddgboaa
open Go.RowKit

theorem row_oth {w : World} {base E size n g j : Nat} {v u : Value} {xs : List Value} (h : w.ownsRow base E size v n xs) (hne : ∀ k, v.ownBlock = some k → k ≠ g) : (w.setCell ⟨g, j, none⟩ u).ownsRow base E size v n xs := by
  refine h.kept (row := some g) ⟨rfl, rfl, rfl, by simp, fun k hk hx => by rw [Below.heap_setCell _ _ _ _ (fun e => hx (by simp [e]))]⟩ ?_
  cases hb : v.ownBlock with
  | none => exact .inl rfl
  | some k => exact .inr (fun e => hne k hb (by simpa using e))
theorem set_j {cur : Array Value} {A B : List Jb} {t : Jb} {n : Nat} (h : cur.toList.take n = jbs (A ++ t :: B)) (x : Int) :
    (cur.setIfInBounds (A.length * 3 + 2) (vi x)).toList.take n = jbs (A ++ (⟨t.task, t.at_, x⟩ : Jb) :: B) := by
  simp only [Array.toList_setIfInBounds, List.take_set, h]
  have e : jbs (A ++ t :: B) = jbs A ++ ([vi t.task, vi t.at_, vi t.need] ++ jbs B) := by simp [jbs, jbCells]
  have e2 : jbs (A ++ (⟨t.task, t.at_, x⟩ : Jb) :: B) = jbs A ++ ([vi t.task, vi t.at_, vi x] ++ jbs B) := by simp [jbs, jbCells]
  rw [e, e2, List.set_append_right _ _ (by rw [jbs_length]; omega), jbs_length, show A.length * 3 + 2 - A.length * 3 = 2 by omega]
  rfl
theorem row_setj {w : World} {base g c n : Nat} {l : List Jb} (h : w.ownsRow base 26 3 (.slice (some ⟨g, 0, none⟩) n c) n (jbs l)) (hn : n = l.length) {k : Nat} {t : Jb} (ht : l[k]? = some t) (x : Int) :
    (w.setCell ⟨g, k * 3 + 2, none⟩ (vi x)).ownsRow base 26 3 (.slice (some ⟨g, 0, none⟩) n c) n (jbs (l.set k ⟨t.task, t.at_, x⟩)) := by
  have hk : k < l.length := (List.getElem?_eq_some_iff.1 ht).1
  have hA : (l.take k).length = k := by rw [List.length_take]; omega
  have hs : l.set k ⟨t.task, t.at_, x⟩ = l.take k ++ ⟨t.task, t.at_, x⟩ :: l.drop (k + 1) := by rw [List.set_eq_take_append_cons_drop, if_pos hk]
  rw [hs]
  rcases h.2 with ⟨e, _⟩ | ⟨g', cap, cur, e, hg, hh, a1, a2, a3, a4⟩
  · simp at e
  · simp at e; obtain ⟨rfl, rfl⟩ := e
    rw [split_at ht] at a4
    have hst := set_j a4 x
    rw [hA] at hst
    exact ⟨by rw [jbs_length]; simp; omega, .inr ⟨g, c, _, rfl, hg, blk_set hh (k * 3 + 2) (vi x), a1, a2, by simpa using a3, hst⟩⟩
theorem row_blk {w : World} {base E size n : Nat} {v : Value} {xs : List Value} (h : w.ownsRow base E size v n xs) : ∀ k, v.ownBlock = some k → k < w.heap.size := fun k hk => (h.lt k hk).2

/-- Tasks and jobs that the call made. -/
def TJ (w w' : World) (ao : Option Addr) (c : Nat) (l : List Tk) (bo : Option Addr) (d : Nat) (js : List Jb) : Prop :=
  w'.ownsRow w.heap.size 64 5 (.slice ao l.length c) l.length (tks l) ∧ l.length ≤ 6 ∧ (∀ t ∈ l, Sm t) ∧ w'.ownsRow w.heap.size 26 3 (.slice bo js.length d) js.length (jbs js) ∧ js.length ≤ 61 ∧ (∀ j ∈ js, Sj j) ∧ Bw w w'
def CaseEnd (w : World) (e : Ending) (w' : World) : Prop := ∃ ao c l bo d js, e = .returned (.tuple #[.slice ao l.length c, .slice bo js.length d]) ∧ TJ w w' ao c l bo d js

set_option maxRecDepth 100000 in
set_option maxHeartbeats 6400000 in
theorem l6Case_any {w0 w : World} {v : Value} (hv : RawB w0 v) (hb : Bw w0 w) : Calls Try.prog 47 #[v] w (CaseEnd w) := by
  obtain ⟨i0, hi0, hz0, hz1, hz2⟩ := info_parts infoJob
  have HV := Lib.hid hv
  clear hv
  go_enter Try.func47, Try.ntmps47
  go_wp2_with fail
  refine (l11Open_any HV.out hb).mono ?_
  rintro e w1 ⟨rfl, hrd, hb1⟩
  have hz1' := hb1.size
  have hG := hrd.lt
  go_wp2_with fail
  refine (l1Set_any _ _ _ _ hrd (by omega)).mono ?_
  rintro e w2 ⟨ao, c, l, q, rfl, hown, hl5, hsm, hq, hd2⟩
  have hz2' := hd2.2.size
  have HSM := Lib.hid hsm
  have HR2 := Lib.hid hd2.1
  have HB2 := Lib.hid (show Bw w w2 from bw_hit hb1 hd2.2 (Nat.le_refl _))
  have HT2 := Lib.hid hown
  clear hsm hd2 hown hrd
  go_wp2_with fail
  refine (l6Jobs_any _ _ _ _ w1.heap.size c ao l HR2.out (by omega) (by omega) HT2.out (by omega) HSM.out).mono ?_
  rintro e w3 ⟨bo, d, js, q3, rfl, hj, hj60, hsj, hq3, hd3⟩
  have hz3 := hd3.2.size
  have HSJ := Lib.hid hsj
  have HR3 := Lib.hid hd3.1
  have HB3 := Lib.hid (show Bw w w3 from bw_hit HB2.out hd3.2 (Nat.le_refl _))
  have HT3 := Lib.hid (row_hit HT2.out hd3.2 (by omega))
  have HJ3 := Lib.hid hj
  have HLT := Lib.hid (row_blk HT2.out)
  clear hsj hd3 hj
  go_wp2_with fail
  refine (pick_any _ _ _ _ _ HR3.out (by omega)).mono ?_
  rintro e w4 ⟨r, rfl, hr, hd4⟩
  have hz4 := hd4.2.size
  have HR4 := Lib.hid hd4.1
  have HB4 := Lib.hid (show Bw w w4 from bw_hit HB3.out hd4.2 (Nat.le_refl _))
  have HT4 := Lib.hid (row_hit HT3.out hd4.2 (by omega))
  have HJ4 := Lib.hid (row_hit HJ3.out hd4.2 (by omega))
  clear hd4
  rcases (show r = 0 ∨ r = 1 ∨ r = 2 ∨ 3 ≤ r by omega) with h | h | h | h
  · subst h
    go_wp2_with fail
    refine (num_any _ w.heap.size w.heap.size _ w4.heap.size [0, 5, -1] 3 (HR4.out.bw (bw_alloc _ _)) (by omega) (by simp) (by simp) (by omega) (ri_lit _ (heap_alloc_new w4 _) rfl)).mono ?_
    rintro e w5 ⟨x5, rfl, hx5, hd5⟩
    have hz5 := hd5.2.size
    simp only [World.size_alloc] at hz5
    have hb5 : -1000 ≤ x5 ∧ x5 ≤ 1000 := by simp at hx5; omega
    have HR5 := Lib.hid hd5.1
    have HB5 := Lib.hid (show Bw w w5 from bw_hit (bw_trans HB4.out (bw_alloc _ _)) hd5.2 (Nat.le_refl _))
    have HT5 := Lib.hid (row_hit (HT4.out.alloc _) hd5.2 (by omega))
    have HJ5 := Lib.hid (row_hit (HJ4.out.alloc _) hd5.2 (by omega))
    clear hd5 hx5
    go_wp2_with fail
    refine (num_any _ w.heap.size w.heap.size _ w5.heap.size [50, 0, 201] 3 (HR5.out.bw (bw_alloc _ _)) (by omega) (by simp) (by simp) (by omega) (ri_lit _ (heap_alloc_new w5 _) rfl)).mono ?_
    rintro e w6 ⟨x6, rfl, hx6, hd6⟩
    have hz6 := hd6.2.size
    simp only [World.size_alloc] at hz6
    have hb6 : -1000 ≤ x6 ∧ x6 ≤ 1000 := by simp at hx6; omega
    have HR6 := Lib.hid hd6.1
    have HB6 := Lib.hid (show Bw w w6 from bw_hit (bw_trans HB5.out (bw_alloc _ _)) hd6.2 (Nat.le_refl _))
    have HT6 := Lib.hid (row_hit (HT5.out.alloc _) hd6.2 (by omega))
    have HJ6 := Lib.hid (row_hit (HJ5.out.alloc _) hd6.2 (by omega))
    clear hd6 hx6
    go_wp2_with fail
    refine (num_any _ w.heap.size w.heap.size _ w6.heap.size [1, 0, 21] 3 (HR6.out.bw (bw_alloc _ _)) (by omega) (by simp) (by simp) (by omega) (ri_lit _ (heap_alloc_new w6 _) rfl)).mono ?_
    rintro e w7 ⟨x7, rfl, hx7, hd7⟩
    have hz7 := hd7.2.size
    simp only [World.size_alloc] at hz7
    have hb7 : -1000 ≤ x7 ∧ x7 ≤ 1000 := by simp at hx7; omega
    have HR7 := Lib.hid hd7.1
    have HB7 := Lib.hid (show Bw w w7 from bw_hit (bw_trans HB6.out (bw_alloc _ _)) hd7.2 (Nat.le_refl _))
    have HT7 := Lib.hid (row_hit (HT6.out.alloc _) hd7.2 (by omega))
    have HJ7 := Lib.hid (row_hit (HJ6.out.alloc _) hd7.2 (by omega))
    clear hd7 hx7
    have HOJ := HJ7.out
    go_wp2_with (at_builtin; refine wpList_append_own _ rfl _ _ 24 rfl w2.heap.size 26 i0 zJob 3 24 Try.underlying24 hi0 hz0 hz1 hz2 rfl (by decide) _ _ _ rfl (HOJ.alloc _) ⟨w7.heap.size, 0, none⟩ 1 1 (jbCells ⟨x5, x6, x7⟩) rfl rfl (cell_job_new w7 ⟨x5, x6, x7⟩ 26) (oneJ _) (by unfold maxLen; omega) (by omega) (by simp only [World.size_alloc]; omega) ?_; intro v' w8 hown' hgrow _; obtain ⟨ao8, c8, hu⟩ := own_form hown'; subst hu)
    have hown8 : w8.ownsRow w2.heap.size 26 3 (.slice ao8 (js.length + 1) c8) (js ++ [(⟨x5, x6, x7⟩ : Jb)]).length (jbs (js ++ [(⟨x5, x6, x7⟩ : Jb)])) := by simpa [jbs] using hown'
    have hb8 : Bw w w8 := Below.grown (Below.alloc HB7.out (by omega) _) hgrow (by simp only [World.size_alloc]; omega) (fun g hg => by have := own_cap0 HOJ g hg; omega)
    have ht8 := (HT7.out.alloc (.cells #[.int .i64 x5, .int .i64 x6, .int .i64 x7] 26)).kept hgrow (by
      cases hb : (Value.slice ao l.length c).ownBlock with
      | none => exact .inl rfl
      | some k => exact .inr (fun e => by have h1 := HLT.out k hb; have h2 := own_cap0 HOJ k e.symm; omega))
    have hll : (js ++ [(⟨x5, x6, x7⟩ : Jb)]).length = js.length + 1 := by simp
    rw [← hll] at hown8
    have HSJ8 : Hid (∀ j ∈ js ++ [(⟨x5, x6, x7⟩ : Jb)], Sj j) := by
      intro j hj
      rcases List.mem_append.1 hj with hj | hj
      · exact HSJ.out j hj
      · simp at hj; subst hj; exact ⟨hb5, hb6, hb7⟩
    rw [← hll]
    have hl61 : (js ++ [(⟨x5, x6, x7⟩ : Jb)]).length ≤ 61 := by omega
    have HLL := Lib.hid hll
    clear hll
    clear hown' hgrow HOJ
    go_wp2
    go_ret2
    exact ⟨ao, c, l, ao8, c8, _, rfl, Go.Joins.ownsRow_le ht8 (by omega), by omega, HSM.out, Go.Joins.ownsRow_le hown8 (by omega), hl61, HSJ8.out, hb8⟩
  · subst h
    rcases Nat.eq_zero_or_pos js.length with h0 | h0
    · have h0b : decide (0 < js.length) = false := decide_eq_false (by omega)
      have H0 := Lib.hid h0
      clear h0
      go_wp2
      go_ret2
      exact ⟨ao, c, l, bo, d, js, rfl, Go.Joins.ownsRow_le HT4.out (by omega), by omega, HSM.out, Go.Joins.ownsRow_le HJ4.out (by omega), by omega, HSJ.out, HB4.out⟩
    · obtain ⟨g, rfl⟩ : ∃ g, bo = some ⟨g, 0, none⟩ := by
        rcases HJ4.out.2 with ⟨e0, hx⟩ | ⟨g, cap, cur0, e0, _⟩
        · omega
        · simp only [Value.slice.injEq] at e0; exact ⟨g, e0.1⟩
      have hg2 := own_cap0 HJ4.out g rfl
      go_wp2_with fail
      refine (pick_any _ _ _ _ _ HR4.out (by omega)).mono ?_
      rintro e w5 ⟨k, rfl, hk, hd5⟩
      have hkl : k < js.length := by omega
      have hz5 := hd5.2.size
      have HR5 := Lib.hid hd5.1
      have HB5 := Lib.hid (show Bw w w5 from bw_hit HB4.out hd5.2 (Nat.le_refl _))
      have HT5 := Lib.hid (row_hit HT4.out hd5.2 (by omega))
      have HJ5 := Lib.hid (row_hit HJ4.out hd5.2 (by omega))
      clear hd5
      go_wp2_with fail
      refine (num_any _ w.heap.size w.heap.size _ w5.heap.size [0, 20, 1] 3 (HR5.out.bw (bw_alloc _ _)) (by omega) (by simp) (by simp) (by omega) (ri_lit _ (heap_alloc_new w5 _) rfl)).mono ?_
      rintro e w6 ⟨x, rfl, hx, hd6⟩
      have hz6 := hd6.2.size
      simp only [World.size_alloc] at hz6
      have hxb : -1000 ≤ x ∧ x ≤ 1000 := by simp at hx; omega
      have HB6 := Lib.hid (show Bw w w6 from bw_hit (bw_trans HB5.out (bw_alloc _ _)) hd6.2 (Nat.le_refl _))
      have HT6 := Lib.hid (row_hit (HT5.out.alloc _) hd6.2 (by omega))
      have HJ6 := Lib.hid (row_hit (HJ5.out.alloc _) hd6.2 (by omega))
      clear hd6 hx
      obtain ⟨⟨j0, j1, j2⟩, hjk⟩ := getSome hkl
      have hrj := (Own.ofRow HJ6.out).rj
      obtain ⟨b, off, e, hbs, _, _, c2⟩ := hrj k _ hjk
      simp only [Option.some.injEq, Addr.mk.injEq, and_true] at e
      obtain ⟨rfl, rfl⟩ := e
      dsimp only at c2
      simp only [Nat.zero_add] at c2
      have hfz : ∀ j, w6.frozen? ⟨g, j, none⟩ = false := by
        rcases HJ6.out.2 with ⟨e0, _⟩ | ⟨g', cap, cur0, e0, _, hbk, _⟩
        · simp at e0
        · simp at e0; obtain ⟨rfl, _⟩ := e0; exact fun j => blk_free hbk j
      have HSET := Lib.hid (row_setj HJ6.out rfl hjk x)
      have hsjk := HSJ.out _ (List.mem_of_getElem? hjk)
      have HSJ3 : Hid (∀ j ∈ js.set k (⟨j0, j1, x⟩ : Jb), Sj j) := by
        intro j hj
        rcases List.mem_or_eq_of_mem_set hj with hj | rfl
        · exact HSJ.out j hj
        · exact ⟨hsjk.1, hsjk.2.1, hxb⟩
      have hTT := row_oth (j := k * 3 + 2) (u := vi x) HT6.out (g := g) (fun k' hk' => by have := HLT.out k' hk'; omega)
      have hBB := bw_set HB6.out (show w.heap.size ≤ g by omega) (k * 3 + 2) (vi x)
      have HLL : Hid ((js.set k (⟨j0, j1, x⟩ : Jb)).length = js.length) := by show _ = _; simp
      have HJK := Lib.hid hjk
      have HTT := Lib.hid hTT
      have HBB := Lib.hid hBB
      have HSJK := Lib.hid hsjk
      clear hjk hTT hBB hsjk
      clear hrj
      go_wp2
      go_ret2
      exact ⟨ao, c, l, some ⟨g, 0, none⟩, d, js.set k (⟨j0, j1, x⟩ : Jb), by rw [HLL.out]; rfl, Go.Joins.ownsRow_le HTT.out (by omega), by omega, HSM.out, by rw [HLL.out]; exact Go.Joins.ownsRow_le HSET.out (by omega), by rw [HLL.out]; omega, HSJ3.out, HBB.out⟩
  · subst h
    rcases Nat.eq_zero_or_pos l.length with h0 | h0
    · have h0b : decide (0 < l.length) = false := decide_eq_false (by omega)
      have H0 := Lib.hid h0
      clear h0
      go_wp2
      go_ret2
      exact ⟨ao, c, l, bo, d, js, rfl, Go.Joins.ownsRow_le HT4.out (by omega), by omega, HSM.out, Go.Joins.ownsRow_le HJ4.out (by omega), by omega, HSJ.out, HB4.out⟩
    · obtain ⟨g, rfl⟩ : ∃ g, ao = some ⟨g, 0, none⟩ := by
        rcases HT4.out.2 with ⟨e0, hx⟩ | ⟨g, cap, cur0, e0, _⟩
        · omega
        · simp only [Value.slice.injEq] at e0; exact ⟨g, e0.1⟩
      have hg1 := own_cap0 HT4.out g rfl
      have hg2 := HLT.out g rfl
      go_wp2_with fail
      refine (pick_any _ _ _ _ _ HR4.out (by omega)).mono ?_
      rintro e w5 ⟨k, rfl, hk, hd5⟩
      have hkl : k < l.length := by omega
      have hz5 := hd5.2.size
      have HR5 := Lib.hid hd5.1
      have HB5 := Lib.hid (show Bw w w5 from bw_hit HB4.out hd5.2 (Nat.le_refl _))
      have HT5 := Lib.hid (row_hit HT4.out hd5.2 (by omega))
      have HJ5 := Lib.hid (row_hit HJ4.out hd5.2 (by omega))
      clear hd5
      obtain ⟨⟨t0, t1, t2, t3, t4⟩, ht⟩ := getSome hkl
      have hts := HSM.out _ (List.mem_of_getElem? ht)
      obtain ⟨b, off, e, hbs, c0, c1, c2, c3, c4⟩ := (Own.ofRow HT5.out).rt k _ ht
      simp only [Option.some.injEq, Addr.mk.injEq, and_true] at e
      obtain ⟨rfl, rfl⟩ := e
      dsimp only at c0 c1 c2 c3 c4
      simp only [Nat.zero_add] at c0 c1 c2 c3 c4
      have HTK := Lib.hid ht
      have HTS := Lib.hid hts
      clear ht hts
      go_wp2_with fail
      refine (l1Wrong_any _ _ _ _ ⟨t0, t1, t2, t3, t4⟩ HR5.out (by omega) HTS.out).mono ?_
      rintro e w6 ⟨⟨u0, u1, u2, u3, u4⟩, q6, rfl, hus, hq6, hd6⟩
      have hz6 := hd6.2.size
      have HR6 := Lib.hid hd6.1
      have HB6 := Lib.hid (show Bw w w6 from bw_hit HB5.out hd6.2 (Nat.le_refl _))
      have HT6 := Lib.hid (row_hit HT5.out hd6.2 (by omega))
      have HJ6 := Lib.hid (row_hit HJ5.out hd6.2 (by omega))
      have HUS := Lib.hid hus
      clear hd6 hus c0 c1 c2 c3 c4
      go_wp2_with fail
      refine (l1Wrong_any _ _ _ _ ⟨u0, u1, u2, u3, u4⟩ HR6.out (by omega) HUS.out).mono ?_
      rintro e w7 ⟨⟨y0, y1, y2, y3, y4⟩, q7, rfl, hys, hq7, hd7⟩
      have hz7 := hd7.2.size
      have HB7 := Lib.hid (show Bw w w7 from bw_hit HB6.out hd7.2 (Nat.le_refl _))
      have HT7 := Lib.hid (row_hit HT6.out hd7.2 (by omega))
      have HJ7 := Lib.hid (row_hit HJ6.out hd7.2 (by omega))
      have HYS := Lib.hid hys
      clear hd7 hys
      obtain ⟨b, off, e, hbs', c0, c1, c2, c3, c4⟩ := (Own.ofRow HT7.out).rt k _ HTK.out
      simp only [Option.some.injEq, Addr.mk.injEq, and_true] at e
      obtain ⟨rfl, rfl⟩ := e
      dsimp only at c0 c1 c2 c3 c4
      simp only [Nat.zero_add] at c0 c1 c2 c3 c4
      have hfz : ∀ j, w7.frozen? ⟨g, j, none⟩ = false := by
        rcases HT7.out.2 with ⟨e0, _⟩ | ⟨g', cap, cur0, e0, _, hbk, _⟩
        · simp at e0
        · simp at e0; obtain ⟨rfl, _⟩ := e0; exact fun j => blk_free hbk j
      have HSET := Lib.hid (row_set HT7.out rfl HTK.out ⟨y0, y1, y2, y3, y4⟩)
      have HSM3 : Hid (∀ t ∈ l.set k (⟨y0, y1, y2, y3, y4⟩ : Tk), Sm t) := by
        intro t ht
        rcases List.mem_or_eq_of_mem_set ht with ht | rfl
        · exact HSM.out t ht
        · exact HYS.out
      have hnj : ∀ k', (Value.slice bo js.length d).ownBlock = some k' → k' ≠ g := fun k' hk' => by have := own_cap0 HJ7.out k' hk'; omega
      have hTT := row_oth (j := k * 5 + 4) (u := .bool y4) (row_oth (j := k * 5 + 3) (u := vi y3) (row_oth (j := k * 5 + 2) (u := vi y2) (row_oth (j := k * 5 + 1) (u := vi y1) (row_oth (j := k * 5) (u := vi y0) HJ7.out (g := g) hnj) hnj) hnj) hnj) hnj
      have hBB := bw_set (bw_set (bw_set (bw_set (bw_set HB7.out (show w.heap.size ≤ g by omega) (k * 5) (vi y0)) (show w.heap.size ≤ g by omega) (k * 5 + 1) (vi y1)) (show w.heap.size ≤ g by omega) (k * 5 + 2) (vi y2)) (show w.heap.size ≤ g by omega) (k * 5 + 3) (vi y3)) (show w.heap.size ≤ g by omega) (k * 5 + 4) (.bool y4)
      have HLL : Hid ((l.set k (⟨y0, y1, y2, y3, y4⟩ : Tk)).length = l.length) := by show _ = _; simp
      have HTT := Lib.hid hTT
      have HBB := Lib.hid hBB
      have HNJ := Lib.hid hnj
      clear hTT hBB hnj
      go_wp2
      go_ret2
      exact ⟨some ⟨g, 0, none⟩, c, l.set k (⟨y0, y1, y2, y3, y4⟩ : Tk), bo, d, js, by rw [HLL.out]; rfl, by rw [HLL.out]; exact Go.Joins.ownsRow_le HSET.out (by omega), by rw [HLL.out]; omega, HSM3.out, Go.Joins.ownsRow_le HTT.out (by omega), by omega, HSJ.out, HBB.out⟩
  · have h0 : ((r : Int) == 0) = false := by simp; omega
    have h1 : ((r : Int) == 1) = false := by simp; omega
    have h2 : ((r : Int) == 2) = false := by simp; omega
    clear h
    go_wp2
    go_ret2
    exact ⟨ao, c, l, bo, d, js, rfl, Go.Joins.ownsRow_le HT4.out (by omega), by omega, HSM.out, Go.Joins.ownsRow_le HJ4.out (by omega), by omega, HSJ.out, HB4.out⟩
end Go.Proofs.Ytbgfclcnddgboaa
