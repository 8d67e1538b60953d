import Derived.Test.YtnmpilmjkgdpgaaDoorGD
import Derived.Test.YtnmpilmjkgdpgaaDoorPutS
import Derived.Test.YtnmpilmjkgdpgaaDoorWorstS
import Derived.Deep.RegionHeld3
import Derived.Deep.DeepCutAuto
import Derived.Test.YtnmpilmjkgdpgaaDoorLeave

/-
  The walk of l6Jobs: jobs that are drawn are small and lie in memory of their own.
-/





namespace Go.Proofs.YtnmpilmjkgdpgaaDoor
open Go.RowKit

def Sj (j : Jb) : Prop := (-1000 ≤ j.task ∧ j.task ≤ 1000) ∧ (-1000 ≤ j.at_ ∧ j.at_ ≤ 1000) ∧ (-1000 ≤ j.need ∧ j.need ≤ 1000)
theorem wjIn_sj (hi : Bool) (t : Nat) (ht : t ≤ 200) : ∀ (l : List Tk) (i : Nat) (acc r : List Jb), i + l.length ≤ 6 → (∀ x ∈ l, Sm x) → (∀ j ∈ acc, Sj j) → wjIn hi t i l acc = some r → ∀ j ∈ r, Sj j
  | [], i, acc, r, _, _, h, e => by simp [wjIn] at e; subst e; exact h
  | x :: l, i, acc, r, hn, hs, h, e => by
    simp only [wjIn] at e
    simp only [List.length_cons] at hn
    have hx := hs x (by simp)
    split at e
    · exact wjIn_sj hi t ht l _ acc r (by omega) (fun y hy => hs y (by simp [hy])) h e
    · split at e
      · cases e
      · refine wjIn_sj hi t ht l _ _ r (by omega) (fun y hy => hs y (by simp [hy])) (fun j hj => ?_) e
        rcases List.mem_append.1 hj with hj | hj
        · exact h j hj
        · simp at hj; subst hj
          obtain ⟨⟨a, b⟩, ⟨c, d⟩, _⟩ := hx
          refine ⟨⟨by dsimp only; omega, by dsimp only; omega⟩, ⟨by dsimp only; omega, by dsimp only; omega⟩, ?_⟩
          cases hi <;> simp <;> omega
theorem wjOut_sj (hi : Bool) (l : List Tk) (hl : l.length ≤ 6) (hs : ∀ x ∈ l, Sm x) : ∀ (m t : Nat) (acc r : List Jb), t + m ≤ 200 → (∀ j ∈ acc, Sj j) → wjOut hi l m t acc = some r → ∀ j ∈ r, Sj j
  | 0, t, acc, r, _, h, e => by simp [wjOut] at e; subst e; exact h
  | m + 1, t, acc, r, ht, h, e => by
    simp only [wjOut] at e
    cases hi' : wjIn hi t 0 l acc with
    | none => rw [hi'] at e; cases e
    | some a => rw [hi'] at e; exact wjOut_sj hi l hl hs m _ a r (by omega) (wjIn_sj hi t (by omega) l 0 acc a (by omega) hs h hi') e
theorem worst_sj (l : List Tk) (u : Int) (hi : Bool) (hl : l.length ≤ 6) (hs : ∀ x ∈ l, Sm x) : ∀ j ∈ (worst l u hi).1, Sj j := by
  unfold worst
  split
  · rename_i h
    cases e : wjOut hi l u.toNat 0 [] with
    | none => intro j hj; simp [optJ] at hj
    | some a => exact wjOut_sj hi l hl hs _ _ _ a (by omega) (by simp) e
  · intro j hj; simp at hj
theorem put_sj (l : List Tk) (js : List Jb) (x : Jb) (h : ∀ j ∈ js, Sj j) (hx : Sj x) : ∀ j ∈ (putJ l js x).1, Sj j := by
  unfold putJ
  split
  · intro j hj
    rcases (insJ_mem x js j).1 hj with rfl | hj
    · exact hx
    · exact h j hj
  · intro j hj; simp at hj

theorem cell_far {w : World} {g h i j : Nat} {v u : Value} (hc : w.cell? ⟨g, i, none⟩ = some v) (hne : g ≠ h) : (w.setCell ⟨h, j, none⟩ u).cell? ⟨g, i, none⟩ = some v :=
  (World.cell?_setCell_other w _ _ _ (fun e => hne (by injection e with e1 _ _; exact e1.symm))).trans hc
theorem worst_specR {w : World} {v : Value} {l : List Tk} (hl : ST w v l) (u : Int) (hi : Bool) : Calls Tryd.prog 13 #[v, .int .i64 u, .bool hi] w (RetP w 41 3 (jbs (worst l u hi).1) (worst l u hi).1.length (worst l u hi).2) := by
  obtain ⟨⟨ao, c, rfl, hr, _⟩, hn⟩ := hl
  cases hi
  · exact WorstJobs_spec_false ao c w l u hn hr
  · exact WorstJobs_spec_true ao c w l u hn hr

def JobsEnd (K : Nat) (w : World) (base G p : Nat) (e : Ending) (w' : World) : Prop := ∃ (ao : Option Addr) (c : Nat) (l : List Jb) (q : Nat), e = .returned (.slice ao l.length c) ∧ w'.ownsRow w.heap.size 41 3 (.slice ao l.length c) l.length (jbs l) ∧ l.length ≤ 60 ∧ (∀ t ∈ l, Sj t) ∧ q ≤ p + K ∧ Dr w w' base G q

set_option maxRecDepth 100000 in
set_option maxHeartbeats 3200000 in
theorem l6Jobs_any (w : World) (base G p B c : Nat) (ao : Option Addr) (l : List Tk) (hr : Rd w base G p) (hp : p ≤ 600000) (hB : G < B) (hrow : w.ownsRow B 60 5 (.slice ao l.length c) l.length (tks l)) (hl6 : l.length ≤ 6) (hsm : ∀ t ∈ l, Sm t) :
    Calls Tryd.prog 52 #[.pointer (some ⟨G, 0, none⟩), .slice ao l.length c] w (JobsEnd 100 w base G p) := by
  have hG := hr.lt
  have hbG := hr.1
  have hl : l.length ≤ 1048576 := by omega
  have HR := Lib.hid hr
  have HROW := Lib.hid hrow
  have HSM := Lib.hid hsm
  clear hr hrow hsm
  go_enter Tryd.func52, Tryd.ntmps52
  go_wp2_with fail
  refine (pick_any _ base G p _ (HR.out.bw (bw_alloc _ _)) (by omega)).mono ?_
  rintro e w1 ⟨r, rfl, hr1, hd1⟩
  have hz1 := hd1.2.size
  simp only [World.size_alloc] at hz1
  have HR1 := Lib.hid hd1.1
  have HH1 := Lib.hid (HitR.trans (hitR_alloc (HitR.refl G (G + 1) w) _) hd1.2)
  have HROW1 := Lib.hid (row_hit (HROW.out.alloc _) hd1.2 (by omega))
  have HOW1 := Lib.hid (row_hit (World.ownsRow_made (base := w.heap.size) (e := 41) (size := 3) w #[] 0 (Nat.le_refl _) (by simp) rfl) hd1.2 (by omega))
  clear hd1
  by_cases h0 : r = 0
  · subst h0
    go_wp2_with fail
    refine (num_any _ base G _ w1.heap.size [20, 10, 40, 5] 4 (HR1.out.bw (bw_alloc _ _)) (by omega) (by simp) (by simp) (by omega) (ri_lit _ (heap_alloc_new w1 _) rfl)).mono ?_
    rintro e w2 ⟨x, rfl, hx, hd2⟩
    have hz2 := hd2.2.size
    simp only [World.size_alloc] at hz2
    have HH2 := Lib.hid (HitR.trans (hitR_alloc HH1.out _) hd2.2)
    have HROW2 := Lib.hid (row_hit (HROW1.out.alloc _) hd2.2 (by omega))
    have HR2 := Lib.hid hd2.1
    clear hd2 hx
    go_wp2_with fail
    refine (pick_any _ base G _ _ HR2.out (by omega)).mono ?_
    rintro e w3 ⟨r3, rfl, hr3, hd3⟩
    have hz3 := hd3.2.size
    have HH3 := Lib.hid (HitR.trans HH2.out hd3.2)
    have HROW3 := Lib.hid (row_hit HROW2.out hd3.2 (by omega))
    have HR3 := Lib.hid hd3.1
    clear hd3
    obtain ⟨g, hg⟩ : ∃ g, ((r3 : Int) == 0) = g := ⟨_, rfl⟩
    go_wp2_with fail
    refine (worst_specR (st_row HROW3.out hl) x g).mono ?_
    rintro e w4 ⟨a4, c4, rfl, h4, hb4⟩
    have hz4 := hb4.size
    have HSJ := Lib.hid (worst_sj l x g hl6 HSM.out)
    have HLN := Lib.hid (worst_len l x g)
    have HH4 := Lib.hid (HH3.out.trans (HitR.of_bw hb4))
    have HR4 := Lib.hid (HR3.out.bw hb4)
    clear hg hb4
    go_wp2
    go_ret
    exact ⟨a4, c4, _, _, rfl, Go.Joins.ownsRow_le h4 (by omega), HLN.out, HSJ.out, by omega, HR4.out, HH4.out⟩
  · have h0b : ((r : Int) == 0) = false := by simp; omega
    clear h0
    go_wp2_with fail
    refine (num_any _ base G _ w1.heap.size [8, 5, 12, 3, 20, 0] 6 (HR1.out.bw (bw_alloc _ _)) (by omega) (by simp) (by simp) (by omega) (ri_lit _ (heap_alloc_new w1 _) rfl)).mono ?_
    rintro e w2 ⟨x, rfl, hx, hd2⟩
    have hz2 := hd2.2.size
    simp only [World.size_alloc] at hz2
    have HH2 := Lib.hid (HitR.trans (hitR_alloc HH1.out _) hd2.2)
    have HROW2 := Lib.hid (row_hit (HROW1.out.alloc _) hd2.2 (by omega))
    have HOW2 := Lib.hid (row_hit (HOW1.out.alloc _) hd2.2 (by omega))
    have HR2 := Lib.hid hd2.1
    obtain ⟨n, rfl, hn⟩ : ∃ n : Nat, x = n ∧ n ≤ 20 := by
      have : 0 ≤ x ∧ x ≤ 20 := by simp at hx; omega
      exact ⟨x.toNat, by omega, by omega⟩
    clear hd2 hx h0b
    go_wp2
    go_loopw [5, 6] (fun u i wr => ∃ (k : Nat) (js : List Jb) (bo : Option Addr) (d q : Nat), k ≤ 20 ∧ u = .slice bo js.length d ∧ i = .int .i64 k ∧ q + 3 * k ≤ p + 70 ∧ Hid (wr.ownsRow w.heap.size 41 3 (.slice bo js.length d) js.length (jbs js)) ∧ js.length ≤ 60 ∧ Hid (∀ t ∈ js, Sj t) ∧ Hid (Rd wr base G q) ∧ Hid (HitR G (G + 1) w wr) ∧ Hid (wr.ownsRow B 60 5 (.slice ao l.length c) l.length (tks l))) (fun _ i _ => (intOf i).toNat)
    case atStart => exact ⟨n, [], _, _, _, hn, rfl, rfl, by omega, HOW2.out, by simp, by intro t ht; simp at ht, HR2.out, HH2.out, HROW2.out⟩
    case round =>
      obtain ⟨k, js, bo, d, q, hk, rfl, rfl, hq, hown, hjl, hsj, hrd, hh, hrw⟩ := hrel
      have hz := hh.out.size
      rcases Nat.eq_zero_or_pos k with hk0 | hk0
      · subst hk0
        have hlt0 : decide ((0 : Int) < 0) = false := by simp
        go_wp2
        go_ret
        exact ⟨bo, d, js, q, rfl, hown.out, hjl, hsj.out, by omega, hrd.out, hh.out⟩
      · rcases Nat.eq_zero_or_pos l.length with hl0 | hl0
        · have hlb : decide (0 < l.length) = false := decide_eq_false (by omega)
          have hkp : (0 : Int) < k := by omega
          have HL0 := Lib.hid hl0
          clear hl0
          go_wp2
          go_ret
          exact ⟨bo, d, js, q, rfl, hown.out, hjl, hsj.out, by omega, hrd.out, hh.out⟩
        · obtain ⟨k, rfl⟩ : ∃ m, k = m + 1 := ⟨k - 1, by omega⟩
          obtain ⟨g, rfl⟩ : ∃ g, ao = some ⟨g, 0, none⟩ := by
            rcases hrw.out.2 with ⟨e0, hx⟩ | ⟨g, cap, cur0, e0, _⟩
            · omega
            · simp only [Value.slice.injEq] at e0; exact ⟨g, e0.1⟩
          have hgB := own_cap0 hrw.out g rfl
          go_wp2_with fail
          refine (pick_any _ base G _ _ hrd.out (by omega)).mono ?_
          rintro e w3 ⟨ix, rfl, hix, hd3⟩
          have hixl : ix < l.length := by omega
          have hz3 := hd3.2.size
          have HR3 := Lib.hid hd3.1
          have HH3 := Lib.hid (hh.out.trans hd3.2)
          have HRW3 := Lib.hid (row_hit hrw.out hd3.2 (by omega))
          have HOW3 := Lib.hid (row_hit hown.out hd3.2 (by omega))
          clear hd3
          obtain ⟨t, ht⟩ := getSome hixl
          obtain ⟨_, ⟨th0, th1⟩, _⟩ := HSM.out _ (List.mem_of_getElem? ht)
          obtain ⟨b, off, e, hbs, _, c1, _⟩ := (Own.ofRow HRW3.out).rt ix _ ht
          simp only [Option.some.injEq, Addr.mk.injEq, and_true] at e
          obtain ⟨rfl, rfl⟩ := e
          simp only [Nat.zero_add] at c1
          have HT := Lib.hid ht
          clear ht
          have hG3 := HR3.out.lt
          go_upto_region 9 with fail
          go_cut [8] (fun u wc => ∃ (h : Nat) (a m : Int), u = .pointer (some ⟨h, 0, none⟩) ∧ Hid (wc.heap[h]? = some (.cells #[.int .i64 ix, .int .i64 a, .int .i64 m] 41 (0, 0))) ∧ (0 ≤ a ∧ a ≤ 30 ∧ 1 ≤ m ∧ m ≤ 101) ∧ Hid (Rd wc base G (q + 1 + 1 + 1)) ∧ Hid (HitR G (G + 1) w3 wc))
          case first =>
            have tok0 : True := trivial
            have tok1 : True := trivial
            go_region_with (first | (go_at_call 28; have _t := tok0; refine (pick_any _ base G _ _ (by first | exact HR3.out.bw (bw_drew _) | exact (HR3.out.bw (bw_alloc _ _)).bw (bw_drew _)) (by omega)).mono ?_; rintro e wA ⟨rA, rfl, hrA, hdA⟩; clear tok0; have c1' := cell_hit hdA.2 (by first | exact c1 | exact cell_bw (bw_alloc _ _) c1) (.inr (by omega)); have hzA : w3.heap.size ≤ wA.heap.size := (by first | exact hdA.2.size | exact Nat.le_trans (Nat.le_succ _) (by have := hdA.2.size; simpa using this)); have hgA : g < wA.heap.size := (by omega); have HHA : Hid (HitR G (G + 1) w3 wA) := (by first | exact (HitR.of_bw (bw_drew _)).trans hdA.2 | exact (HitR.of_bw (bw_trans (bw_alloc _ _) (bw_drew _))).trans hdA.2); try (have eA := blk_hit hdA.2 (heap_alloc_new w3 (.cells #[.int .i64 0, .int .i64 0, .int .i64 0] 41)) (.inr (show G + 1 ≤ w3.heap.size by omega)); have HEA := Lib.hid eA; clear eA)) | (go_at_call 28; have _t := tok1; refine (pick_any _ base G _ _ (by first | exact hdA.1 | exact hdA.1.bw (bw_alloc _ _)) (by omega)).mono ?_; rintro e wB ⟨rB, rfl, hrB, hdB⟩; clear tok1; have hrB1 : (rB : Int) ≤ 100 := (by omega); have hw9 := IntWalk.i64_in (1 + (rB : Int)) (by omega); have hzB : wA.heap.size ≤ wB.heap.size := (by first | exact hdB.2.size | exact Nat.le_trans (Nat.le_succ _) (by have := hdB.2.size; simpa using this)); have hgB : g < wB.heap.size := (by omega); have HHB : Hid (HitR G (G + 1) w3 wB) := (by first | exact HHA.out.trans hdB.2 | exact (hitR_alloc HHA.out _).trans hdB.2); first | (have eB := blk_hit hdB.2 HEA.out (.inr (by omega)); have HEB := Lib.hid eB; have f0 := blk_cell eB 0 rfl; have f1 := blk_cell eB 1 rfl; have f2 := blk_cell eB 2 rfl; have ff := fun j => blk_free eB j; clear eB) | (have eB := blk_hit hdB.2 (heap_alloc_new wA (.cells #[.int .i64 0, .int .i64 0, .int .i64 0] 41)) (.inr (by omega)); have HEB := Lib.hid eB; have f0 := blk_cell eB 0 rfl; have f1 := blk_cell eB 1 rfl; have f2 := blk_cell eB 2 rfl; have ff := fun j => blk_free eB j; clear eB) | skip))
            all_goals go_wp2_with fail
            all_goals go_meet
            all_goals first
              | exact ⟨wB.heap.size, rA, 1 + rB, rfl, heap_alloc_new wB _, ⟨by omega, by omega, by omega, by omega⟩, hdB.1.bw (bw_alloc _ _), hitR_alloc HHB.out _⟩
              | exact ⟨_, rA, 1 + rB, rfl, blk_set (blk_set (blk_set HEB.out 0 (vi ix)) 1 (vi rA)) 2 (vi (1 + (rB : Int))), ⟨by omega, by omega, by omega, by omega⟩, Rd.set (Rd.set (Rd.set hdB.1 (by omega) (by omega) _ _) (by omega) (by omega) _ _) (by omega) (by omega) _ _, hitR_own (hitR_own (hitR_own HHB.out (by omega) _ _) (by omega) _ _) (by omega) _ _⟩
          case rest =>
            obtain ⟨h, a, m, rfl, HJB, ⟨ha0, ha1, hm0, hm1⟩, HR4, HH4⟩ := hcut
            have hz4 := HH4.out.size
            have e0 := blk_cell HJB.out 0 rfl
            have e1 := blk_cell HJB.out 1 rfl
            have e2 := blk_cell HJB.out 2 rfl
            have hjm : js.length ≤ 1048576 := by omega
            have HOW4 := Lib.hid (row_hit HOW3.out HH4.out (by omega))
            have HRW4 := Lib.hid (row_hit HRW3.out HH4.out (by omega))
            go_wp2_with fail
            refine (put_specR (st_row HRW4.out hl) (sj_row HOW4.out hjm) ix a m).mono ?_
            rintro e w5 ⟨a5, c5, rfl, h5, hb5⟩
            have hz5 := hb5.size
            have HR5 := Lib.hid (HR4.out.bw hb5)
            have HH5 := Lib.hid ((HH3.out.trans HH4.out).trans (HitR.of_bw hb5))
            have HRW5 := Lib.hid (row_bw HRW4.out hb5)
            have HOW5 := Lib.hid (row_bw HOW4.out hb5)
            have HLEN := Lib.hid (Nat.le_trans (putJ_len l js ⟨ix, a, m⟩) (Nat.le_refl 60))
            have HSJ := Lib.hid (put_sj l js ⟨ix, a, m⟩ hsj.out ⟨⟨by dsimp only; omega, by dsimp only; omega⟩, ⟨by dsimp only; omega, by dsimp only; omega⟩, ⟨by dsimp only; omega, by dsimp only; omega⟩⟩)
            obtain ⟨o, HO⟩ : ∃ o, Hid ((putJ l js ⟨ix, a, m⟩).2 = o) := ⟨_, rfl⟩
            rw [HO.out]
            have HOW6 := Lib.hid (Go.Joins.ownsRow_le h5 (show w.heap.size ≤ wc.heap.size by omega))
            clear e0 e1 e2 hb5 h5
            cases o with
            | true =>
              go_wp2
              go_roundw
              case rel => exact ⟨k, _, _, _, _, by omega, rfl, by go_num, by omega, HOW6.out, HLEN.out, HSJ.out, HR5.out, HH5.out, HRW5.out⟩
              case measure => simp [intOf]
            | false =>
              go_wp2
              go_roundw
              case rel => exact ⟨k, js, bo, d, _, by omega, rfl, by go_num, by omega, HOW5.out, hjl, hsj.out, HR5.out, HH5.out, HRW5.out⟩
              case measure => simp [intOf]
end Go.Proofs.YtnmpilmjkgdpgaaDoor

/-
  The walk of l6Case and of the draws that hand it on.
-/


namespace Go.Proofs.YtnmpilmjkgdpgaaDoor
open Go.RowKit

theorem row_oth {w : World} {base E size n g j : Nat} {v u : Value} {xs : List Value} (h : w.ownsRow base E size v n xs) (hne : ∀ k, v.ownBlock = some k → k ≠ g) : (w.setCell ⟨g, j, none⟩ u).ownsRow base E size v n xs := by
  refine h.kept (row := some g) ⟨rfl, rfl, rfl, by simp, fun k hk hx => by rw [Below.heap_setCell _ _ _ _ (fun e => hx (by simp [e]))]⟩ ?_
  cases hb : v.ownBlock with
  | none => exact .inl rfl
  | some k => exact .inr (fun e => hne k hb (by simpa using e))
theorem set_j {cur : Array Value} {A B : List Jb} {t : Jb} {n : Nat} (h : cur.toList.take n = jbs (A ++ t :: B)) (x : Int) :
    (cur.setIfInBounds (A.length * 3 + 2) (vi x)).toList.take n = jbs (A ++ (⟨t.task, t.at_, x⟩ : Jb) :: B) := by
  simp only [Array.toList_setIfInBounds, List.take_set, h]
  have e : jbs (A ++ t :: B) = jbs A ++ ([vi t.task, vi t.at_, vi t.need] ++ jbs B) := by simp [jbs, jbCells]
  have e2 : jbs (A ++ (⟨t.task, t.at_, x⟩ : Jb) :: B) = jbs A ++ ([vi t.task, vi t.at_, vi x] ++ jbs B) := by simp [jbs, jbCells]
  rw [e, e2, List.set_append_right _ _ (by rw [jbs_length]; omega), jbs_length, show A.length * 3 + 2 - A.length * 3 = 2 by omega]
  rfl
theorem row_setj {w : World} {base g c n : Nat} {l : List Jb} (h : w.ownsRow base 41 3 (.slice (some ⟨g, 0, none⟩) n c) n (jbs l)) (hn : n = l.length) {k : Nat} {t : Jb} (ht : l[k]? = some t) (x : Int) :
    (w.setCell ⟨g, k * 3 + 2, none⟩ (vi x)).ownsRow base 41 3 (.slice (some ⟨g, 0, none⟩) n c) n (jbs (l.set k ⟨t.task, t.at_, x⟩)) := by
  have hk : k < l.length := (List.getElem?_eq_some_iff.1 ht).1
  have hA : (l.take k).length = k := by rw [List.length_take]; omega
  have hs : l.set k ⟨t.task, t.at_, x⟩ = l.take k ++ ⟨t.task, t.at_, x⟩ :: l.drop (k + 1) := by rw [List.set_eq_take_append_cons_drop, if_pos hk]
  rw [hs]
  rcases h.2 with ⟨e, _⟩ | ⟨g', cap, cur, e, hg, hh, a1, a2, a3, a4⟩
  · simp at e
  · simp at e; obtain ⟨rfl, rfl⟩ := e
    rw [split_at ht] at a4
    have hst := set_j a4 x
    rw [hA] at hst
    exact ⟨by rw [jbs_length]; simp; omega, .inr ⟨g, c, _, rfl, hg, blk_set hh (k * 3 + 2) (vi x), a1, a2, by simpa using a3, hst⟩⟩
theorem row_blk {w : World} {base E size n : Nat} {v : Value} {xs : List Value} (h : w.ownsRow base E size v n xs) : ∀ k, v.ownBlock = some k → k < w.heap.size := fun k hk => (h.lt k hk).2

/-- Tasks and jobs that the call made. -/
def TJ (w w' : World) (ao : Option Addr) (c : Nat) (l : List Tk) (bo : Option Addr) (d : Nat) (js : List Jb) : Prop :=
  w'.ownsRow w.heap.size 60 5 (.slice ao l.length c) l.length (tks l) ∧ l.length ≤ 6 ∧ (∀ t ∈ l, Sm t) ∧ w'.ownsRow w.heap.size 41 3 (.slice bo js.length d) js.length (jbs js) ∧ js.length ≤ 61 ∧ (∀ j ∈ js, Sj j) ∧ Bw w w'
def CaseEnd (w : World) (e : Ending) (w' : World) : Prop := ∃ ao c l bo d js, e = .returned (.tuple #[.slice ao l.length c, .slice bo js.length d]) ∧ TJ w w' ao c l bo d js

set_option maxRecDepth 100000 in
set_option maxHeartbeats 6400000 in
theorem l6Case_any {w0 w : World} {v : Value} (hv : RawB w0 v) (hb : Bw w0 w) : Calls Tryd.prog 34 #[v] w (CaseEnd w) := by
  obtain ⟨i0, hi0, hz0, hz1, hz2⟩ := info_parts infoJob
  have HV := Lib.hid hv
  clear hv
  go_enter Tryd.func34, Tryd.ntmps34
  go_wp2_with fail
  refine (l11Open_any HV.out hb).mono ?_
  rintro e w1 ⟨rfl, hrd, hb1⟩
  have hz1' := hb1.size
  have hG := hrd.lt
  go_wp2_with fail
  refine (l1Set_any _ _ _ _ hrd (by omega)).mono ?_
  rintro e w2 ⟨ao, c, l, q, rfl, hown, hl5, hsm, hq, hd2⟩
  have hz2' := hd2.2.size
  have HSM := Lib.hid hsm
  have HR2 := Lib.hid hd2.1
  have HB2 := Lib.hid (show Bw w w2 from bw_hit hb1 hd2.2 (Nat.le_refl _))
  have HT2 := Lib.hid hown
  clear hsm hd2 hown hrd
  go_wp2_with fail
  refine (l6Jobs_any _ _ _ _ w1.heap.size c ao l HR2.out (by omega) (by omega) HT2.out (by omega) HSM.out).mono ?_
  rintro e w3 ⟨bo, d, js, q3, rfl, hj, hj60, hsj, hq3, hd3⟩
  have hz3 := hd3.2.size
  have HSJ := Lib.hid hsj
  have HR3 := Lib.hid hd3.1
  have HB3 := Lib.hid (show Bw w w3 from bw_hit HB2.out hd3.2 (Nat.le_refl _))
  have HT3 := Lib.hid (row_hit HT2.out hd3.2 (by omega))
  have HJ3 := Lib.hid hj
  have HLT := Lib.hid (row_blk HT2.out)
  clear hsj hd3 hj
  go_wp2_with fail
  refine (pick_any _ _ _ _ _ HR3.out (by omega)).mono ?_
  rintro e w4 ⟨r, rfl, hr, hd4⟩
  have hz4 := hd4.2.size
  have HR4 := Lib.hid hd4.1
  have HB4 := Lib.hid (show Bw w w4 from bw_hit HB3.out hd4.2 (Nat.le_refl _))
  have HT4 := Lib.hid (row_hit HT3.out hd4.2 (by omega))
  have HJ4 := Lib.hid (row_hit HJ3.out hd4.2 (by omega))
  clear hd4
  rcases (show r = 0 ∨ r = 1 ∨ r = 2 ∨ 3 ≤ r by omega) with h | h | h | h
  · subst h
    go_wp2_with fail
    refine (num_any _ w.heap.size w.heap.size _ w4.heap.size [0, 5, -1] 3 (HR4.out.bw (bw_alloc _ _)) (by omega) (by simp) (by simp) (by omega) (ri_lit _ (heap_alloc_new w4 _) rfl)).mono ?_
    rintro e w5 ⟨x5, rfl, hx5, hd5⟩
    have hz5 := hd5.2.size
    simp only [World.size_alloc] at hz5
    have hb5 : -1000 ≤ x5 ∧ x5 ≤ 1000 := by simp at hx5; omega
    have HR5 := Lib.hid hd5.1
    have HB5 := Lib.hid (show Bw w w5 from bw_hit (bw_trans HB4.out (bw_alloc _ _)) hd5.2 (Nat.le_refl _))
    have HT5 := Lib.hid (row_hit (HT4.out.alloc _) hd5.2 (by omega))
    have HJ5 := Lib.hid (row_hit (HJ4.out.alloc _) hd5.2 (by omega))
    clear hd5 hx5
    go_wp2_with fail
    refine (num_any _ w.heap.size w.heap.size _ w5.heap.size [50, 0, 201] 3 (HR5.out.bw (bw_alloc _ _)) (by omega) (by simp) (by simp) (by omega) (ri_lit _ (heap_alloc_new w5 _) rfl)).mono ?_
    rintro e w6 ⟨x6, rfl, hx6, hd6⟩
    have hz6 := hd6.2.size
    simp only [World.size_alloc] at hz6
    have hb6 : -1000 ≤ x6 ∧ x6 ≤ 1000 := by simp at hx6; omega
    have HR6 := Lib.hid hd6.1
    have HB6 := Lib.hid (show Bw w w6 from bw_hit (bw_trans HB5.out (bw_alloc _ _)) hd6.2 (Nat.le_refl _))
    have HT6 := Lib.hid (row_hit (HT5.out.alloc _) hd6.2 (by omega))
    have HJ6 := Lib.hid (row_hit (HJ5.out.alloc _) hd6.2 (by omega))
    clear hd6 hx6
    go_wp2_with fail
    refine (num_any _ w.heap.size w.heap.size _ w6.heap.size [1, 0, 21] 3 (HR6.out.bw (bw_alloc _ _)) (by omega) (by simp) (by simp) (by omega) (ri_lit _ (heap_alloc_new w6 _) rfl)).mono ?_
    rintro e w7 ⟨x7, rfl, hx7, hd7⟩
    have hz7 := hd7.2.size
    simp only [World.size_alloc] at hz7
    have hb7 : -1000 ≤ x7 ∧ x7 ≤ 1000 := by simp at hx7; omega
    have HR7 := Lib.hid hd7.1
    have HB7 := Lib.hid (show Bw w w7 from bw_hit (bw_trans HB6.out (bw_alloc _ _)) hd7.2 (Nat.le_refl _))
    have HT7 := Lib.hid (row_hit (HT6.out.alloc _) hd7.2 (by omega))
    have HJ7 := Lib.hid (row_hit (HJ6.out.alloc _) hd7.2 (by omega))
    clear hd7 hx7
    have HOJ := HJ7.out
    go_wp2_with (at_builtin; refine wpList_append_own _ rfl _ _ 22 rfl w2.heap.size 41 i0 zJob 3 24 Tryd.underlying22 hi0 hz0 hz1 hz2 rfl (by decide) _ _ _ rfl (HOJ.alloc _) ⟨w7.heap.size, 0, none⟩ 1 1 (jbCells ⟨x5, x6, x7⟩) rfl rfl (cell_job_new w7 ⟨x5, x6, x7⟩ 41) (oneJ _) (by unfold maxLen; omega) (by omega) (by simp only [World.size_alloc]; omega) ?_; intro v' w8 hown' hgrow _; obtain ⟨ao8, c8, hu⟩ := own_form hown'; subst hu)
    have hown8 : w8.ownsRow w2.heap.size 41 3 (.slice ao8 (js.length + 1) c8) (js ++ [(⟨x5, x6, x7⟩ : Jb)]).length (jbs (js ++ [(⟨x5, x6, x7⟩ : Jb)])) := by simpa [jbs] using hown'
    have hb8 : Bw w w8 := Below.grown (Below.alloc HB7.out (by omega) _) hgrow (by simp only [World.size_alloc]; omega) (fun g hg => by have := own_cap0 HOJ g hg; omega)
    have ht8 := (HT7.out.alloc (.cells #[.int .i64 x5, .int .i64 x6, .int .i64 x7] 41)).kept hgrow (by
      cases hb : (Value.slice ao l.length c).ownBlock with
      | none => exact .inl rfl
      | some k => exact .inr (fun e => by have h1 := HLT.out k hb; have h2 := own_cap0 HOJ k e.symm; omega))
    have hll : (js ++ [(⟨x5, x6, x7⟩ : Jb)]).length = js.length + 1 := by simp
    rw [← hll] at hown8
    have HSJ8 : Hid (∀ j ∈ js ++ [(⟨x5, x6, x7⟩ : Jb)], Sj j) := by
      intro j hj
      rcases List.mem_append.1 hj with hj | hj
      · exact HSJ.out j hj
      · simp at hj; subst hj; exact ⟨hb5, hb6, hb7⟩
    rw [← hll]
    have hl61 : (js ++ [(⟨x5, x6, x7⟩ : Jb)]).length ≤ 61 := by omega
    have HLL := Lib.hid hll
    clear hll
    clear hown' hgrow HOJ
    go_wp2
    go_ret2
    exact ⟨ao, c, l, ao8, c8, _, rfl, Go.Joins.ownsRow_le ht8 (by omega), by omega, HSM.out, Go.Joins.ownsRow_le hown8 (by omega), hl61, HSJ8.out, hb8⟩
  · subst h
    rcases Nat.eq_zero_or_pos js.length with h0 | h0
    · have h0b : decide (0 < js.length) = false := decide_eq_false (by omega)
      have H0 := Lib.hid h0
      clear h0
      go_wp2
      go_ret2
      exact ⟨ao, c, l, bo, d, js, rfl, Go.Joins.ownsRow_le HT4.out (by omega), by omega, HSM.out, Go.Joins.ownsRow_le HJ4.out (by omega), by omega, HSJ.out, HB4.out⟩
    · obtain ⟨g, rfl⟩ : ∃ g, bo = some ⟨g, 0, none⟩ := by
        rcases HJ4.out.2 with ⟨e0, hx⟩ | ⟨g, cap, cur0, e0, _⟩
        · omega
        · simp only [Value.slice.injEq] at e0; exact ⟨g, e0.1⟩
      have hg2 := own_cap0 HJ4.out g rfl
      go_wp2_with fail
      refine (pick_any _ _ _ _ _ HR4.out (by omega)).mono ?_
      rintro e w5 ⟨k, rfl, hk, hd5⟩
      have hkl : k < js.length := by omega
      have hz5 := hd5.2.size
      have HR5 := Lib.hid hd5.1
      have HB5 := Lib.hid (show Bw w w5 from bw_hit HB4.out hd5.2 (Nat.le_refl _))
      have HT5 := Lib.hid (row_hit HT4.out hd5.2 (by omega))
      have HJ5 := Lib.hid (row_hit HJ4.out hd5.2 (by omega))
      clear hd5
      go_wp2_with fail
      refine (num_any _ w.heap.size w.heap.size _ w5.heap.size [0, 20, 1] 3 (HR5.out.bw (bw_alloc _ _)) (by omega) (by simp) (by simp) (by omega) (ri_lit _ (heap_alloc_new w5 _) rfl)).mono ?_
      rintro e w6 ⟨x, rfl, hx, hd6⟩
      have hz6 := hd6.2.size
      simp only [World.size_alloc] at hz6
      have hxb : -1000 ≤ x ∧ x ≤ 1000 := by simp at hx; omega
      have HB6 := Lib.hid (show Bw w w6 from bw_hit (bw_trans HB5.out (bw_alloc _ _)) hd6.2 (Nat.le_refl _))
      have HT6 := Lib.hid (row_hit (HT5.out.alloc _) hd6.2 (by omega))
      have HJ6 := Lib.hid (row_hit (HJ5.out.alloc _) hd6.2 (by omega))
      clear hd6 hx
      obtain ⟨⟨j0, j1, j2⟩, hjk⟩ := getSome hkl
      have hrj := (Own.ofRow HJ6.out).rj
      obtain ⟨b, off, e, hbs, _, _, c2⟩ := hrj k _ hjk
      simp only [Option.some.injEq, Addr.mk.injEq, and_true] at e
      obtain ⟨rfl, rfl⟩ := e
      dsimp only at c2
      simp only [Nat.zero_add] at c2
      have hfz : ∀ j, w6.frozen? ⟨g, j, none⟩ = false := by
        rcases HJ6.out.2 with ⟨e0, _⟩ | ⟨g', cap, cur0, e0, _, hbk, _⟩
        · simp at e0
        · simp at e0; obtain ⟨rfl, _⟩ := e0; exact fun j => blk_free hbk j
      have HSET := Lib.hid (row_setj HJ6.out rfl hjk x)
      have hsjk := HSJ.out _ (List.mem_of_getElem? hjk)
      have HSJ3 : Hid (∀ j ∈ js.set k (⟨j0, j1, x⟩ : Jb), Sj j) := by
        intro j hj
        rcases List.mem_or_eq_of_mem_set hj with hj | rfl
        · exact HSJ.out j hj
        · exact ⟨hsjk.1, hsjk.2.1, hxb⟩
      have hTT := row_oth (j := k * 3 + 2) (u := vi x) HT6.out (g := g) (fun k' hk' => by have := HLT.out k' hk'; omega)
      have hBB := bw_set HB6.out (show w.heap.size ≤ g by omega) (k * 3 + 2) (vi x)
      have HLL : Hid ((js.set k (⟨j0, j1, x⟩ : Jb)).length = js.length) := by show _ = _; simp
      have HJK := Lib.hid hjk
      have HTT := Lib.hid hTT
      have HBB := Lib.hid hBB
      have HSJK := Lib.hid hsjk
      clear hjk hTT hBB hsjk
      clear hrj
      go_wp2
      go_ret2
      exact ⟨ao, c, l, some ⟨g, 0, none⟩, d, js.set k (⟨j0, j1, x⟩ : Jb), by rw [HLL.out]; rfl, Go.Joins.ownsRow_le HTT.out (by omega), by omega, HSM.out, by rw [HLL.out]; exact Go.Joins.ownsRow_le HSET.out (by omega), by rw [HLL.out]; omega, HSJ3.out, HBB.out⟩
  · subst h
    rcases Nat.eq_zero_or_pos l.length with h0 | h0
    · have h0b : decide (0 < l.length) = false := decide_eq_false (by omega)
      have H0 := Lib.hid h0
      clear h0
      go_wp2
      go_ret2
      exact ⟨ao, c, l, bo, d, js, rfl, Go.Joins.ownsRow_le HT4.out (by omega), by omega, HSM.out, Go.Joins.ownsRow_le HJ4.out (by omega), by omega, HSJ.out, HB4.out⟩
    · obtain ⟨g, rfl⟩ : ∃ g, ao = some ⟨g, 0, none⟩ := by
        rcases HT4.out.2 with ⟨e0, hx⟩ | ⟨g, cap, cur0, e0, _⟩
        · omega
        · simp only [Value.slice.injEq] at e0; exact ⟨g, e0.1⟩
      have hg1 := own_cap0 HT4.out g rfl
      have hg2 := HLT.out g rfl
      go_wp2_with fail
      refine (pick_any _ _ _ _ _ HR4.out (by omega)).mono ?_
      rintro e w5 ⟨k, rfl, hk, hd5⟩
      have hkl : k < l.length := by omega
      have hz5 := hd5.2.size
      have HR5 := Lib.hid hd5.1
      have HB5 := Lib.hid (show Bw w w5 from bw_hit HB4.out hd5.2 (Nat.le_refl _))
      have HT5 := Lib.hid (row_hit HT4.out hd5.2 (by omega))
      have HJ5 := Lib.hid (row_hit HJ4.out hd5.2 (by omega))
      clear hd5
      obtain ⟨⟨t0, t1, t2, t3, t4⟩, ht⟩ := getSome hkl
      have hts := HSM.out _ (List.mem_of_getElem? ht)
      obtain ⟨b, off, e, hbs, c0, c1, c2, c3, c4⟩ := (Own.ofRow HT5.out).rt k _ ht
      simp only [Option.some.injEq, Addr.mk.injEq, and_true] at e
      obtain ⟨rfl, rfl⟩ := e
      dsimp only at c0 c1 c2 c3 c4
      simp only [Nat.zero_add] at c0 c1 c2 c3 c4
      have HTK := Lib.hid ht
      have HTS := Lib.hid hts
      clear ht hts
      go_wp2_with fail
      refine (l1Wrong_any _ _ _ _ ⟨t0, t1, t2, t3, t4⟩ HR5.out (by omega) HTS.out).mono ?_
      rintro e w6 ⟨⟨u0, u1, u2, u3, u4⟩, q6, rfl, hus, hq6, hd6⟩
      have hz6 := hd6.2.size
      have HR6 := Lib.hid hd6.1
      have HB6 := Lib.hid (show Bw w w6 from bw_hit HB5.out hd6.2 (Nat.le_refl _))
      have HT6 := Lib.hid (row_hit HT5.out hd6.2 (by omega))
      have HJ6 := Lib.hid (row_hit HJ5.out hd6.2 (by omega))
      have HUS := Lib.hid hus
      clear hd6 hus c0 c1 c2 c3 c4
      go_wp2_with fail
      refine (l1Wrong_any _ _ _ _ ⟨u0, u1, u2, u3, u4⟩ HR6.out (by omega) HUS.out).mono ?_
      rintro e w7 ⟨⟨y0, y1, y2, y3, y4⟩, q7, rfl, hys, hq7, hd7⟩
      have hz7 := hd7.2.size
      have HB7 := Lib.hid (show Bw w w7 from bw_hit HB6.out hd7.2 (Nat.le_refl _))
      have HT7 := Lib.hid (row_hit HT6.out hd7.2 (by omega))
      have HJ7 := Lib.hid (row_hit HJ6.out hd7.2 (by omega))
      have HYS := Lib.hid hys
      clear hd7 hys
      obtain ⟨b, off, e, hbs', c0, c1, c2, c3, c4⟩ := (Own.ofRow HT7.out).rt k _ HTK.out
      simp only [Option.some.injEq, Addr.mk.injEq, and_true] at e
      obtain ⟨rfl, rfl⟩ := e
      dsimp only at c0 c1 c2 c3 c4
      simp only [Nat.zero_add] at c0 c1 c2 c3 c4
      have hfz : ∀ j, w7.frozen? ⟨g, j, none⟩ = false := by
        rcases HT7.out.2 with ⟨e0, _⟩ | ⟨g', cap, cur0, e0, _, hbk, _⟩
        · simp at e0
        · simp at e0; obtain ⟨rfl, _⟩ := e0; exact fun j => blk_free hbk j
      have HSET := Lib.hid (row_sett HT7.out rfl HTK.out ⟨y0, y1, y2, y3, y4⟩)
      have HSM3 : Hid (∀ t ∈ l.set k (⟨y0, y1, y2, y3, y4⟩ : Tk), Sm t) := by
        intro t ht
        rcases List.mem_or_eq_of_mem_set ht with ht | rfl
        · exact HSM.out t ht
        · exact HYS.out
      have hnj : ∀ k', (Value.slice bo js.length d).ownBlock = some k' → k' ≠ g := fun k' hk' => by have := own_cap0 HJ7.out k' hk'; omega
      have hTT := row_oth (j := k * 5 + 4) (u := .bool y4) (row_oth (j := k * 5 + 3) (u := vi y3) (row_oth (j := k * 5 + 2) (u := vi y2) (row_oth (j := k * 5 + 1) (u := vi y1) (row_oth (j := k * 5) (u := vi y0) HJ7.out (g := g) hnj) hnj) hnj) hnj) hnj
      have hBB := bw_set (bw_set (bw_set (bw_set (bw_set HB7.out (show w.heap.size ≤ g by omega) (k * 5) (vi y0)) (show w.heap.size ≤ g by omega) (k * 5 + 1) (vi y1)) (show w.heap.size ≤ g by omega) (k * 5 + 2) (vi y2)) (show w.heap.size ≤ g by omega) (k * 5 + 3) (vi y3)) (show w.heap.size ≤ g by omega) (k * 5 + 4) (.bool y4)
      have HLL : Hid ((l.set k (⟨y0, y1, y2, y3, y4⟩ : Tk)).length = l.length) := by show _ = _; simp
      have HTT := Lib.hid hTT
      have HBB := Lib.hid hBB
      have HNJ := Lib.hid hnj
      clear hTT hBB hnj
      go_wp2
      go_ret2
      exact ⟨some ⟨g, 0, none⟩, c, l.set k (⟨y0, y1, y2, y3, y4⟩ : Tk), bo, d, js, by rw [HLL.out]; rfl, by rw [HLL.out]; exact Go.Joins.ownsRow_le HSET.out (by omega), by rw [HLL.out]; omega, HSM3.out, Go.Joins.ownsRow_le HTT.out (by omega), by omega, HSJ.out, HBB.out⟩
  · have h0 : ((r : Int) == 0) = false := by simp; omega
    have h1 : ((r : Int) == 1) = false := by simp; omega
    have h2 : ((r : Int) == 2) = false := by simp; omega
    clear h
    go_wp2
    go_ret2
    exact ⟨ao, c, l, bo, d, js, rfl, Go.Joins.ownsRow_le HT4.out (by omega), by omega, HSM.out, Go.Joins.ownsRow_le HJ4.out (by omega), by omega, HSJ.out, HB4.out⟩
end Go.Proofs.YtnmpilmjkgdpgaaDoor

/-
  The walks of the draws of chapter 6 that hand tasks and jobs on.
-/

namespace Go.Proofs.YtnmpilmjkgdpgaaDoor
open Go.RowKit

/-- Jobs that the call made. -/
def Js (w w' : World) (bo : Option Addr) (d : Nat) (js : List Jb) : Prop := w'.ownsRow w.heap.size 41 3 (.slice bo js.length d) js.length (jbs js) ∧ js.length ≤ 61 ∧ (∀ j ∈ js, Sj j) ∧ Bw w w'
def DrawNeedOfEnd (w : World) (e : Ending) (w' : World) : Prop := ∃ (bo : Option Addr) (d : Nat) (js : List Jb) (t : Int), e = .returned (.tuple #[.slice bo js.length d, .int .i64 t]) ∧ Js w w' bo d js
def DrawPutJobEnd (w : World) (e : Ending) (w' : World) : Prop := ∃ ao c l bo d js j, e = .returned (.tuple #[.slice ao l.length c, .slice bo js.length d, jbVal j]) ∧ TJ w w' ao c l bo d js ∧ Sj j
def DrawDueAtEnd (w : World) (e : Ending) (w' : World) : Prop := ∃ ao c l j, e = .returned (.tuple #[.slice ao l.length c, jbVal j]) ∧ Ts w w' ao c l ∧ Sj j

theorem row_below {w w' : World} {lo hi base E size n : Nat} {v : Value} {xs : List Value} (h : w.ownsRow base E size v n xs) (hh : HitR lo hi w w') (hb : ∀ k, v.ownBlock = some k → k < lo) : w'.ownsRow base E size v n xs := by
  refine ⟨h.1, ?_⟩
  rcases h.2 with hn | ⟨g, cap, cur, rfl, hg, hk, rest⟩
  · exact .inl hn
  · exact .inr ⟨g, cap, cur, rfl, hg, blk_hit hh hk (.inl (hb g rfl)), rest⟩

theorem dr_set3 {w w' : World} {g : Nat} {a b c : Value} (h : Bw w w') (hg : w.heap.size ≤ g) : Bw w (((w'.setCell ⟨g, 0, none⟩ a).setCell ⟨g, 1, none⟩ b).setCell ⟨g, 2, none⟩ c) := bw_set (bw_set (bw_set h hg _ _) hg _ _) hg _ _
theorem row_set3 {w : World} {base E size n g : Nat} {v a b c : Value} {xs : List Value} (h : w.ownsRow base E size v n xs) (hg : g < base) : (((w.setCell ⟨g, 0, none⟩ a).setCell ⟨g, 1, none⟩ b).setCell ⟨g, 2, none⟩ c).ownsRow base E size v n xs := by
  have hne : ∀ k, v.ownBlock = some k → k ≠ g := fun k hk => by have := (h.lt k hk).1; omega
  exact row_oth (row_oth (row_oth h hne) hne) hne
abbrev box0 : Obj := .cells #[.int .i64 0, .int .i64 0, .int .i64 0] 41

end Go.Proofs.YtnmpilmjkgdpgaaDoor

/-
  The walks of SortDue, of l7Draw and of DrawRunJobs.
-/


namespace Go.Proofs.YtnmpilmjkgdpgaaDoor
open Go.RowKit

def dueBef (a b : Tk) : Bool := if a.due ≠ b.due then decide (a.due < b.due) else decide (a.every < b.every)
theorem row_some {w : World} {base E size n c : Nat} {ao : Option Addr} {xs : List Value} (h : w.ownsRow base E size (.slice ao n c) n xs) (hn : 0 < n) (hx : xs.length = n * size) (_hs : 0 < size) : ∃ g, ao = some ⟨g, 0, none⟩ := by
  rcases h.2 with ⟨e0, h0⟩ | ⟨g, cap, cur0, e0, _⟩
  · subst h0; omega
  · simp only [Value.slice.injEq] at e0; exact ⟨g, e0.1⟩

/-- What SortDue gives back: some of the tasks. -/
def SrtEnd (w : World) (l : List Tk) (e : Ending) (w' : World) : Prop := ∃ (bo : Option Addr) (d : Nat) (r : List Tk), e = .returned (.slice bo r.length d) ∧ w'.ownsRow w.heap.size 60 5 (.slice bo r.length d) r.length (tks r) ∧ r.length ≤ l.length ∧ (∀ t ∈ r, t ∈ l) ∧ Bw w w'

end Go.Proofs.YtnmpilmjkgdpgaaDoor

/-
  The walks of l7Draw and of DrawRunJobs.
-/

namespace Go.Proofs.YtnmpilmjkgdpgaaDoor
open Go.RowKit

theorem set_due {cur : Array Value} {A B : List Tk} {t : Tk} {n : Nat} (h : cur.toList.take n = tks (A ++ t :: B)) (x : Int) :
    (cur.setIfInBounds (A.length * 5 + 2) (vi x)).toList.take n = tks (A ++ ({ t with due := x } : Tk) :: B) := by
  simp only [Array.toList_setIfInBounds, List.take_set, h]
  have e : tks (A ++ t :: B) = tks A ++ ([vi t.low, vi t.high, vi t.due, vi t.every, .bool t.crit] ++ tks B) := by simp [tks, tkCells]
  have e2 : tks (A ++ ({ t with due := x } : Tk) :: B) = tks A ++ ([vi t.low, vi t.high, vi x, vi t.every, .bool t.crit] ++ tks B) := by simp [tks, tkCells]
  rw [e, e2, List.set_append_right _ _ (by rw [tks_length]; omega), tks_length, show A.length * 5 + 2 - A.length * 5 = 2 by omega]
  rfl
theorem row_setd {w : World} {base g c n : Nat} {l : List Tk} (h : w.ownsRow base 60 5 (.slice (some ⟨g, 0, none⟩) n c) n (tks l)) (hn : n = l.length) {k : Nat} {t : Tk} (ht : l[k]? = some t) (x : Int) :
    (w.setCell ⟨g, k * 5 + 2, none⟩ (vi x)).ownsRow base 60 5 (.slice (some ⟨g, 0, none⟩) n c) n (tks (l.set k { t with due := x })) := by
  have hk : k < l.length := (List.getElem?_eq_some_iff.1 ht).1
  have hA : (l.take k).length = k := by rw [List.length_take]; omega
  have hs : l.set k { t with due := x } = l.take k ++ { t with due := x } :: l.drop (k + 1) := by rw [List.set_eq_take_append_cons_drop, if_pos hk]
  rw [hs]
  rcases h.2 with ⟨e, _⟩ | ⟨g', cap, cur, e, hg, hh, a1, a2, a3, a4⟩
  · simp at e
  · simp at e; obtain ⟨rfl, rfl⟩ := e
    rw [split_at ht] at a4
    have hst := set_due a4 x
    rw [hA] at hst
    exact ⟨by rw [tks_length]; simp; omega, .inr ⟨g, c, _, rfl, hg, blk_set hh (k * 5 + 2) (vi x), a1, a2, by simpa using a3, hst⟩⟩

def Draw7End (w : World) (base G p : Nat) (e : Ending) (w' : World) : Prop := ∃ (ao : Option Addr) (c : Nat) (l : List Tk) (bo : Option Addr) (d : Nat) (js : List Jb) (P q : Nat), e = .returned (.tuple #[.slice ao l.length c, .slice bo js.length d, .int .i64 P]) ∧ w'.ownsRow w.heap.size 60 5 (.slice ao l.length c) l.length (tks l) ∧ l.length ≤ 6 ∧ (∀ t ∈ l, Sm t) ∧ w'.ownsRow w.heap.size 41 3 (.slice bo js.length d) js.length (jbs js) ∧ js.length ≤ 61 ∧ (∀ j ∈ js, Sj j) ∧ P < 2 ∧ q ≤ p + 200 ∧ Dr w w' base G q

theorem results_tmp4 {fn : Func} {t u v x : Tmp} (h : fn.results = #[.tmp t, .tmp u, .tmp v, .tmp x]) (tmps : Array Value) (P : Program) (w : World) :
    (results fn tmps).run P w = .ok (.tuple #[tmps.getD t undef, tmps.getD u undef, tmps.getD v undef, tmps.getD x undef]) w := by
  simp [results, h]
def DrawRunEnd (w : World) (e : Ending) (w' : World) : Prop := ∃ (ao : Option Addr) (c : Nat) (l : List Tk) (bo : Option Addr) (d : Nat) (js : List Jb) (P N : Int), e = .returned (.tuple #[.slice ao l.length c, .slice bo js.length d, .int .i64 P, .int .i64 N]) ∧ TJ w w' ao c l bo d js ∧ (-1 ≤ P ∧ P ≤ 2) ∧ (-1 ≤ N ∧ N ≤ 201)
end Go.Proofs.YtnmpilmjkgdpgaaDoor
