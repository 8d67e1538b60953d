import Derived.Test.YtaadlgpglfpmpaaDoorGD
import Derived.Test.YtaadlgpglfpmpaaDoorPutS
import Derived.Test.YtaadlgpglfpmpaaDoorWorstS
import Derived.Deep.RegionHeld3
import Derived.Deep.DeepCutAuto
import Derived.Test.YtaadlgpglfpmpaaDoorLeave

/-
  The walk of l6Jobs: jobs that are drawn are small and lie in memory of their own.
-/





namespace Go.Proofs.YtaadlgpglfpmpaaDoor
open Go.RowKit

def Sj (j : Jb) : Prop := (-1000 ≤ j.task ∧ j.task ≤ 1000) ∧ (-1000 ≤ j.at_ ∧ j.at_ ≤ 1000) ∧ (-1000 ≤ j.need ∧ j.need ≤ 1000)
theorem wjIn_sj (hi : Bool) (t : Nat) (ht : t ≤ 200) : ∀ (l : List Tk) (i : Nat) (acc r : List Jb), i + l.length ≤ 6 → (∀ x ∈ l, Sm x) → (∀ j ∈ acc, Sj j) → wjIn hi t i l acc = some r → ∀ j ∈ r, Sj j
  | [], i, acc, r, _, _, h, e => by simp [wjIn] at e; subst e; exact h
  | x :: l, i, acc, r, hn, hs, h, e => by
    simp only [wjIn] at e
    simp only [List.length_cons] at hn
    have hx := hs x (by simp)
    split at e
    · exact wjIn_sj hi t ht l _ acc r (by omega) (fun y hy => hs y (by simp [hy])) h e
    · split at e
      · cases e
      · refine wjIn_sj hi t ht l _ _ r (by omega) (fun y hy => hs y (by simp [hy])) (fun j hj => ?_) e
        rcases List.mem_append.1 hj with hj | hj
        · exact h j hj
        · simp at hj; subst hj
          obtain ⟨⟨a, b⟩, ⟨c, d⟩, _⟩ := hx
          refine ⟨⟨by dsimp only; omega, by dsimp only; omega⟩, ⟨by dsimp only; omega, by dsimp only; omega⟩, ?_⟩
          cases hi <;> simp <;> omega
theorem wjOut_sj (hi : Bool) (l : List Tk) (hl : l.length ≤ 6) (hs : ∀ x ∈ l, Sm x) : ∀ (m t : Nat) (acc r : List Jb), t + m ≤ 200 → (∀ j ∈ acc, Sj j) → wjOut hi l m t acc = some r → ∀ j ∈ r, Sj j
  | 0, t, acc, r, _, h, e => by simp [wjOut] at e; subst e; exact h
  | m + 1, t, acc, r, ht, h, e => by
    simp only [wjOut] at e
    cases hi' : wjIn hi t 0 l acc with
    | none => rw [hi'] at e; cases e
    | some a => rw [hi'] at e; exact wjOut_sj hi l hl hs m _ a r (by omega) (wjIn_sj hi t (by omega) l 0 acc a (by omega) hs h hi') e
theorem worst_sj (l : List Tk) (u : Int) (hi : Bool) (hl : l.length ≤ 6) (hs : ∀ x ∈ l, Sm x) : ∀ j ∈ (worst l u hi).1, Sj j := by
  unfold worst
  split
  · rename_i h
    cases e : wjOut hi l u.toNat 0 [] with
    | none => intro j hj; simp [optJ] at hj
    | some a => exact wjOut_sj hi l hl hs _ _ _ a (by omega) (by simp) e
  · intro j hj; simp at hj
theorem put_sj (l : List Tk) (js : List Jb) (x : Jb) (h : ∀ j ∈ js, Sj j) (hx : Sj x) : ∀ j ∈ (putJ l js x).1, Sj j := by
  unfold putJ
  split
  · intro j hj
    rcases (insJ_mem x js j).1 hj with rfl | hj
    · exact hx
    · exact h j hj
  · intro j hj; simp at hj

theorem cell_far {w : World} {g h i j : Nat} {v u : Value} (hc : w.cell? ⟨g, i, none⟩ = some v) (hne : g ≠ h) : (w.setCell ⟨h, j, none⟩ u).cell? ⟨g, i, none⟩ = some v :=
  (World.cell?_setCell_other w _ _ _ (fun e => hne (by injection e with e1 _ _; exact e1.symm))).trans hc
theorem worst_specR {w : World} {v : Value} {l : List Tk} (hl : ST w v l) (u : Int) (hi : Bool) : Calls Tryd.prog 90 #[v, .int .i64 u, .bool hi] w (RetP w 57 3 (jbs (worst l u hi).1) (worst l u hi).1.length (worst l u hi).2) := by
  obtain ⟨⟨ao, c, rfl, hr, _⟩, hn⟩ := hl
  cases hi
  · exact WorstJobs_spec_false ao c w l u hn hr
  · exact WorstJobs_spec_true ao c w l u hn hr

def JobsEnd (K : Nat) (w : World) (base G p : Nat) (e : Ending) (w' : World) : Prop := ∃ (ao : Option Addr) (c : Nat) (l : List Jb) (q : Nat), e = .returned (.slice ao l.length c) ∧ w'.ownsRow w.heap.size 57 3 (.slice ao l.length c) l.length (jbs l) ∧ l.length ≤ 60 ∧ (∀ t ∈ l, Sj t) ∧ q ≤ p + K ∧ Dr w w' base G q

set_option maxRecDepth 100000 in
set_option maxHeartbeats 3200000 in
theorem l6Jobs_any (w : World) (base G p B c : Nat) (ao : Option Addr) (l : List Tk) (hr : Rd w base G p) (hp : p ≤ 600000) (hB : G < B) (hrow : w.ownsRow B 76 5 (.slice ao l.length c) l.length (tks l)) (hl6 : l.length ≤ 6) (hsm : ∀ t ∈ l, Sm t) :
    Calls Tryd.prog 66 #[.pointer (some ⟨G, 0, none⟩), .slice ao l.length c] w (JobsEnd 100 w base G p) := by
  have hG := hr.lt
  have hbG := hr.1
  have hl : l.length ≤ 1048576 := by omega
  have HR := Lib.hid hr
  have HROW := Lib.hid hrow
  have HSM := Lib.hid hsm
  clear hr hrow hsm
  go_enter Tryd.func66, Tryd.ntmps66
  go_wp2_with fail
  refine (pick_any _ base G p _ (HR.out.bw (bw_alloc _ _)) (by omega)).mono ?_
  rintro e w1 ⟨r, rfl, hr1, hd1⟩
  have hz1 := hd1.2.size
  simp only [World.size_alloc] at hz1
  have HR1 := Lib.hid hd1.1
  have HH1 := Lib.hid (HitR.trans (hitR_alloc (HitR.refl G (G + 1) w) _) hd1.2)
  have HROW1 := Lib.hid (row_hit (HROW.out.alloc _) hd1.2 (by omega))
  have HOW1 := Lib.hid (row_hit (World.ownsRow_made (base := w.heap.size) (e := 57) (size := 3) w #[] 0 (Nat.le_refl _) (by simp) rfl) hd1.2 (by omega))
  clear hd1
  by_cases h0 : r = 0
  · subst h0
    go_wp2_with fail
    refine (num_any _ base G _ w1.heap.size [20, 10, 40, 5] 4 (HR1.out.bw (bw_alloc _ _)) (by omega) (by simp) (by simp) (by omega) (ri_lit _ (heap_alloc_new w1 _) rfl)).mono ?_
    rintro e w2 ⟨x, rfl, hx, hd2⟩
    have hz2 := hd2.2.size
    simp only [World.size_alloc] at hz2
    have HH2 := Lib.hid (HitR.trans (hitR_alloc HH1.out _) hd2.2)
    have HROW2 := Lib.hid (row_hit (HROW1.out.alloc _) hd2.2 (by omega))
    have HR2 := Lib.hid hd2.1
    clear hd2 hx
    go_wp2_with fail
    refine (pick_any _ base G _ _ HR2.out (by omega)).mono ?_
    rintro e w3 ⟨r3, rfl, hr3, hd3⟩
    have hz3 := hd3.2.size
    have HH3 := Lib.hid (HitR.trans HH2.out hd3.2)
    have HROW3 := Lib.hid (row_hit HROW2.out hd3.2 (by omega))
    have HR3 := Lib.hid hd3.1
    clear hd3
    obtain ⟨g, hg⟩ : ∃ g, ((r3 : Int) == 0) = g := ⟨_, rfl⟩
    go_wp2_with fail
    refine (worst_specR (st_row HROW3.out hl) x g).mono ?_
    rintro e w4 ⟨a4, c4, rfl, h4, hb4⟩
    have hz4 := hb4.size
    have HSJ := Lib.hid (worst_sj l x g hl6 HSM.out)
    have HLN := Lib.hid (worst_len l x g)
    have HH4 := Lib.hid (HH3.out.trans (HitR.of_bw hb4))
    have HR4 := Lib.hid (HR3.out.bw hb4)
    clear hg hb4
    go_wp2
    go_ret
    exact ⟨a4, c4, _, _, rfl, Go.Joins.ownsRow_le h4 (by omega), HLN.out, HSJ.out, by omega, HR4.out, HH4.out⟩
  · have h0b : ((r : Int) == 0) = false := by simp; omega
    clear h0
    go_wp2_with fail
    refine (num_any _ base G _ w1.heap.size [8, 5, 12, 3, 20, 0] 6 (HR1.out.bw (bw_alloc _ _)) (by omega) (by simp) (by simp) (by omega) (ri_lit _ (heap_alloc_new w1 _) rfl)).mono ?_
    rintro e w2 ⟨x, rfl, hx, hd2⟩
    have hz2 := hd2.2.size
    simp only [World.size_alloc] at hz2
    have HH2 := Lib.hid (HitR.trans (hitR_alloc HH1.out _) hd2.2)
    have HROW2 := Lib.hid (row_hit (HROW1.out.alloc _) hd2.2 (by omega))
    have HOW2 := Lib.hid (row_hit (HOW1.out.alloc _) hd2.2 (by omega))
    have HR2 := Lib.hid hd2.1
    obtain ⟨n, rfl, hn⟩ : ∃ n : Nat, x = n ∧ n ≤ 20 := by
      have : 0 ≤ x ∧ x ≤ 20 := by simp at hx; omega
      exact ⟨x.toNat, by omega, by omega⟩
    clear hd2 hx h0b
    go_wp2
    go_loopw [5, 6] (fun u i wr => ∃ (k : Nat) (js : List Jb) (bo : Option Addr) (d q : Nat), k ≤ 20 ∧ u = .slice bo js.length d ∧ i = .int .i64 k ∧ q + 3 * k ≤ p + 70 ∧ Hid (wr.ownsRow w.heap.size 57 3 (.slice bo js.length d) js.length (jbs js)) ∧ js.length ≤ 60 ∧ Hid (∀ t ∈ js, Sj t) ∧ Hid (Rd wr base G q) ∧ Hid (HitR G (G + 1) w wr) ∧ Hid (wr.ownsRow B 76 5 (.slice ao l.length c) l.length (tks l))) (fun _ i _ => (intOf i).toNat)
    case atStart => exact ⟨n, [], _, _, _, hn, rfl, rfl, by omega, HOW2.out, by simp, by intro t ht; simp at ht, HR2.out, HH2.out, HROW2.out⟩
    case round =>
      obtain ⟨k, js, bo, d, q, hk, rfl, rfl, hq, hown, hjl, hsj, hrd, hh, hrw⟩ := hrel
      have hz := hh.out.size
      rcases Nat.eq_zero_or_pos k with hk0 | hk0
      · subst hk0
        have hlt0 : decide ((0 : Int) < 0) = false := by simp
        go_wp2
        go_ret
        exact ⟨bo, d, js, q, rfl, hown.out, hjl, hsj.out, by omega, hrd.out, hh.out⟩
      · rcases Nat.eq_zero_or_pos l.length with hl0 | hl0
        · have hlb : decide (0 < l.length) = false := decide_eq_false (by omega)
          have hkp : (0 : Int) < k := by omega
          have HL0 := Lib.hid hl0
          clear hl0
          go_wp2
          go_ret
          exact ⟨bo, d, js, q, rfl, hown.out, hjl, hsj.out, by omega, hrd.out, hh.out⟩
        · obtain ⟨k, rfl⟩ : ∃ m, k = m + 1 := ⟨k - 1, by omega⟩
          obtain ⟨g, rfl⟩ : ∃ g, ao = some ⟨g, 0, none⟩ := by
            rcases hrw.out.2 with ⟨e0, hx⟩ | ⟨g, cap, cur0, e0, _⟩
            · omega
            · simp only [Value.slice.injEq] at e0; exact ⟨g, e0.1⟩
          have hgB := own_cap0 hrw.out g rfl
          go_wp2_with fail
          refine (pick_any _ base G _ _ hrd.out (by omega)).mono ?_
          rintro e w3 ⟨ix, rfl, hix, hd3⟩
          have hixl : ix < l.length := by omega
          have hz3 := hd3.2.size
          have HR3 := Lib.hid hd3.1
          have HH3 := Lib.hid (hh.out.trans hd3.2)
          have HRW3 := Lib.hid (row_hit hrw.out hd3.2 (by omega))
          have HOW3 := Lib.hid (row_hit hown.out hd3.2 (by omega))
          clear hd3
          obtain ⟨t, ht⟩ := getSome hixl
          obtain ⟨_, ⟨th0, th1⟩, _⟩ := HSM.out _ (List.mem_of_getElem? ht)
          obtain ⟨b, off, e, hbs, _, c1, _⟩ := (Own.ofRow HRW3.out).rt ix _ ht
          simp only [Option.some.injEq, Addr.mk.injEq, and_true] at e
          obtain ⟨rfl, rfl⟩ := e
          simp only [Nat.zero_add] at c1
          have HT := Lib.hid ht
          clear ht
          have hG3 := HR3.out.lt
          go_upto_region 9 with fail
          go_cut [8] (fun u wc => ∃ (h : Nat) (a m : Int), u = .pointer (some ⟨h, 0, none⟩) ∧ Hid (wc.heap[h]? = some (.cells #[.int .i64 ix, .int .i64 a, .int .i64 m] 57 (0, 0))) ∧ (0 ≤ a ∧ a ≤ 30 ∧ 1 ≤ m ∧ m ≤ 101) ∧ Hid (Rd wc base G (q + 1 + 1 + 1)) ∧ Hid (HitR G (G + 1) w3 wc))
          case first =>
            have tok0 : True := trivial
            have tok1 : True := trivial
            go_region_with (first | (go_at_call 42; have _t := tok0; refine (pick_any _ base G _ _ (by first | exact HR3.out.bw (bw_drew _) | exact (HR3.out.bw (bw_alloc _ _)).bw (bw_drew _)) (by omega)).mono ?_; rintro e wA ⟨rA, rfl, hrA, hdA⟩; clear tok0; have c1' := cell_hit hdA.2 (by first | exact c1 | exact cell_bw (bw_alloc _ _) c1) (.inr (by omega)); have hzA : w3.heap.size ≤ wA.heap.size := (by first | exact hdA.2.size | exact Nat.le_trans (Nat.le_succ _) (by have := hdA.2.size; simpa using this)); have hgA : g < wA.heap.size := (by omega); have HHA : Hid (HitR G (G + 1) w3 wA) := (by first | exact (HitR.of_bw (bw_drew _)).trans hdA.2 | exact (HitR.of_bw (bw_trans (bw_alloc _ _) (bw_drew _))).trans hdA.2); try (have eA := blk_hit hdA.2 (heap_alloc_new w3 (.cells #[.int .i64 0, .int .i64 0, .int .i64 0] 57)) (.inr (show G + 1 ≤ w3.heap.size by omega)); have HEA := Lib.hid eA; clear eA)) | (go_at_call 42; have _t := tok1; refine (pick_any _ base G _ _ (by first | exact hdA.1 | exact hdA.1.bw (bw_alloc _ _)) (by omega)).mono ?_; rintro e wB ⟨rB, rfl, hrB, hdB⟩; clear tok1; have hrB1 : (rB : Int) ≤ 100 := (by omega); have hw9 := IntWalk.i64_in (1 + (rB : Int)) (by omega); have hzB : wA.heap.size ≤ wB.heap.size := (by first | exact hdB.2.size | exact Nat.le_trans (Nat.le_succ _) (by have := hdB.2.size; simpa using this)); have hgB : g < wB.heap.size := (by omega); have HHB : Hid (HitR G (G + 1) w3 wB) := (by first | exact HHA.out.trans hdB.2 | exact (hitR_alloc HHA.out _).trans hdB.2); first | (have eB := blk_hit hdB.2 HEA.out (.inr (by omega)); have HEB := Lib.hid eB; have f0 := blk_cell eB 0 rfl; have f1 := blk_cell eB 1 rfl; have f2 := blk_cell eB 2 rfl; have ff := fun j => blk_free eB j; clear eB) | (have eB := blk_hit hdB.2 (heap_alloc_new wA (.cells #[.int .i64 0, .int .i64 0, .int .i64 0] 57)) (.inr (by omega)); have HEB := Lib.hid eB; have f0 := blk_cell eB 0 rfl; have f1 := blk_cell eB 1 rfl; have f2 := blk_cell eB 2 rfl; have ff := fun j => blk_free eB j; clear eB) | skip))
            all_goals go_wp2_with fail
            all_goals go_meet
            all_goals first
              | exact ⟨wB.heap.size, rA, 1 + rB, rfl, heap_alloc_new wB _, ⟨by omega, by omega, by omega, by omega⟩, hdB.1.bw (bw_alloc _ _), hitR_alloc HHB.out _⟩
              | exact ⟨_, rA, 1 + rB, rfl, blk_set (blk_set (blk_set HEB.out 0 (vi ix)) 1 (vi rA)) 2 (vi (1 + (rB : Int))), ⟨by omega, by omega, by omega, by omega⟩, Rd.set (Rd.set (Rd.set hdB.1 (by omega) (by omega) _ _) (by omega) (by omega) _ _) (by omega) (by omega) _ _, hitR_own (hitR_own (hitR_own HHB.out (by omega) _ _) (by omega) _ _) (by omega) _ _⟩
          case rest =>
            obtain ⟨h, a, m, rfl, HJB, ⟨ha0, ha1, hm0, hm1⟩, HR4, HH4⟩ := hcut
            have hz4 := HH4.out.size
            have e0 := blk_cell HJB.out 0 rfl
            have e1 := blk_cell HJB.out 1 rfl
            have e2 := blk_cell HJB.out 2 rfl
            have hjm : js.length ≤ 1048576 := by omega
            have HOW4 := Lib.hid (row_hit HOW3.out HH4.out (by omega))
            have HRW4 := Lib.hid (row_hit HRW3.out HH4.out (by omega))
            go_wp2_with fail
            refine (put_specR (st_row HRW4.out hl) (sj_row HOW4.out hjm) ix a m).mono ?_
            rintro e w5 ⟨a5, c5, rfl, h5, hb5⟩
            have hz5 := hb5.size
            have HR5 := Lib.hid (HR4.out.bw hb5)
            have HH5 := Lib.hid ((HH3.out.trans HH4.out).trans (HitR.of_bw hb5))
            have HRW5 := Lib.hid (row_bw HRW4.out hb5)
            have HOW5 := Lib.hid (row_bw HOW4.out hb5)
            have HLEN := Lib.hid (Nat.le_trans (putJ_len l js ⟨ix, a, m⟩) (Nat.le_refl 60))
            have HSJ := Lib.hid (put_sj l js ⟨ix, a, m⟩ hsj.out ⟨⟨by dsimp only; omega, by dsimp only; omega⟩, ⟨by dsimp only; omega, by dsimp only; omega⟩, ⟨by dsimp only; omega, by dsimp only; omega⟩⟩)
            obtain ⟨o, HO⟩ : ∃ o, Hid ((putJ l js ⟨ix, a, m⟩).2 = o) := ⟨_, rfl⟩
            rw [HO.out]
            have HOW6 := Lib.hid (Go.Joins.ownsRow_le h5 (show w.heap.size ≤ wc.heap.size by omega))
            clear e0 e1 e2 hb5 h5
            cases o with
            | true =>
              go_wp2
              go_roundw
              case rel => exact ⟨k, _, _, _, _, by omega, rfl, by go_num, by omega, HOW6.out, HLEN.out, HSJ.out, HR5.out, HH5.out, HRW5.out⟩
              case measure => simp [intOf]
            | false =>
              go_wp2
              go_roundw
              case rel => exact ⟨k, js, bo, d, _, by omega, rfl, by go_num, by omega, HOW5.out, hjl, hsj.out, HR5.out, HH5.out, HRW5.out⟩
              case measure => simp [intOf]
end Go.Proofs.YtaadlgpglfpmpaaDoor

/-
  The walk of l6Case and of the draws that hand it on.
-/


namespace Go.Proofs.YtaadlgpglfpmpaaDoor
open Go.RowKit

theorem row_oth {w : World} {base E size n g j : Nat} {v u : Value} {xs : List Value} (h : w.ownsRow base E size v n xs) (hne : ∀ k, v.ownBlock = some k → k ≠ g) : (w.setCell ⟨g, j, none⟩ u).ownsRow base E size v n xs := by
  refine h.kept (row := some g) ⟨rfl, rfl, rfl, by simp, fun k hk hx => by rw [Below.heap_setCell _ _ _ _ (fun e => hx (by simp [e]))]⟩ ?_
  cases hb : v.ownBlock with
  | none => exact .inl rfl
  | some k => exact .inr (fun e => hne k hb (by simpa using e))
theorem set_j {cur : Array Value} {A B : List Jb} {t : Jb} {n : Nat} (h : cur.toList.take n = jbs (A ++ t :: B)) (x : Int) :
    (cur.setIfInBounds (A.length * 3 + 2) (vi x)).toList.take n = jbs (A ++ (⟨t.task, t.at_, x⟩ : Jb) :: B) := by
  simp only [Array.toList_setIfInBounds, List.take_set, h]
  have e : jbs (A ++ t :: B) = jbs A ++ ([vi t.task, vi t.at_, vi t.need] ++ jbs B) := by simp [jbs, jbCells]
  have e2 : jbs (A ++ (⟨t.task, t.at_, x⟩ : Jb) :: B) = jbs A ++ ([vi t.task, vi t.at_, vi x] ++ jbs B) := by simp [jbs, jbCells]
  rw [e, e2, List.set_append_right _ _ (by rw [jbs_length]; omega), jbs_length, show A.length * 3 + 2 - A.length * 3 = 2 by omega]
  rfl
theorem row_setj {w : World} {base g c n : Nat} {l : List Jb} (h : w.ownsRow base 57 3 (.slice (some ⟨g, 0, none⟩) n c) n (jbs l)) (hn : n = l.length) {k : Nat} {t : Jb} (ht : l[k]? = some t) (x : Int) :
    (w.setCell ⟨g, k * 3 + 2, none⟩ (vi x)).ownsRow base 57 3 (.slice (some ⟨g, 0, none⟩) n c) n (jbs (l.set k ⟨t.task, t.at_, x⟩)) := by
  have hk : k < l.length := (List.getElem?_eq_some_iff.1 ht).1
  have hA : (l.take k).length = k := by rw [List.length_take]; omega
  have hs : l.set k ⟨t.task, t.at_, x⟩ = l.take k ++ ⟨t.task, t.at_, x⟩ :: l.drop (k + 1) := by rw [List.set_eq_take_append_cons_drop, if_pos hk]
  rw [hs]
  rcases h.2 with ⟨e, _⟩ | ⟨g', cap, cur, e, hg, hh, a1, a2, a3, a4⟩
  · simp at e
  · simp at e; obtain ⟨rfl, rfl⟩ := e
    rw [split_at ht] at a4
    have hst := set_j a4 x
    rw [hA] at hst
    exact ⟨by rw [jbs_length]; simp; omega, .inr ⟨g, c, _, rfl, hg, blk_set hh (k * 3 + 2) (vi x), a1, a2, by simpa using a3, hst⟩⟩
theorem row_blk {w : World} {base E size n : Nat} {v : Value} {xs : List Value} (h : w.ownsRow base E size v n xs) : ∀ k, v.ownBlock = some k → k < w.heap.size := fun k hk => (h.lt k hk).2

/-- Tasks and jobs that the call made. -/
def TJ (w w' : World) (ao : Option Addr) (c : Nat) (l : List Tk) (bo : Option Addr) (d : Nat) (js : List Jb) : Prop :=
  w'.ownsRow w.heap.size 76 5 (.slice ao l.length c) l.length (tks l) ∧ l.length ≤ 6 ∧ (∀ t ∈ l, Sm t) ∧ w'.ownsRow w.heap.size 57 3 (.slice bo js.length d) js.length (jbs js) ∧ js.length ≤ 61 ∧ (∀ j ∈ js, Sj j) ∧ Bw w w'
def CaseEnd (w : World) (e : Ending) (w' : World) : Prop := ∃ ao c l bo d js, e = .returned (.tuple #[.slice ao l.length c, .slice bo js.length d]) ∧ TJ w w' ao c l bo d js

set_option maxRecDepth 100000 in
set_option maxHeartbeats 6400000 in
theorem l6Case_any {w0 w : World} {v : Value} (hv : RawB w0 v) (hb : Bw w0 w) : Calls Tryd.prog 46 #[v] w (CaseEnd w) := by
  obtain ⟨i0, hi0, hz0, hz1, hz2⟩ := info_parts infoJob
  have HV := Lib.hid hv
  clear hv
  go_enter Tryd.func46, Tryd.ntmps46
  go_wp2_with fail
  refine (l11Open_any HV.out hb).mono ?_
  rintro e w1 ⟨rfl, hrd, hb1⟩
  have hz1' := hb1.size
  have hG := hrd.lt
  go_wp2_with fail
  refine (l1Set_any _ _ _ _ hrd (by omega)).mono ?_
  rintro e w2 ⟨ao, c, l, q, rfl, hown, hl5, hsm, hq, hd2⟩
  have hz2' := hd2.2.size
  have HSM := Lib.hid hsm
  have HR2 := Lib.hid hd2.1
  have HB2 := Lib.hid (show Bw w w2 from bw_hit hb1 hd2.2 (Nat.le_refl _))
  have HT2 := Lib.hid hown
  clear hsm hd2 hown hrd
  go_wp2_with fail
  refine (l6Jobs_any _ _ _ _ w1.heap.size c ao l HR2.out (by omega) (by omega) HT2.out (by omega) HSM.out).mono ?_
  rintro e w3 ⟨bo, d, js, q3, rfl, hj, hj60, hsj, hq3, hd3⟩
  have hz3 := hd3.2.size
  have HSJ := Lib.hid hsj
  have HR3 := Lib.hid hd3.1
  have HB3 := Lib.hid (show Bw w w3 from bw_hit HB2.out hd3.2 (Nat.le_refl _))
  have HT3 := Lib.hid (row_hit HT2.out hd3.2 (by omega))
  have HJ3 := Lib.hid hj
  have HLT := Lib.hid (row_blk HT2.out)
  clear hsj hd3 hj
  go_wp2_with fail
  refine (pick_any _ _ _ _ _ HR3.out (by omega)).mono ?_
  rintro e w4 ⟨r, rfl, hr, hd4⟩
  have hz4 := hd4.2.size
  have HR4 := Lib.hid hd4.1
  have HB4 := Lib.hid (show Bw w w4 from bw_hit HB3.out hd4.2 (Nat.le_refl _))
  have HT4 := Lib.hid (row_hit HT3.out hd4.2 (by omega))
  have HJ4 := Lib.hid (row_hit HJ3.out hd4.2 (by omega))
  clear hd4
  rcases (show r = 0 ∨ r = 1 ∨ r = 2 ∨ 3 ≤ r by omega) with h | h | h | h
  · subst h
    go_wp2_with fail
    refine (num_any _ w.heap.size w.heap.size _ w4.heap.size [0, 5, -1] 3 (HR4.out.bw (bw_alloc _ _)) (by omega) (by simp) (by simp) (by omega) (ri_lit _ (heap_alloc_new w4 _) rfl)).mono ?_
    rintro e w5 ⟨x5, rfl, hx5, hd5⟩
    have hz5 := hd5.2.size
    simp only [World.size_alloc] at hz5
    have hb5 : -1000 ≤ x5 ∧ x5 ≤ 1000 := by simp at hx5; omega
    have HR5 := Lib.hid hd5.1
    have HB5 := Lib.hid (show Bw w w5 from bw_hit (bw_trans HB4.out (bw_alloc _ _)) hd5.2 (Nat.le_refl _))
    have HT5 := Lib.hid (row_hit (HT4.out.alloc _) hd5.2 (by omega))
    have HJ5 := Lib.hid (row_hit (HJ4.out.alloc _) hd5.2 (by omega))
    clear hd5 hx5
    go_wp2_with fail
    refine (num_any _ w.heap.size w.heap.size _ w5.heap.size [50, 0, 201] 3 (HR5.out.bw (bw_alloc _ _)) (by omega) (by simp) (by simp) (by omega) (ri_lit _ (heap_alloc_new w5 _) rfl)).mono ?_
    rintro e w6 ⟨x6, rfl, hx6, hd6⟩
    have hz6 := hd6.2.size
    simp only [World.size_alloc] at hz6
    have hb6 : -1000 ≤ x6 ∧ x6 ≤ 1000 := by simp at hx6; omega
    have HR6 := Lib.hid hd6.1
    have HB6 := Lib.hid (show Bw w w6 from bw_hit (bw_trans HB5.out (bw_alloc _ _)) hd6.2 (Nat.le_refl _))
    have HT6 := Lib.hid (row_hit (HT5.out.alloc _) hd6.2 (by omega))
    have HJ6 := Lib.hid (row_hit (HJ5.out.alloc _) hd6.2 (by omega))
    clear hd6 hx6
    go_wp2_with fail
    refine (num_any _ w.heap.size w.heap.size _ w6.heap.size [1, 0, 21] 3 (HR6.out.bw (bw_alloc _ _)) (by omega) (by simp) (by simp) (by omega) (ri_lit _ (heap_alloc_new w6 _) rfl)).mono ?_
    rintro e w7 ⟨x7, rfl, hx7, hd7⟩
    have hz7 := hd7.2.size
    simp only [World.size_alloc] at hz7
    have hb7 : -1000 ≤ x7 ∧ x7 ≤ 1000 := by simp at hx7; omega
    have HR7 := Lib.hid hd7.1
    have HB7 := Lib.hid (show Bw w w7 from bw_hit (bw_trans HB6.out (bw_alloc _ _)) hd7.2 (Nat.le_refl _))
    have HT7 := Lib.hid (row_hit (HT6.out.alloc _) hd7.2 (by omega))
    have HJ7 := Lib.hid (row_hit (HJ6.out.alloc _) hd7.2 (by omega))
    clear hd7 hx7
    have HOJ := HJ7.out
    go_wp2_with (at_builtin; refine wpList_append_own _ rfl _ _ 37 rfl w2.heap.size 57 i0 zJob 3 24 Tryd.underlying37 hi0 hz0 hz1 hz2 rfl (by decide) _ _ _ rfl (HOJ.alloc _) ⟨w7.heap.size, 0, none⟩ 1 1 (jbCells ⟨x5, x6, x7⟩) rfl rfl (cell_job_new w7 ⟨x5, x6, x7⟩ 57) (oneJ _) (by unfold maxLen; omega) (by omega) (by simp only [World.size_alloc]; omega) ?_; intro v' w8 hown' hgrow _; obtain ⟨ao8, c8, hu⟩ := own_form hown'; subst hu)
    have hown8 : w8.ownsRow w2.heap.size 57 3 (.slice ao8 (js.length + 1) c8) (js ++ [(⟨x5, x6, x7⟩ : Jb)]).length (jbs (js ++ [(⟨x5, x6, x7⟩ : Jb)])) := by simpa [jbs] using hown'
    have hb8 : Bw w w8 := Below.grown (Below.alloc HB7.out (by omega) _) hgrow (by simp only [World.size_alloc]; omega) (fun g hg => by have := own_cap0 HOJ g hg; omega)
    have ht8 := (HT7.out.alloc (.cells #[.int .i64 x5, .int .i64 x6, .int .i64 x7] 57)).kept hgrow (by
      cases hb : (Value.slice ao l.length c).ownBlock with
      | none => exact .inl rfl
      | some k => exact .inr (fun e => by have h1 := HLT.out k hb; have h2 := own_cap0 HOJ k e.symm; omega))
    have hll : (js ++ [(⟨x5, x6, x7⟩ : Jb)]).length = js.length + 1 := by simp
    rw [← hll] at hown8
    have HSJ8 : Hid (∀ j ∈ js ++ [(⟨x5, x6, x7⟩ : Jb)], Sj j) := by
      intro j hj
      rcases List.mem_append.1 hj with hj | hj
      · exact HSJ.out j hj
      · simp at hj; subst hj; exact ⟨hb5, hb6, hb7⟩
    rw [← hll]
    have hl61 : (js ++ [(⟨x5, x6, x7⟩ : Jb)]).length ≤ 61 := by omega
    have HLL := Lib.hid hll
    clear hll
    clear hown' hgrow HOJ
    go_wp2
    go_ret2
    exact ⟨ao, c, l, ao8, c8, _, rfl, Go.Joins.ownsRow_le ht8 (by omega), by omega, HSM.out, Go.Joins.ownsRow_le hown8 (by omega), hl61, HSJ8.out, hb8⟩
  · subst h
    rcases Nat.eq_zero_or_pos js.length with h0 | h0
    · have h0b : decide (0 < js.length) = false := decide_eq_false (by omega)
      have H0 := Lib.hid h0
      clear h0
      go_wp2
      go_ret2
      exact ⟨ao, c, l, bo, d, js, rfl, Go.Joins.ownsRow_le HT4.out (by omega), by omega, HSM.out, Go.Joins.ownsRow_le HJ4.out (by omega), by omega, HSJ.out, HB4.out⟩
    · obtain ⟨g, rfl⟩ : ∃ g, bo = some ⟨g, 0, none⟩ := by
        rcases HJ4.out.2 with ⟨e0, hx⟩ | ⟨g, cap, cur0, e0, _⟩
        · omega
        · simp only [Value.slice.injEq] at e0; exact ⟨g, e0.1⟩
      have hg2 := own_cap0 HJ4.out g rfl
      go_wp2_with fail
      refine (pick_any _ _ _ _ _ HR4.out (by omega)).mono ?_
      rintro e w5 ⟨k, rfl, hk, hd5⟩
      have hkl : k < js.length := by omega
      have hz5 := hd5.2.size
      have HR5 := Lib.hid hd5.1
      have HB5 := Lib.hid (show Bw w w5 from bw_hit HB4.out hd5.2 (Nat.le_refl _))
      have HT5 := Lib.hid (row_hit HT4.out hd5.2 (by omega))
      have HJ5 := Lib.hid (row_hit HJ4.out hd5.2 (by omega))
      clear hd5
      go_wp2_with fail
      refine (num_any _ w.heap.size w.heap.size _ w5.heap.size [0, 20, 1] 3 (HR5.out.bw (bw_alloc _ _)) (by omega) (by simp) (by simp) (by omega) (ri_lit _ (heap_alloc_new w5 _) rfl)).mono ?_
      rintro e w6 ⟨x, rfl, hx, hd6⟩
      have hz6 := hd6.2.size
      simp only [World.size_alloc] at hz6
      have hxb : -1000 ≤ x ∧ x ≤ 1000 := by simp at hx; omega
      have HB6 := Lib.hid (show Bw w w6 from bw_hit (bw_trans HB5.out (bw_alloc _ _)) hd6.2 (Nat.le_refl _))
      have HT6 := Lib.hid (row_hit (HT5.out.alloc _) hd6.2 (by omega))
      have HJ6 := Lib.hid (row_hit (HJ5.out.alloc _) hd6.2 (by omega))
      clear hd6 hx
      obtain ⟨⟨j0, j1, j2⟩, hjk⟩ := getSome hkl
      have hrj := (Own.ofRow HJ6.out).rj
      obtain ⟨b, off, e, hbs, _, _, c2⟩ := hrj k _ hjk
      simp only [Option.some.injEq, Addr.mk.injEq, and_true] at e
      obtain ⟨rfl, rfl⟩ := e
      dsimp only at c2
      simp only [Nat.zero_add] at c2
      have hfz : ∀ j, w6.frozen? ⟨g, j, none⟩ = false := by
        rcases HJ6.out.2 with ⟨e0, _⟩ | ⟨g', cap, cur0, e0, _, hbk, _⟩
        · simp at e0
        · simp at e0; obtain ⟨rfl, _⟩ := e0; exact fun j => blk_free hbk j
      have HSET := Lib.hid (row_setj HJ6.out rfl hjk x)
      have hsjk := HSJ.out _ (List.mem_of_getElem? hjk)
      have HSJ3 : Hid (∀ j ∈ js.set k (⟨j0, j1, x⟩ : Jb), Sj j) := by
        intro j hj
        rcases List.mem_or_eq_of_mem_set hj with hj | rfl
        · exact HSJ.out j hj
        · exact ⟨hsjk.1, hsjk.2.1, hxb⟩
      have hTT := row_oth (j := k * 3 + 2) (u := vi x) HT6.out (g := g) (fun k' hk' => by have := HLT.out k' hk'; omega)
      have hBB := bw_set HB6.out (show w.heap.size ≤ g by omega) (k * 3 + 2) (vi x)
      have HLL : Hid ((js.set k (⟨j0, j1, x⟩ : Jb)).length = js.length) := by show _ = _; simp
      have HJK := Lib.hid hjk
      have HTT := Lib.hid hTT
      have HBB := Lib.hid hBB
      have HSJK := Lib.hid hsjk
      clear hjk hTT hBB hsjk
      clear hrj
      go_wp2
      go_ret2
      exact ⟨ao, c, l, some ⟨g, 0, none⟩, d, js.set k (⟨j0, j1, x⟩ : Jb), by rw [HLL.out]; rfl, Go.Joins.ownsRow_le HTT.out (by omega), by omega, HSM.out, by rw [HLL.out]; exact Go.Joins.ownsRow_le HSET.out (by omega), by rw [HLL.out]; omega, HSJ3.out, HBB.out⟩
  · subst h
    rcases Nat.eq_zero_or_pos l.length with h0 | h0
    · have h0b : decide (0 < l.length) = false := decide_eq_false (by omega)
      have H0 := Lib.hid h0
      clear h0
      go_wp2
      go_ret2
      exact ⟨ao, c, l, bo, d, js, rfl, Go.Joins.ownsRow_le HT4.out (by omega), by omega, HSM.out, Go.Joins.ownsRow_le HJ4.out (by omega), by omega, HSJ.out, HB4.out⟩
    · obtain ⟨g, rfl⟩ : ∃ g, ao = some ⟨g, 0, none⟩ := by
        rcases HT4.out.2 with ⟨e0, hx⟩ | ⟨g, cap, cur0, e0, _⟩
        · omega
        · simp only [Value.slice.injEq] at e0; exact ⟨g, e0.1⟩
      have hg1 := own_cap0 HT4.out g rfl
      have hg2 := HLT.out g rfl
      go_wp2_with fail
      refine (pick_any _ _ _ _ _ HR4.out (by omega)).mono ?_
      rintro e w5 ⟨k, rfl, hk, hd5⟩
      have hkl : k < l.length := by omega
      have hz5 := hd5.2.size
      have HR5 := Lib.hid hd5.1
      have HB5 := Lib.hid (show Bw w w5 from bw_hit HB4.out hd5.2 (Nat.le_refl _))
      have HT5 := Lib.hid (row_hit HT4.out hd5.2 (by omega))
      have HJ5 := Lib.hid (row_hit HJ4.out hd5.2 (by omega))
      clear hd5
      obtain ⟨⟨t0, t1, t2, t3, t4⟩, ht⟩ := getSome hkl
      have hts := HSM.out _ (List.mem_of_getElem? ht)
      obtain ⟨b, off, e, hbs, c0, c1, c2, c3, c4⟩ := (Own.ofRow HT5.out).rt k _ ht
      simp only [Option.some.injEq, Addr.mk.injEq, and_true] at e
      obtain ⟨rfl, rfl⟩ := e
      dsimp only at c0 c1 c2 c3 c4
      simp only [Nat.zero_add] at c0 c1 c2 c3 c4
      have HTK := Lib.hid ht
      have HTS := Lib.hid hts
      clear ht hts
      go_wp2_with fail
      refine (l1Wrong_any _ _ _ _ ⟨t0, t1, t2, t3, t4⟩ HR5.out (by omega) HTS.out).mono ?_
      rintro e w6 ⟨⟨u0, u1, u2, u3, u4⟩, q6, rfl, hus, hq6, hd6⟩
      have hz6 := hd6.2.size
      have HR6 := Lib.hid hd6.1
      have HB6 := Lib.hid (show Bw w w6 from bw_hit HB5.out hd6.2 (Nat.le_refl _))
      have HT6 := Lib.hid (row_hit HT5.out hd6.2 (by omega))
      have HJ6 := Lib.hid (row_hit HJ5.out hd6.2 (by omega))
      have HUS := Lib.hid hus
      clear hd6 hus c0 c1 c2 c3 c4
      go_wp2_with fail
      refine (l1Wrong_any _ _ _ _ ⟨u0, u1, u2, u3, u4⟩ HR6.out (by omega) HUS.out).mono ?_
      rintro e w7 ⟨⟨y0, y1, y2, y3, y4⟩, q7, rfl, hys, hq7, hd7⟩
      have hz7 := hd7.2.size
      have HB7 := Lib.hid (show Bw w w7 from bw_hit HB6.out hd7.2 (Nat.le_refl _))
      have HT7 := Lib.hid (row_hit HT6.out hd7.2 (by omega))
      have HJ7 := Lib.hid (row_hit HJ6.out hd7.2 (by omega))
      have HYS := Lib.hid hys
      clear hd7 hys
      obtain ⟨b, off, e, hbs', c0, c1, c2, c3, c4⟩ := (Own.ofRow HT7.out).rt k _ HTK.out
      simp only [Option.some.injEq, Addr.mk.injEq, and_true] at e
      obtain ⟨rfl, rfl⟩ := e
      dsimp only at c0 c1 c2 c3 c4
      simp only [Nat.zero_add] at c0 c1 c2 c3 c4
      have hfz : ∀ j, w7.frozen? ⟨g, j, none⟩ = false := by
        rcases HT7.out.2 with ⟨e0, _⟩ | ⟨g', cap, cur0, e0, _, hbk, _⟩
        · simp at e0
        · simp at e0; obtain ⟨rfl, _⟩ := e0; exact fun j => blk_free hbk j
      have HSET := Lib.hid (row_sett HT7.out rfl HTK.out ⟨y0, y1, y2, y3, y4⟩)
      have HSM3 : Hid (∀ t ∈ l.set k (⟨y0, y1, y2, y3, y4⟩ : Tk), Sm t) := by
        intro t ht
        rcases List.mem_or_eq_of_mem_set ht with ht | rfl
        · exact HSM.out t ht
        · exact HYS.out
      have hnj : ∀ k', (Value.slice bo js.length d).ownBlock = some k' → k' ≠ g := fun k' hk' => by have := own_cap0 HJ7.out k' hk'; omega
      have hTT := row_oth (j := k * 5 + 4) (u := .bool y4) (row_oth (j := k * 5 + 3) (u := vi y3) (row_oth (j := k * 5 + 2) (u := vi y2) (row_oth (j := k * 5 + 1) (u := vi y1) (row_oth (j := k * 5) (u := vi y0) HJ7.out (g := g) hnj) hnj) hnj) hnj) hnj
      have hBB := bw_set (bw_set (bw_set (bw_set (bw_set HB7.out (show w.heap.size ≤ g by omega) (k * 5) (vi y0)) (show w.heap.size ≤ g by omega) (k * 5 + 1) (vi y1)) (show w.heap.size ≤ g by omega) (k * 5 + 2) (vi y2)) (show w.heap.size ≤ g by omega) (k * 5 + 3) (vi y3)) (show w.heap.size ≤ g by omega) (k * 5 + 4) (.bool y4)
      have HLL : Hid ((l.set k (⟨y0, y1, y2, y3, y4⟩ : Tk)).length = l.length) := by show _ = _; simp
      have HTT := Lib.hid hTT
      have HBB := Lib.hid hBB
      have HNJ := Lib.hid hnj
      clear hTT hBB hnj
      go_wp2
      go_ret2
      exact ⟨some ⟨g, 0, none⟩, c, l.set k (⟨y0, y1, y2, y3, y4⟩ : Tk), bo, d, js, by rw [HLL.out]; rfl, by rw [HLL.out]; exact Go.Joins.ownsRow_le HSET.out (by omega), by rw [HLL.out]; omega, HSM3.out, Go.Joins.ownsRow_le HTT.out (by omega), by omega, HSJ.out, HBB.out⟩
  · have h0 : ((r : Int) == 0) = false := by simp; omega
    have h1 : ((r : Int) == 1) = false := by simp; omega
    have h2 : ((r : Int) == 2) = false := by simp; omega
    clear h
    go_wp2
    go_ret2
    exact ⟨ao, c, l, bo, d, js, rfl, Go.Joins.ownsRow_le HT4.out (by omega), by omega, HSM.out, Go.Joins.ownsRow_le HJ4.out (by omega), by omega, HSJ.out, HB4.out⟩
end Go.Proofs.YtaadlgpglfpmpaaDoor

/-
  The walks of the draws of chapter 6 that hand tasks and jobs on.
-/

namespace Go.Proofs.YtaadlgpglfpmpaaDoor
open Go.RowKit

/-- Jobs that the call made. -/
def Js (w w' : World) (bo : Option Addr) (d : Nat) (js : List Jb) : Prop := w'.ownsRow w.heap.size 57 3 (.slice bo js.length d) js.length (jbs js) ∧ js.length ≤ 61 ∧ (∀ j ∈ js, Sj j) ∧ Bw w w'
def DrawNeedOfEnd (w : World) (e : Ending) (w' : World) : Prop := ∃ (bo : Option Addr) (d : Nat) (js : List Jb) (t : Int), e = .returned (.tuple #[.slice bo js.length d, .int .i64 t]) ∧ Js w w' bo d js
def DrawPutJobEnd (w : World) (e : Ending) (w' : World) : Prop := ∃ ao c l bo d js j, e = .returned (.tuple #[.slice ao l.length c, .slice bo js.length d, jbVal j]) ∧ TJ w w' ao c l bo d js ∧ Sj j
def DrawDueAtEnd (w : World) (e : Ending) (w' : World) : Prop := ∃ ao c l j, e = .returned (.tuple #[.slice ao l.length c, jbVal j]) ∧ Ts w w' ao c l ∧ Sj j

theorem row_below {w w' : World} {lo hi base E size n : Nat} {v : Value} {xs : List Value} (h : w.ownsRow base E size v n xs) (hh : HitR lo hi w w') (hb : ∀ k, v.ownBlock = some k → k < lo) : w'.ownsRow base E size v n xs := by
  refine ⟨h.1, ?_⟩
  rcases h.2 with hn | ⟨g, cap, cur, rfl, hg, hk, rest⟩
  · exact .inl hn
  · exact .inr ⟨g, cap, cur, rfl, hg, blk_hit hh hk (.inl (hb g rfl)), rest⟩

set_option maxRecDepth 100000 in
set_option maxHeartbeats 1600000 in
theorem DrawNeedOf_any {w0 w : World} {v : Value} (hv : RawB w0 v) (hb : Bw w0 w) : Calls Tryd.prog 35 #[v] w (DrawNeedOfEnd w) := by
  have HV := Lib.hid hv
  clear hv
  go_enter Tryd.func35, Tryd.ntmps35
  go_wp2_with fail
  refine (l6Case_any HV.out hb).mono ?_
  rintro e w1 ⟨ao, c, l, bj, d, js, rfl, ⟨_, _, _, hj, hj61, hsj, hb1⟩⟩
  have HJ := Lib.hid hj
  have HSJ := Lib.hid hsj
  have HLT := Lib.hid (row_blk hj)
  clear hj hsj
  go_wp2_with fail
  refine (l11Open_any HV.out (bw_trans hb hb1)).mono ?_
  rintro e w2 ⟨rfl, hrd, hb2⟩
  have hz2 := hb2.size
  have hG := hrd.lt
  go_wp2_with fail
  refine (num_any _ w1.heap.size w1.heap.size 0 w2.heap.size [0, 1, 2, 5] 4 (hrd.bw (bw_alloc _ _)) (by omega) (by simp) (by simp) (by omega) (ri_lit _ (heap_alloc_new w2 _) rfl)).mono ?_
  rintro e w3 ⟨x, rfl, hx, hd3⟩
  have hj3 := row_below ((row_bw HJ.out hb2).alloc (.cells #[vi 0, vi 1, vi 2, vi 5] 3)) hd3.2 HLT.out
  have hbw : Bw w w3 := bw_hit (bw_trans (bw_trans hb1 hb2) (bw_alloc _ _)) hd3.2 (by have := hb1.size; omega)
  clear hd3 hrd
  go_wp2
  go_ret2
  exact ⟨bj, d, js, x, rfl, hj3, hj61, HSJ.out, hbw⟩

theorem dr_set3 {w w' : World} {g : Nat} {a b c : Value} (h : Bw w w') (hg : w.heap.size ≤ g) : Bw w (((w'.setCell ⟨g, 0, none⟩ a).setCell ⟨g, 1, none⟩ b).setCell ⟨g, 2, none⟩ c) := bw_set (bw_set (bw_set h hg _ _) hg _ _) hg _ _
theorem row_set3 {w : World} {base E size n g : Nat} {v a b c : Value} {xs : List Value} (h : w.ownsRow base E size v n xs) (hg : g < base) : (((w.setCell ⟨g, 0, none⟩ a).setCell ⟨g, 1, none⟩ b).setCell ⟨g, 2, none⟩ c).ownsRow base E size v n xs := by
  have hne : ∀ k, v.ownBlock = some k → k ≠ g := fun k hk => by have := (h.lt k hk).1; omega
  exact row_oth (row_oth (row_oth h hne) hne) hne
abbrev box0 : Obj := .cells #[.int .i64 0, .int .i64 0, .int .i64 0] 57

end Go.Proofs.YtaadlgpglfpmpaaDoor

/-
  The walks of SortDue, of l7Draw and of DrawRunJobs.
-/


namespace Go.Proofs.YtaadlgpglfpmpaaDoor
open Go.RowKit

def dueBef (a b : Tk) : Bool := if a.due ≠ b.due then decide (a.due < b.due) else decide (a.every < b.every)
set_option maxHeartbeats 400000 in
theorem l1Before_any (x0 x1 x2 x3 y0 y1 y2 y3 : Int) (cx cy : Bool) (w : World) : Calls Tryd.prog 88 #[.agg #[.int .i64 x0, .int .i64 x1, .int .i64 x2, .int .i64 x3, .bool cx], .agg #[.int .i64 y0, .int .i64 y1, .int .i64 y2, .int .i64 y3, .bool cy]] w fun e w' => e = .returned (.bool (dueBef ⟨x0, x1, x2, x3, cx⟩ ⟨y0, y1, y2, y3, cy⟩)) ∧ Bw w w' := by
  by_cases h : x2 = y2
  · have hb : dueBef ⟨x0, x1, x2, x3, cx⟩ ⟨y0, y1, y2, y3, cy⟩ = decide (x3 < y3) := by simp [dueBef, h]
    have hne : (x2 != y2) = false := by simp [h]
    have HB := Lib.hid hb
    have H := Lib.hid h
    clear hb h
    go_enter Tryd.func88, Tryd.ntmps88
    go_wp2
    go_ret
    exact ⟨ret_b HB.out.symm, bw_trans (bw_alloc _ _) (bw_alloc _ _)⟩
  · have hb : dueBef ⟨x0, x1, x2, x3, cx⟩ ⟨y0, y1, y2, y3, cy⟩ = decide (x2 < y2) := by simp [dueBef, h]
    have hne : (x2 != y2) = true := by simp [h]
    have HB := Lib.hid hb
    have H := Lib.hid h
    clear hb h
    go_enter Tryd.func88, Tryd.ntmps88
    go_wp2
    go_ret
    exact ⟨ret_b HB.out.symm, bw_trans (bw_alloc _ _) (bw_alloc _ _)⟩

theorem row_some {w : World} {base E size n c : Nat} {ao : Option Addr} {xs : List Value} (h : w.ownsRow base E size (.slice ao n c) n xs) (hn : 0 < n) (hx : xs.length = n * size) (_hs : 0 < size) : ∃ g, ao = some ⟨g, 0, none⟩ := by
  rcases h.2 with ⟨e0, h0⟩ | ⟨g, cap, cur0, e0, _⟩
  · subst h0; omega
  · simp only [Value.slice.injEq] at e0; exact ⟨g, e0.1⟩

/-- What SortDue gives back: some of the tasks. -/
def SrtEnd (w : World) (l : List Tk) (e : Ending) (w' : World) : Prop := ∃ (bo : Option Addr) (d : Nat) (r : List Tk), e = .returned (.slice bo r.length d) ∧ w'.ownsRow w.heap.size 76 5 (.slice bo r.length d) r.length (tks r) ∧ r.length ≤ l.length ∧ (∀ t ∈ r, t ∈ l) ∧ Bw w w'

set_option maxRecDepth 100000 in
set_option maxHeartbeats 4000000 in
theorem SortDue_any (ao : Option Addr) (c : Nat) (w : World) (l : List Tk) (hl6 : l.length ≤ 6) (hr : RT w ao l) : Calls Tryd.prog 64 #[.slice ao l.length c] w (SrtEnd w l) := by
  obtain ⟨i0, hi0, hz0, hz1, hz2⟩ := info_parts infoTask
  have hl : l.length ≤ 1048576 := by omega
  have hown0 := World.ownsRow_made (base := w.heap.size) (e := 76) (size := 5) w #[] 0 (Nat.le_refl _) (by simp) rfl
  have HR := Lib.hid hr
  have HOWN0 := Lib.hid hown0
  clear hr hown0
  go_enter Tryd.func64, Tryd.ntmps64
  go_wp2_with fail
  go_loopw [3, 4] (fun u i wr => ∃ (k : Nat) (r : List Tk) (gr d : Nat), k ≤ l.length ∧ i = .int .i64 k ∧ u = .slice (some ⟨gr, 0, none⟩) r.length d ∧ r.length ≤ k ∧ Hid (∀ t ∈ r, t ∈ l) ∧ Hid (wr.ownsRow w.heap.size 76 5 (.slice (some ⟨gr, 0, none⟩) r.length d) r.length (tks r)) ∧ Bw w wr) (fun _ i _ => l.length - (intOf i).toNat)
  case atStart => exact ⟨0, [], w.heap.size, 0, Nat.zero_le _, rfl, rfl, Nat.le_refl _, by intro t ht; simp at ht, HOWN0.out, bw_alloc _ _⟩
  case round =>
    clear HOWN0
    obtain ⟨k, r, gr, d, hk, rfl, rfl, hrk, hin, hown, hbw⟩ := hrel
    by_cases hlt : k < l.length
    · obtain ⟨t, hlk⟩ := getSome hlt
      obtain ⟨y0, y1, y2, y3, y4⟩ := t
      have HLK := Lib.hid hlk
      clear hlk
      obtain ⟨bt, ot, hao, hbt0, t0, t1, t2, t3, t4⟩ := (HR.out.bw hbw) k _ HLK.out
      subst hao
      dsimp only at t0 t1 t2 t3 t4
      have T0 := Lib.hid t0
      have T1 := Lib.hid t1
      have T2 := Lib.hid t2
      have T3 := Lib.hid t3
      have T4 := Lib.hid t4
      clear t0 t1 t2 t3 t4
      go_wp2_with fail
      refine (spec.SetValid_walk _ _ _ l hl (HR.out.bw hbw)).mono ?_
      obtain ⟨g, HG⟩ : ∃ g, Hid (setOk l = g) := ⟨_, rfl⟩
      rw [HG.out]
      rintro e w1 ⟨rfl, hbs⟩
      have hb1 := bw_trans hbw hbs
      cases g with
      | false =>
        go_wp2
        go_ret
        exact ⟨some ⟨gr, 0, none⟩, d, r, rfl, row_bw hown.out hbs, by omega, hin.out, hb1⟩
      | true =>
        have hown1 := Lib.hid (row_bw hown.out hbs)
        have hrd : r.length ≤ d := by
          obtain ⟨⟨ao', c', e', _, hrd, _⟩, _⟩ := st_row hown1.out (by omega)
          simp only [Value.slice.injEq] at e'
          omega
        obtain ⟨wb, rfl⟩ : ∃ wb : World, wb = w1 := ⟨_, rfl⟩
        go_wp2
        go_loopw [5] (fun u wr => ∃ m : Nat, m ≤ r.length ∧ u = .int .i64 m ∧ Bw wb wr) (fun u _ => (intOf u).toNat)
        case atStart => exact ⟨r.length, Nat.le_refl _, rfl, Bw.refl _⟩
        case round =>
          obtain ⟨m, hmr, rfl, hbw2⟩ := hrel
          have hwk := bw_trans hb1 hbw2
          rcases Nat.eq_zero_or_pos m with h0 | h0
          · subst h0
            have hlt0 : decide ((0 : Int) < 0) = false := by simp
            go_wp2_with fail
            refine wp_region_quiet_below (by kernel_rfl) (by kernel_rfl) ?_
            repeat (go_big_quiet_step ((fail)))
            refine wpQuiet_nil ?_
            intro wq hw'
            have hbq := bw_of_ex hw'
            clear hw'
            clear hwk
            have hwq := bw_trans hbw2 hbq
            have hwk := bw_trans hb1 hwq
            have hzq := hwk.size
            have hown := row_bw hown1.out (bw_trans hbw2 hbq)
            obtain ⟨A, hA, hnews⟩ := rt_from (Own.ofRow hown).rt 0 hrd
            try simp only [Nat.zero_add] at hA
            have HNEWS := Lib.hid hnews
            clear hnews
            have hrt := (Own.ofRow hown).rt
            have hbw3 := bw_trans hbs hwq
            have t0 := cell_bw hbw3 T0.out
            have t1 := cell_bw hbw3 T1.out
            have t2 := cell_bw hbw3 T2.out
            have t3 := cell_bw hbw3 T3.out
            have t4 := cell_bw hbw3 T4.out
            have hbt := Nat.lt_of_lt_of_le hbt0 hbw3.size
            have hown0 := World.ownsRow_made (base := wq.heap.size) (e := 76) (size := 5) wq #[] 0 (Nat.le_refl _) (by simp) rfl
            have HOWN := Lib.hid hown
            have HRT := Lib.hid hrt
            clear hown hrt
            go_wp2_with (at_builtin; first
              | (refine wpList_append_own _ rfl _ _ 36 rfl wq.heap.size 76 i0 zTask 5 40 Tryd.underlying36 hi0 hz0 hz1 hz2 rfl (by decide) _ _ _ rfl hown0 ⟨gr, 0, none⟩ 0 d (tks (r.take 0)) rfl (by rw [tks_length, List.length_take, Nat.min_eq_left hmr]) (rt_cells (rt_take HRT.out 0) (bw_alloc _ _)) (oneTs _) (by unfold maxLen; omega) (by omega) (by simp only [World.size_alloc]; omega) ?_
                 intro v1 w2 hown1' hgrow1 _
                 have HW2 := Lib.hid (show Bw wq w2 from Below.grown (Below.alloc (Bw.refl wq) (Nat.le_refl _) _) hgrow1 (by simp) (fun g hg => by cases hg; simp))
                 have hz2' := HW2.out.size
                 have t0' := cell_bw HW2.out t0
                 have t1' := cell_bw HW2.out t1
                 have t2' := cell_bw HW2.out t2
                 have t3' := cell_bw HW2.out t3
                 have t4' := cell_bw HW2.out t4
                 have hbt2 := Nat.lt_of_lt_of_le hbt hz2')
              | (refine wpList_append_own _ rfl _ _ 36 rfl wq.heap.size 76 i0 zTask 5 40 Tryd.underlying36 hi0 hz0 hz1 hz2 rfl (by decide) _ _ _ rfl (hown1'.alloc _) ⟨w2.heap.size, 0, none⟩ 1 1 (tkCells ⟨y0, y1, y2, y3, y4⟩) rfl rfl (cell_task_new _ ⟨y0, y1, y2, y3, y4⟩ 76) (oneT _) (by unfold maxLen; omega) (by omega) (by simp only [World.size_alloc]; omega) ?_
                 intro v2 w3 hown2 hgrow2 _
                 have HW3 := Lib.hid (show Bw wq w3 from Below.grown (Below.alloc HW2.out hz2' _) hgrow2 (by simp only [World.size_alloc]; omega) (fun g hg => by have := own_cap0 hown1' g hg; omega)))
              | (refine wpList_append_own _ rfl _ _ 36 rfl wq.heap.size 76 i0 zTask 5 40 Tryd.underlying36 hi0 hz0 hz1 hz2 rfl (by decide) _ _ _ rfl hown2 ⟨gr, 0, none⟩ r.length d (tks r) rfl (tks_length _) (rt_cells HRT.out HW3.out) (oneTs _) (by unfold maxLen; omega) (by omega) (by have := HW3.out.size; omega) ?_
                 intro v3 w4 hown3 hgrow3 _
                 obtain ⟨ao2, c2, hu⟩ := own_form hown3
                 subst hu))
            have HW4 := Lib.hid (show Bw wq w4 from Below.grown HW3.out hgrow3 (by have := HW3.out.size; omega) (fun g hg => by have := own_cap0 hown2 g hg; omega))
            obtain ⟨out, HOUT⟩ : ∃ out, Hid (out = r.take 0 ++ (⟨y0, y1, y2, y3, y4⟩ : Tk) :: r.drop 0) := ⟨_, rfl⟩
            have hol0 : out.length = 0 + 0 + 1 + r.length := by rw [HOUT.out]; simp; omega
            have hown4 : w4.ownsRow w.heap.size 76 5 (.slice ao2 out.length c2) out.length (tks out) := by
              have e : tks out = [] ++ tks (r.take 0) ++ tkCells ⟨y0, y1, y2, y3, y4⟩ ++ tks (r.drop 0) := by rw [HOUT.out]; simp [tks]
              rw [e, hol0]; exact Go.Joins.ownsRow_le hown3 (by omega)
            obtain ⟨g2, rfl⟩ := row_some hown4 (by omega) (tks_length _) (by decide)
            have hmem : ∀ t ∈ out, t ∈ l := by
              rw [HOUT.out]
              intro t ht
              rcases List.mem_append.1 ht with ht | ht
              · exact hin.out t (List.mem_of_mem_take ht)
              · rcases List.mem_cons.1 ht with rfl | ht
                · exact List.mem_of_getElem? HLK.out
                · exact hin.out t (List.mem_of_mem_drop ht)
            clear hown3 hgrow3 hown2 hgrow2 hown1' hgrow1 hA t0 t1 t2 t3 t4 t0' t1' t2' t3' t4'
            have HMEM := Lib.hid hmem
            have HOWN4 := Lib.hid hown4
            clear hmem hown4
            go_wp2
            go_roundw
            case rel => exact ⟨k + 1, out, g2, c2, by omega, by go_num, by show Value.slice _ _ _ = Value.slice _ _ _; congr 1; omega, by omega, HMEM.out, HOWN4.out, bw_trans hwk HW4.out⟩
            case measure => simp [intOf]; omega
          · obtain ⟨n, rfl⟩ : ∃ n, m = n + 1 := ⟨m - 1, by omega⟩
            obtain ⟨tp, htp⟩ := getSome (l := r) (k := n) (by omega)
            obtain ⟨x0, x1, x2, x3, x4⟩ := tp
            obtain ⟨b3, off3, hbo, hbs3, c0, c1, c2, c3, c4⟩ := (Own.ofRow (row_bw hown1.out hbw2)).rt n _ htp
            simp only [Option.some.injEq, Addr.mk.injEq, and_true] at hbo
            obtain ⟨rfl, rfl⟩ := hbo
            have hbw3 := bw_trans hbs hbw2
            have t0 := cell_bw hbw3 T0.out
            have t1 := cell_bw hbw3 T1.out
            have t2 := cell_bw hbw3 T2.out
            have t3 := cell_bw hbw3 T3.out
            have t4 := cell_bw hbw3 T4.out
            dsimp only at c0 c1 c2 c3 c4
            simp only [Nat.zero_add] at c0 c1 c2 c3 c4
            obtain ⟨gb, HGB⟩ : ∃ gb, Hid (dueBef ⟨y0, y1, y2, y3, y4⟩ ⟨x0, x1, x2, x3, x4⟩ = gb) := ⟨_, rfl⟩
            have hbc := fun (W : World) => l1Before_any y0 y1 y2 y3 x0 x1 x2 x3 y4 x4 W
            simp only [HGB.out] at hbc
            have m0 := fun d os => cell_regrown c0 d os
            have m1 := fun d os => cell_regrown c1 d os
            have m2 := fun d os => cell_regrown c2 d os
            have m3 := fun d os => cell_regrown c3 d os
            have m4 := fun d os => cell_regrown c4 d os
            have n0 := fun d os => cell_regrown t0 d os
            have n1 := fun d os => cell_regrown t1 d os
            have n2 := fun d os => cell_regrown t2 d os
            have n3 := fun d os => cell_regrown t3 d os
            have n4 := fun d os => cell_regrown t4 d os
            clear c0 c1 c2 c3 c4 t0 t1 t2 t3 t4
            have HTP := Lib.hid htp
            have HBC := Lib.hid hbc
            clear htp hbc
            go_wp2_with fail
            refine wp_region_quiet_below (by kernel_rfl) (by kernel_rfl) ?_
            repeat (go_big_quiet_step ((go_at_call 88; exact Calls.regrown_of (HBC.out _))))
            refine wpQuiet_nil ?_
            intro wq hw'
            have hbq := bw_of_ex hw'
            clear hw'
            clear m0 m1 m2 m3 m4 n0 n1 n2 n3 n4 hbw3
            cases gb with
            | true =>
              go_wp2
              go_roundw
              case rel => exact ⟨n, by omega, by go_num, bw_trans hbw2 hbq⟩
              case measure => simp [intOf]
            | false =>
              clear hwk
              have hwq := bw_trans hbw2 hbq
              have hwk := bw_trans hb1 hwq
              have hzq := hwk.size
              have hown := row_bw hown1.out (bw_trans hbw2 hbq)
              obtain ⟨A, hA, hnews⟩ := rt_from (Own.ofRow hown).rt (n + 1) hrd
              try simp only [Nat.zero_add] at hA
              have HNEWS := Lib.hid hnews
              clear hnews
              have hrt := (Own.ofRow hown).rt
              have hbw3 := bw_trans hbs hwq
              have t0 := cell_bw hbw3 T0.out
              have t1 := cell_bw hbw3 T1.out
              have t2 := cell_bw hbw3 T2.out
              have t3 := cell_bw hbw3 T3.out
              have t4 := cell_bw hbw3 T4.out
              have hbt := Nat.lt_of_lt_of_le hbt0 hbw3.size
              have hown0 := World.ownsRow_made (base := wq.heap.size) (e := 76) (size := 5) wq #[] 0 (Nat.le_refl _) (by simp) rfl
              have HOWN := Lib.hid hown
              have HRT := Lib.hid hrt
              clear hown hrt
              go_wp2_with (at_builtin; first
                | (refine wpList_append_own _ rfl _ _ 36 rfl wq.heap.size 76 i0 zTask 5 40 Tryd.underlying36 hi0 hz0 hz1 hz2 rfl (by decide) _ _ _ rfl hown0 ⟨gr, 0, none⟩ (n + 1) d (tks (r.take (n + 1))) rfl (by rw [tks_length, List.length_take, Nat.min_eq_left hmr]) (rt_cells (rt_take HRT.out (n + 1)) (bw_alloc _ _)) (oneTs _) (by unfold maxLen; omega) (by omega) (by simp only [World.size_alloc]; omega) ?_
                   intro v1 w2 hown1' hgrow1 _
                   have HW2 := Lib.hid (show Bw wq w2 from Below.grown (Below.alloc (Bw.refl wq) (Nat.le_refl _) _) hgrow1 (by simp) (fun g hg => by cases hg; simp))
                   have hz2' := HW2.out.size
                   have t0' := cell_bw HW2.out t0
                   have t1' := cell_bw HW2.out t1
                   have t2' := cell_bw HW2.out t2
                   have t3' := cell_bw HW2.out t3
                   have t4' := cell_bw HW2.out t4
                   have hbt2 := Nat.lt_of_lt_of_le hbt hz2')
                | (refine wpList_append_own _ rfl _ _ 36 rfl wq.heap.size 76 i0 zTask 5 40 Tryd.underlying36 hi0 hz0 hz1 hz2 rfl (by decide) _ _ _ rfl (hown1'.alloc _) ⟨w2.heap.size, 0, none⟩ 1 1 (tkCells ⟨y0, y1, y2, y3, y4⟩) rfl rfl (cell_task_new _ ⟨y0, y1, y2, y3, y4⟩ 76) (oneT _) (by unfold maxLen; omega) (by omega) (by simp only [World.size_alloc]; omega) ?_
                   intro v2 w3 hown2 hgrow2 _
                   have HW3 := Lib.hid (show Bw wq w3 from Below.grown (Below.alloc HW2.out hz2' _) hgrow2 (by simp only [World.size_alloc]; omega) (fun g hg => by have := own_cap0 hown1' g hg; omega)))
                | (refine wpList_append_own _ rfl _ _ 36 rfl wq.heap.size 76 i0 zTask 5 40 Tryd.underlying36 hi0 hz0 hz1 hz2 rfl (by decide) _ _ _ rfl hown2 A (r.length - (n + 1)) (d - (n + 1)) (tks (r.drop (n + 1))) rfl (by rw [tks_length, List.length_drop]) (HNEWS.out _ HW3.out) (oneTs _) (by unfold maxLen; omega) (by omega) (by have := HW3.out.size; omega) ?_
                   intro v3 w4 hown3 hgrow3 _
                   obtain ⟨ao2, c2, hu⟩ := own_form hown3
                   subst hu))
              have HW4 := Lib.hid (show Bw wq w4 from Below.grown HW3.out hgrow3 (by have := HW3.out.size; omega) (fun g hg => by have := own_cap0 hown2 g hg; omega))
              obtain ⟨out, HOUT⟩ : ∃ out, Hid (out = r.take (n + 1) ++ (⟨y0, y1, y2, y3, y4⟩ : Tk) :: r.drop (n + 1)) := ⟨_, rfl⟩
              have hol0 : out.length = 0 + (n + 1) + 1 + (r.length - (n + 1)) := by rw [HOUT.out]; simp; omega
              have hown4 : w4.ownsRow w.heap.size 76 5 (.slice ao2 out.length c2) out.length (tks out) := by
                have e : tks out = [] ++ tks (r.take (n + 1)) ++ tkCells ⟨y0, y1, y2, y3, y4⟩ ++ tks (r.drop (n + 1)) := by rw [HOUT.out]; simp [tks]
                rw [e, hol0]; exact Go.Joins.ownsRow_le hown3 (by omega)
              obtain ⟨g2, rfl⟩ := row_some hown4 (by omega) (tks_length _) (by decide)
              have hmem : ∀ t ∈ out, t ∈ l := by
                rw [HOUT.out]
                intro t ht
                rcases List.mem_append.1 ht with ht | ht
                · exact hin.out t (List.mem_of_mem_take ht)
                · rcases List.mem_cons.1 ht with rfl | ht
                  · exact List.mem_of_getElem? HLK.out
                  · exact hin.out t (List.mem_of_mem_drop ht)
              clear hown3 hgrow3 hown2 hgrow2 hown1' hgrow1 hA t0 t1 t2 t3 t4 t0' t1' t2' t3' t4'
              have HMEM := Lib.hid hmem
              have HOWN4 := Lib.hid hown4
              clear hmem hown4
              go_wp2
              go_roundw
              case rel => exact ⟨k + 1, out, g2, c2, by omega, by go_num, by show Value.slice _ _ _ = Value.slice _ _ _; congr 1; omega, by omega, HMEM.out, HOWN4.out, bw_trans hwk HW4.out⟩
              case measure => simp [intOf]; omega
    · have hge : decide ((k : Int) < (l.length : Int)) = false := decide_eq_false (by omega)
      go_wp2
      go_ret
      exact ⟨some ⟨gr, 0, none⟩, d, r, rfl, hown.out, by omega, hin.out, hbw⟩
end Go.Proofs.YtaadlgpglfpmpaaDoor

/-
  The walks of l7Draw and of DrawRunJobs.
-/

namespace Go.Proofs.YtaadlgpglfpmpaaDoor
open Go.RowKit

theorem set_due {cur : Array Value} {A B : List Tk} {t : Tk} {n : Nat} (h : cur.toList.take n = tks (A ++ t :: B)) (x : Int) :
    (cur.setIfInBounds (A.length * 5 + 2) (vi x)).toList.take n = tks (A ++ ({ t with due := x } : Tk) :: B) := by
  simp only [Array.toList_setIfInBounds, List.take_set, h]
  have e : tks (A ++ t :: B) = tks A ++ ([vi t.low, vi t.high, vi t.due, vi t.every, .bool t.crit] ++ tks B) := by simp [tks, tkCells]
  have e2 : tks (A ++ ({ t with due := x } : Tk) :: B) = tks A ++ ([vi t.low, vi t.high, vi x, vi t.every, .bool t.crit] ++ tks B) := by simp [tks, tkCells]
  rw [e, e2, List.set_append_right _ _ (by rw [tks_length]; omega), tks_length, show A.length * 5 + 2 - A.length * 5 = 2 by omega]
  rfl
theorem row_setd {w : World} {base g c n : Nat} {l : List Tk} (h : w.ownsRow base 76 5 (.slice (some ⟨g, 0, none⟩) n c) n (tks l)) (hn : n = l.length) {k : Nat} {t : Tk} (ht : l[k]? = some t) (x : Int) :
    (w.setCell ⟨g, k * 5 + 2, none⟩ (vi x)).ownsRow base 76 5 (.slice (some ⟨g, 0, none⟩) n c) n (tks (l.set k { t with due := x })) := by
  have hk : k < l.length := (List.getElem?_eq_some_iff.1 ht).1
  have hA : (l.take k).length = k := by rw [List.length_take]; omega
  have hs : l.set k { t with due := x } = l.take k ++ { t with due := x } :: l.drop (k + 1) := by rw [List.set_eq_take_append_cons_drop, if_pos hk]
  rw [hs]
  rcases h.2 with ⟨e, _⟩ | ⟨g', cap, cur, e, hg, hh, a1, a2, a3, a4⟩
  · simp at e
  · simp at e; obtain ⟨rfl, rfl⟩ := e
    rw [split_at ht] at a4
    have hst := set_due a4 x
    rw [hA] at hst
    exact ⟨by rw [tks_length]; simp; omega, .inr ⟨g, c, _, rfl, hg, blk_set hh (k * 5 + 2) (vi x), a1, a2, by simpa using a3, hst⟩⟩

def Draw7End (w : World) (base G p : Nat) (e : Ending) (w' : World) : Prop := ∃ (ao : Option Addr) (c : Nat) (l : List Tk) (bo : Option Addr) (d : Nat) (js : List Jb) (P q : Nat), e = .returned (.tuple #[.slice ao l.length c, .slice bo js.length d, .int .i64 P]) ∧ w'.ownsRow w.heap.size 76 5 (.slice ao l.length c) l.length (tks l) ∧ l.length ≤ 6 ∧ (∀ t ∈ l, Sm t) ∧ w'.ownsRow w.heap.size 57 3 (.slice bo js.length d) js.length (jbs js) ∧ js.length ≤ 61 ∧ (∀ j ∈ js, Sj j) ∧ P < 2 ∧ q ≤ p + 200 ∧ Dr w w' base G q

set_option maxRecDepth 100000 in
set_option maxHeartbeats 3200000 in
theorem l7Draw_any (w : World) (base G p : Nat) (hr : Rd w base G p) (hp : p ≤ 400000) : Calls Tryd.prog 45 #[.pointer (some ⟨G, 0, none⟩)] w (Draw7End w base G p) := by
  have hG := hr.lt
  have hbG := hr.1
  have HR := Lib.hid hr
  clear hr
  go_enter Tryd.func45, Tryd.ntmps45
  go_wp2_with fail
  refine (pick_any _ base G p _ HR.out (by omega)).mono ?_
  rintro e w1 ⟨P, rfl, hP, hd1⟩
  have hz1 := hd1.2.size
  have HR1 := Lib.hid hd1.1
  have HH1 := Lib.hid hd1.2
  have hP2 : P < 2 := by omega
  clear hd1 hP
  go_wp2_with fail
  refine (l1Set_any _ _ _ _ HR1.out (by omega)).mono ?_
  rintro e w2 ⟨ao, c, l0, q, rfl, hown, hl5, hsm, hq, hd2⟩
  have hz2 := hd2.2.size
  have HSM := Lib.hid hsm
  have HR2 := Lib.hid hd2.1
  have HH2 := Lib.hid (HitR.trans HH1.out hd2.2)
  have HT2 := Lib.hid (Own.ofRow hown).rt
  clear hsm hd2 hown
  go_wp2_with fail
  refine (SortDue_any _ _ _ l0 (by omega) HT2.out).mono ?_
  rintro e w3 ⟨bo, d, l, rfl, hown, hll, hin, hb3⟩
  have hz3 := hb3.size
  have HSM3 : Hid (∀ t ∈ l, Sm t) := fun t ht => HSM.out t (hin t ht)
  have HR3 := Lib.hid (HR2.out.bw hb3)
  have HH3 := Lib.hid (HH2.out.trans (HitR.of_bw hb3))
  have HOW3 := Lib.hid hown
  clear hin hb3 hown HSM
  have hl6 : l.length ≤ 6 := by omega
  by_cases hP1 : P = 1
  · subst hP1
    have e14 : ((1 : Int) == 1) = true := rfl
    go_wp2_with fail
    go_loopw [7] (fun i wr => ∃ (k : Nat) (l' : List Tk), k ≤ l.length ∧ i = .int .i64 k ∧ Hid (l'.length = l.length) ∧ Hid (∀ t ∈ l', Sm t) ∧ Hid (wr.ownsRow w2.heap.size 76 5 (.slice bo l.length d) l.length (tks l')) ∧ Hid (Rd wr base G q) ∧ Hid (HitR G (G + 1) w wr)) (fun i _ => l.length - (intOf i).toNat)
    case atStart => exact ⟨0, l, Nat.zero_le _, rfl, rfl, HSM3.out, HOW3.out, HR3.out, HH3.out⟩
    case round =>
      clear HOW3 HR3 HH3 HSM3
      obtain ⟨k, l', hk, rfl, hll', hsm, hown, hrd, hh⟩ := hrel
      by_cases hlt : k < l.length
      · obtain ⟨t, ht⟩ := getSome (l := l') (k := k) (by rw [hll'.out]; exact hlt)
        obtain ⟨g, rfl⟩ := row_some hown.out (by omega) (by rw [tks_length, hll'.out]) (by decide)
        obtain ⟨y0, y1, y2, y3, y4⟩ := t
        obtain ⟨b, off, e, hbs, c0, c1, c2, c3, c4⟩ := (Own.ofRow hown.out).rt k _ ht
        simp only [Option.some.injEq, Addr.mk.injEq, and_true] at e
        obtain ⟨rfl, rfl⟩ := e
        dsimp only at c2 c3
        simp only [Nat.zero_add] at c2 c3
        have hfz : ∀ j, wr.frozen? ⟨g, j, none⟩ = false := by
          rcases hown.out.2 with ⟨e0, _⟩ | ⟨g', cap, cur0, e0, _, hbk, _⟩
          · simp at e0
          · simp at e0; obtain ⟨rfl, _⟩ := e0; exact fun j => blk_free hbk j
        have hg2 := own_cap0 hown.out g rfl
        have HOW := Lib.hid (row_setd hown.out hll'.out.symm ht y3)
        have hs := hsm.out _ (List.mem_of_getElem? ht)
        have HSM' : Hid (∀ t ∈ l'.set k ({ (⟨y0, y1, y2, y3, y4⟩ : Tk) with due := y3 } : Tk), Sm t) := by
          intro t' ht'
          rcases List.mem_or_eq_of_mem_set ht' with h | rfl
          · exact hsm.out t' h
          · exact ⟨hs.1, hs.2.1, hs.2.2.2, hs.2.2.2⟩
        have HRD := Lib.hid (hrd.out.set (g := g) (by omega) (by omega) (k * 5 + 2) (vi y3))
        have HHH := Lib.hid (hitR_own hh.out (g := g) (by omega) (k * 5 + 2) (vi y3))
        have HT := Lib.hid ht
        have HS := Lib.hid hs
        clear ht hs
        clear c0 c1 c4
        go_wp2
        go_roundw
        case rel => exact ⟨k + 1, _, by omega, by go_num, by show _ = _; rw [List.length_set]; exact hll'.out, HSM'.out, HOW.out, HRD.out, HHH.out⟩
        case measure => simp [intOf]; omega
      · have hge : decide ((k : Int) < (l.length : Int)) = false := decide_eq_false (by omega)
        have hln := hll'.out
        have hl62 : l'.length ≤ 6 := by omega
        obtain ⟨n, hn⟩ : ∃ n, l.length = n := ⟨_, rfl⟩
        rw [hn] at hln hge hown
        go_wp2_with fail
        rw [hn, ← hln]
        rw [← hln] at hown
        have HLN := Lib.hid hln
        have HN := Lib.hid hn
        have HLL' := Lib.hid hll'
        clear hln hn hll'
        clear hge
        refine (l6Jobs_any _ _ _ _ w2.heap.size d bo l' hrd.out (by omega) (by omega) hown.out hl62 hsm.out).mono ?_
        rintro e w5 ⟨bj, dj, js, q5, rfl, hj, hj60, hsj, hq5, hd5⟩
        have HOW5 := Lib.hid (row_hit hown.out hd5.2 (by omega))
        have HJ5 := Lib.hid hj
        have HD5 := Lib.hid (show Dr w w5 base G q5 from ⟨hd5.1, HitR.trans hh.out hd5.2⟩)
        have hzr := hh.out.size
        have HSJ := Lib.hid hsj
        clear hsj
        clear hj hd5
        go_wp2
        go_ret3
        exact ⟨bo, d, l', bj, dj, js, 1, q5, rfl, Go.Joins.ownsRow_le HOW5.out (by omega), hl62, hsm.out, Go.Joins.ownsRow_le HJ5.out hzr, by omega, HSJ.out, by omega, by omega, HD5.out⟩
  · have e14 : ((P : Int) == 1) = false := by simp; omega
    have HP1 := Lib.hid hP1
    clear hP1
    go_wp2_with fail
    refine (l6Jobs_any _ _ _ _ w2.heap.size d bo l HR3.out (by omega) (by omega) HOW3.out hl6 HSM3.out).mono ?_
    rintro e w5 ⟨bj, dj, js, q5, rfl, hj, hj60, hsj, hq5, hd5⟩
    have HOW5 := Lib.hid (row_hit HOW3.out hd5.2 (by omega))
    have HJ5 := Lib.hid hj
    have HD5 := Lib.hid (show Dr w w5 base G q5 from ⟨hd5.1, HitR.trans HH3.out hd5.2⟩)
    have HSJ := Lib.hid hsj
    clear hsj
    clear hj hd5
    go_wp2
    go_ret3
    exact ⟨bo, d, l, bj, dj, js, P, q5, rfl, Go.Joins.ownsRow_le HOW5.out (by omega), hl6, HSM3.out, Go.Joins.ownsRow_le HJ5.out (by omega), by omega, HSJ.out, hP2, by omega, HD5.out⟩

theorem results_tmp4 {fn : Func} {t u v x : Tmp} (h : fn.results = #[.tmp t, .tmp u, .tmp v, .tmp x]) (tmps : Array Value) (P : Program) (w : World) :
    (results fn tmps).run P w = .ok (.tuple #[tmps.getD t undef, tmps.getD u undef, tmps.getD v undef, tmps.getD x undef]) w := by
  simp [results, h]
def DrawRunEnd (w : World) (e : Ending) (w' : World) : Prop := ∃ (ao : Option Addr) (c : Nat) (l : List Tk) (bo : Option Addr) (d : Nat) (js : List Jb) (P N : Int), e = .returned (.tuple #[.slice ao l.length c, .slice bo js.length d, .int .i64 P, .int .i64 N]) ∧ TJ w w' ao c l bo d js ∧ (-1 ≤ P ∧ P ≤ 2) ∧ (-1 ≤ N ∧ N ≤ 201)
set_option maxRecDepth 100000 in
set_option maxHeartbeats 3200000 in
theorem DrawRunJobs_any {w0 w : World} {v : Value} (hv : RawB w0 v) (hb : Bw w0 w) : Calls Tryd.prog 23 #[v] w (DrawRunEnd w) := by
  have HV := Lib.hid hv
  clear hv
  go_enter Tryd.func23, Tryd.ntmps23
  go_wp2_with fail
  refine (l11Open_any HV.out hb).mono ?_
  rintro e w1 ⟨rfl, hrd, hb1⟩
  have hz1 := hb1.size
  have hG := hrd.lt
  go_wp2_with fail
  refine (l7Draw_any _ _ _ _ hrd (by omega)).mono ?_
  rintro e w2 ⟨ao, c, l, bo, d, js, P, q, rfl, hown, hl6, hsm, hjow, hj61, hsj, hP, hq, hd2⟩
  have hz2 := hd2.2.size
  have HSM := Lib.hid hsm
  have HSJ := Lib.hid hsj
  have HT2 := Lib.hid hown
  have HJ2 := Lib.hid hjow
  have HR2 := Lib.hid hd2.1
  have HB2 := Lib.hid (show Bw w w2 from bw_hit hb1 hd2.2 (Nat.le_refl _))
  clear hsm hsj hown hjow hd2 hrd
  go_wp2_with fail
  refine (pick_any _ _ _ _ _ HR2.out (by omega)).mono ?_
  rintro e w3 ⟨r, rfl, hr, hd3⟩
  have hz3 := hd3.2.size
  have HT3 := Lib.hid (row_hit HT2.out hd3.2 (by omega))
  have HJ3 := Lib.hid (row_hit HJ2.out hd3.2 (by omega))
  have HR3 := Lib.hid hd3.1
  have HB3 := Lib.hid (show Bw w w3 from bw_hit HB2.out hd3.2 (Nat.le_refl _))
  clear hd3
  by_cases h0 : r = 0
  · subst h0
    go_wp2_with fail
    refine (l6Case_any HV.out (bw_trans hb HB3.out)).mono ?_
    rintro e w4 ⟨ao4, c4, l4, bo4, d4, js4, rfl, ⟨hown, hl64, hsm, hjow, hj64, hsj, hb4⟩⟩
    have hz4 := hb4.size
    have HSM4 := Lib.hid hsm
    have HSJ4 := Lib.hid hsj
    have HT4 := Lib.hid hown
    have HJ4 := Lib.hid hjow
    have HR4 := Lib.hid (HR3.out.bw hb4)
    have HB4 := Lib.hid (bw_trans HB3.out hb4)
    clear hsm hsj hown hjow hb4
    go_wp2_with fail
    refine (num_any _ w.heap.size w.heap.size _ w4.heap.size [0, 1, 2, -1] 4 (HR4.out.bw (bw_alloc _ _)) (by omega) (by simp) (by simp) (by omega) (ri_lit _ (heap_alloc_new w4 _) rfl)).mono ?_
    rintro e w5 ⟨x, rfl, hx, hd5⟩
    have hz5 := hd5.2.size
    simp only [World.size_alloc] at hz5
    have hxb : -1 ≤ x ∧ x ≤ 2 := by simp at hx; omega
    have HR5 := Lib.hid hd5.1
    have HB5 := Lib.hid (show Bw w w5 from bw_hit (bw_trans HB4.out (bw_alloc _ _)) hd5.2 (Nat.le_refl _))
    have HT5 := Lib.hid (row_hit (HT4.out.alloc _) hd5.2 (by omega))
    have HJ5 := Lib.hid (row_hit (HJ4.out.alloc _) hd5.2 (by omega))
    clear hd5 hx
    go_wp2_with fail
    refine (num_any _ w.heap.size w.heap.size _ w5.heap.size [40, 20, 60, 5, 0, 201, -1] 7 (HR5.out.bw (bw_alloc _ _)) (by omega) (by simp) (by simp) (by omega) (ri_lit _ (heap_alloc_new w5 _) rfl)).mono ?_
    rintro e w6 ⟨y, rfl, hy, hd6⟩
    have hyb : -1 ≤ y ∧ y ≤ 201 := by simp at hy; omega
    have HB6 := Lib.hid (show Bw w w6 from bw_hit (bw_trans HB5.out (bw_alloc _ _)) hd6.2 (Nat.le_refl _))
    have HT6 := Lib.hid (row_hit (HT5.out.alloc _) hd6.2 (by omega))
    have HJ6 := Lib.hid (row_hit (HJ5.out.alloc _) hd6.2 (by omega))
    clear hd6 hy
    go_wp2
    (try simp only [Exit.inBlock, Exit.then]); refine bodyPost_ret (results_tmp4 rfl _ _ _) rfl ?_
    exact ⟨ao4, c4, l4, bo4, d4, js4, x, y, rfl, ⟨Go.Joins.ownsRow_le HT6.out (by omega), hl64, HSM4.out, Go.Joins.ownsRow_le HJ6.out (by omega), hj64, HSJ4.out, HB6.out⟩, hxb, hyb⟩
  · have h0b : ((r : Int) == 0) = false := by simp; omega
    clear h0
    go_wp2_with fail
    refine (num_any _ w.heap.size w.heap.size _ w3.heap.size [40, 20, 60, 5, 0, 201, -1] 7 (HR3.out.bw (bw_alloc _ _)) (by omega) (by simp) (by simp) (by omega) (ri_lit _ (heap_alloc_new w3 _) rfl)).mono ?_
    rintro e w6 ⟨y, rfl, hy, hd6⟩
    have hyb : -1 ≤ y ∧ y ≤ 201 := by simp at hy; omega
    have HB6 := Lib.hid (show Bw w w6 from bw_hit (bw_trans HB3.out (bw_alloc _ _)) hd6.2 (Nat.le_refl _))
    have HT6 := Lib.hid (row_hit (HT3.out.alloc _) hd6.2 (by omega))
    have HJ6 := Lib.hid (row_hit (HJ3.out.alloc _) hd6.2 (by omega))
    clear hd6 hy
    go_wp2
    (try simp only [Exit.inBlock, Exit.then]); refine bodyPost_ret (results_tmp4 rfl _ _ _) rfl ?_
    exact ⟨ao, c, l, bo, d, js, P, y, rfl, ⟨Go.Joins.ownsRow_le HT6.out (by omega), hl6, HSM.out, Go.Joins.ownsRow_le HJ6.out (by omega), hj61, HSJ.out, HB6.out⟩, ⟨by omega, by omega⟩, hyb⟩
end Go.Proofs.YtaadlgpglfpmpaaDoor
