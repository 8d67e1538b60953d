/-
  The walk of l6Jobs: jobs that are drawn are small and lie in memory of their own.
-/
import Derived.Test.YtbgfclcnddgboaaDrA
import Derived.Test.YtbgfclcnddgboaaPutS
import Derived.Test.YtbgfclcnddgboaaWorstS
import Derived.Deep.RegionHeld3
import Derived.Deep.DeepCutAuto
namespace Go.Proofs.Ytbgfclcnddgboaa
open Go.RowKit

def Sj (j : Jb) : Prop := (-1000 ≤ j.task ∧ j.task ≤ 1000) ∧ (-1000 ≤ j.at_ ∧ j.at_ ≤ 1000) ∧ (-1000 ≤ j.need ∧ j.need ≤ 1000)
theorem wjIn_sj (hi : Bool) (t : Nat) (ht : t ≤ 200) : ∀ (l : List Tk) (i : Nat) (acc r : List Jb), i + l.length ≤ 6 → (∀ x ∈ l, Sm x) → (∀ j ∈ acc, Sj j) → wjIn hi t i l acc = some r → ∀ j ∈ r, Sj j
  | [], i, acc, r, _, _, h, e => by simp [wjIn] at e; subst e; exact h
  | x :: l, i, acc, r, hn, hs, h, e => by
    simp only [wjIn] at e
    simp only [List.length_cons] at hn
    have hx := hs x (by simp)
    split at e
    · exact wjIn_sj hi t ht l _ acc r (by omega) (fun y hy => hs y (by simp [hy])) h e
    · split at e
      · cases e
      · refine wjIn_sj hi t ht l _ _ r (by omega) (fun y hy => hs y (by simp [hy])) (fun j hj => ?_) e
        rcases List.mem_append.1 hj with hj | hj
        · exact h j hj
        · simp at hj; subst hj
          obtain ⟨⟨a, b⟩, ⟨c, d⟩, _⟩ := hx
          refine ⟨⟨by dsimp only; omega, by dsimp only; omega⟩, ⟨by dsimp only; omega, by dsimp only; omega⟩, ?_⟩
          cases hi <;> simp <;> omega
theorem wjOut_sj (hi : Bool) (l : List Tk) (hl : l.length ≤ 6) (hs : ∀ x ∈ l, Sm x) : ∀ (m t : Nat) (acc r : List Jb), t + m ≤ 200 → (∀ j ∈ acc, Sj j) → wjOut hi l m t acc = some r → ∀ j ∈ r, Sj j
  | 0, t, acc, r, _, h, e => by simp [wjOut] at e; subst e; exact h
  | m + 1, t, acc, r, ht, h, e => by
    simp only [wjOut] at e
    cases hi' : wjIn hi t 0 l acc with
    | none => rw [hi'] at e; cases e
    | some a => rw [hi'] at e; exact wjOut_sj hi l hl hs m _ a r (by omega) (wjIn_sj hi t (by omega) l 0 acc a (by omega) hs h hi') e
theorem worst_sj (l : List Tk) (u : Int) (hi : Bool) (hl : l.length ≤ 6) (hs : ∀ x ∈ l, Sm x) : ∀ j ∈ (worst l u hi).1, Sj j := by
  unfold worst
  split
  · rename_i h
    cases e : wjOut hi l u.toNat 0 [] with
    | none => intro j hj; simp [optJ] at hj
    | some a => exact wjOut_sj hi l hl hs _ _ _ a (by omega) (by simp) e
  · intro j hj; simp at hj
theorem put_sj (l : List Tk) (js : List Jb) (x : Jb) (h : ∀ j ∈ js, Sj j) (hx : Sj x) : ∀ j ∈ (putJ l js x).1, Sj j := by
  unfold putJ
  split
  · intro j hj
    rcases (insJ_mem x js j).1 hj with rfl | hj
    · exact hx
    · exact h j hj
  · intro j hj; simp at hj

theorem cell_far {w : World} {g h i j : Nat} {v u : Value} (hc : w.cell? ⟨g, i, none⟩ = some v) (hne : g ≠ h) : (w.setCell ⟨h, j, none⟩ u).cell? ⟨g, i, none⟩ = some v :=
  (World.cell?_setCell_other w _ _ _ (fun e => hne (by injection e with e1 _ _; exact e1.symm))).trans hc
theorem worst_specR {w : World} {v : Value} {l : List Tk} (hl : ST w v l) (u : Int) (hi : Bool) : Calls Try.prog 98 #[v, .int .i64 u, .bool hi] w (RetP w 26 3 (jbs (worst l u hi).1) (worst l u hi).1.length (worst l u hi).2) := by
  obtain ⟨⟨ao, c, rfl, hr, _⟩, hn⟩ := hl
  cases hi
  · exact WorstJobs_spec_false ao c w l u hn hr
  · exact WorstJobs_spec_true ao c w l u hn hr

def JobsEnd (K : Nat) (w : World) (base G p : Nat) (e : Ending) (w' : World) : Prop := ∃ (ao : Option Addr) (c : Nat) (l : List Jb) (q : Nat), e = .returned (.slice ao l.length c) ∧ w'.ownsRow w.heap.size 26 3 (.slice ao l.length c) l.length (jbs l) ∧ l.length ≤ 60 ∧ (∀ t ∈ l, Sj t) ∧ q ≤ p + K ∧ Dr w w' base G q

set_option maxRecDepth 100000 in
set_option maxHeartbeats 3200000 in
theorem l6Jobs_any (w : World) (base G p B c : Nat) (ao : Option Addr) (l : List Tk) (hr : Rd w base G p) (hp : p ≤ 600000) (hB : G < B) (hrow : w.ownsRow B 64 5 (.slice ao l.length c) l.length (tks l)) (hl6 : l.length ≤ 6) (hsm : ∀ t ∈ l, Sm t) :
    Calls Try.prog 78 #[.pointer (some ⟨G, 0, none⟩), .slice ao l.length c] w (JobsEnd 100 w base G p) := by
  have hG := hr.lt
  have hbG := hr.1
  have hl : l.length ≤ 1048576 := by omega
  have HR := Lib.hid hr
  have HROW := Lib.hid hrow
  have HSM := Lib.hid hsm
  clear hr hrow hsm
  go_enter Try.func78, Try.ntmps78
  go_wp2_with fail
  refine (pick_any _ base G p _ (HR.out.bw (bw_alloc _ _)) (by omega)).mono ?_
  rintro e w1 ⟨r, rfl, hr1, hd1⟩
  have hz1 := hd1.2.size
  simp only [World.size_alloc] at hz1
  have HR1 := Lib.hid hd1.1
  have HH1 := Lib.hid (HitR.trans (hitR_alloc (HitR.refl G (G + 1) w) _) hd1.2)
  have HROW1 := Lib.hid (row_hit (HROW.out.alloc _) hd1.2 (by omega))
  have HOW1 := Lib.hid (row_hit (World.ownsRow_made (base := w.heap.size) (e := 26) (size := 3) w #[] 0 (Nat.le_refl _) (by simp) rfl) hd1.2 (by omega))
  clear hd1
  by_cases h0 : r = 0
  · subst h0
    go_wp2_with fail
    refine (num_any _ base G _ w1.heap.size [20, 10, 40, 5] 4 (HR1.out.bw (bw_alloc _ _)) (by omega) (by simp) (by simp) (by omega) (ri_lit _ (heap_alloc_new w1 _) rfl)).mono ?_
    rintro e w2 ⟨x, rfl, hx, hd2⟩
    have hz2 := hd2.2.size
    simp only [World.size_alloc] at hz2
    have HH2 := Lib.hid (HitR.trans (hitR_alloc HH1.out _) hd2.2)
    have HROW2 := Lib.hid (row_hit (HROW1.out.alloc _) hd2.2 (by omega))
    have HR2 := Lib.hid hd2.1
    clear hd2 hx
    go_wp2_with fail
    refine (pick_any _ base G _ _ HR2.out (by omega)).mono ?_
    rintro e w3 ⟨r3, rfl, hr3, hd3⟩
    have hz3 := hd3.2.size
    have HH3 := Lib.hid (HitR.trans HH2.out hd3.2)
    have HROW3 := Lib.hid (row_hit HROW2.out hd3.2 (by omega))
    have HR3 := Lib.hid hd3.1
    clear hd3
    obtain ⟨g, hg⟩ : ∃ g, ((r3 : Int) == 0) = g := ⟨_, rfl⟩
    go_wp2_with fail
    refine (worst_specR (st_row HROW3.out hl) x g).mono ?_
    rintro e w4 ⟨a4, c4, rfl, h4, hb4⟩
    have hz4 := hb4.size
    have HSJ := Lib.hid (worst_sj l x g hl6 HSM.out)
    have HLN := Lib.hid (worst_len l x g)
    have HH4 := Lib.hid (HH3.out.trans (HitR.of_bw hb4))
    have HR4 := Lib.hid (HR3.out.bw hb4)
    clear hg hb4
    go_wp2
    go_ret
    exact ⟨a4, c4, _, _, rfl, Go.Joins.ownsRow_le h4 (by omega), HLN.out, HSJ.out, by omega, HR4.out, HH4.out⟩
  · have h0b : ((r : Int) == 0) = false := by simp; omega
    clear h0
    go_wp2_with fail
    refine (num_any _ base G _ w1.heap.size [8, 5, 12, 3, 20, 0] 6 (HR1.out.bw (bw_alloc _ _)) (by omega) (by simp) (by simp) (by omega) (ri_lit _ (heap_alloc_new w1 _) rfl)).mono ?_
    rintro e w2 ⟨x, rfl, hx, hd2⟩
    have hz2 := hd2.2.size
    simp only [World.size_alloc] at hz2
    have HH2 := Lib.hid (HitR.trans (hitR_alloc HH1.out _) hd2.2)
    have HROW2 := Lib.hid (row_hit (HROW1.out.alloc _) hd2.2 (by omega))
    have HOW2 := Lib.hid (row_hit (HOW1.out.alloc _) hd2.2 (by omega))
    have HR2 := Lib.hid hd2.1
    obtain ⟨n, rfl, hn⟩ : ∃ n : Nat, x = n ∧ n ≤ 20 := by
      have : 0 ≤ x ∧ x ≤ 20 := by simp at hx; omega
      exact ⟨x.toNat, by omega, by omega⟩
    clear hd2 hx h0b
    go_wp2
    go_loopw [5, 6] (fun u i wr => ∃ (k : Nat) (js : List Jb) (bo : Option Addr) (d q : Nat), k ≤ 20 ∧ u = .slice bo js.length d ∧ i = .int .i64 k ∧ q + 3 * k ≤ p + 70 ∧ Hid (wr.ownsRow w.heap.size 26 3 (.slice bo js.length d) js.length (jbs js)) ∧ js.length ≤ 60 ∧ Hid (∀ t ∈ js, Sj t) ∧ Hid (Rd wr base G q) ∧ Hid (HitR G (G + 1) w wr) ∧ Hid (wr.ownsRow B 64 5 (.slice ao l.length c) l.length (tks l))) (fun _ i _ => (intOf i).toNat)
    case atStart => exact ⟨n, [], _, _, _, hn, rfl, rfl, by omega, HOW2.out, by simp, by intro t ht; simp at ht, HR2.out, HH2.out, HROW2.out⟩
    case round =>
      obtain ⟨k, js, bo, d, q, hk, rfl, rfl, hq, hown, hjl, hsj, hrd, hh, hrw⟩ := hrel
      have hz := hh.out.size
      rcases Nat.eq_zero_or_pos k with hk0 | hk0
      · subst hk0
        have hlt0 : decide ((0 : Int) < 0) = false := by simp
        go_wp2
        go_ret
        exact ⟨bo, d, js, q, rfl, hown.out, hjl, hsj.out, by omega, hrd.out, hh.out⟩
      · rcases Nat.eq_zero_or_pos l.length with hl0 | hl0
        · have hlb : decide (0 < l.length) = false := decide_eq_false (by omega)
          have hkp : (0 : Int) < k := by omega
          have HL0 := Lib.hid hl0
          clear hl0
          go_wp2
          go_ret
          exact ⟨bo, d, js, q, rfl, hown.out, hjl, hsj.out, by omega, hrd.out, hh.out⟩
        · obtain ⟨k, rfl⟩ : ∃ m, k = m + 1 := ⟨k - 1, by omega⟩
          obtain ⟨g, rfl⟩ : ∃ g, ao = some ⟨g, 0, none⟩ := by
            rcases hrw.out.2 with ⟨e0, hx⟩ | ⟨g, cap, cur0, e0, _⟩
            · omega
            · simp only [Value.slice.injEq] at e0; exact ⟨g, e0.1⟩
          have hgB := own_cap0 hrw.out g rfl
          go_wp2_with fail
          refine (pick_any _ base G _ _ hrd.out (by omega)).mono ?_
          rintro e w3 ⟨ix, rfl, hix, hd3⟩
          have hixl : ix < l.length := by omega
          have hz3 := hd3.2.size
          have HR3 := Lib.hid hd3.1
          have HH3 := Lib.hid (hh.out.trans hd3.2)
          have HRW3 := Lib.hid (row_hit hrw.out hd3.2 (by omega))
          have HOW3 := Lib.hid (row_hit hown.out hd3.2 (by omega))
          clear hd3
          obtain ⟨t, ht⟩ := getSome hixl
          obtain ⟨_, ⟨th0, th1⟩, _⟩ := HSM.out _ (List.mem_of_getElem? ht)
          obtain ⟨b, off, e, hbs, _, c1, _⟩ := (Own.ofRow HRW3.out).rt ix _ ht
          simp only [Option.some.injEq, Addr.mk.injEq, and_true] at e
          obtain ⟨rfl, rfl⟩ := e
          simp only [Nat.zero_add] at c1
          have HT := Lib.hid ht
          clear ht
          have hG3 := HR3.out.lt
          go_upto_region 9 with fail
          go_cut [8] (fun u wc => ∃ (h : Nat) (a m : Int), u = .pointer (some ⟨h, 0, none⟩) ∧ Hid (wc.heap[h]? = some (.cells #[.int .i64 ix, .int .i64 a, .int .i64 m] 26 (0, 0))) ∧ (0 ≤ a ∧ a ≤ 30 ∧ 1 ≤ m ∧ m ≤ 101) ∧ Hid (Rd wc base G (q + 1 + 1 + 1)) ∧ Hid (HitR G (G + 1) w3 wc))
          case first =>
            have tok0 : True := trivial
            have tok1 : True := trivial
            go_region_with (first | (go_at_call 75; have _t := tok0; refine (pick_any _ base G _ _ (by first | exact HR3.out.bw (bw_drew _) | exact (HR3.out.bw (bw_alloc _ _)).bw (bw_drew _)) (by omega)).mono ?_; rintro e wA ⟨rA, rfl, hrA, hdA⟩; clear tok0; have c1' := cell_hit hdA.2 (by first | exact c1 | exact cell_bw (bw_alloc _ _) c1) (.inr (by omega)); have hzA : w3.heap.size ≤ wA.heap.size := (by first | exact hdA.2.size | exact Nat.le_trans (Nat.le_succ _) (by have := hdA.2.size; simpa using this)); have hgA : g < wA.heap.size := (by omega); have HHA : Hid (HitR G (G + 1) w3 wA) := (by first | exact (HitR.of_bw (bw_drew _)).trans hdA.2 | exact (HitR.of_bw (bw_trans (bw_alloc _ _) (bw_drew _))).trans hdA.2); try (have eA := blk_hit hdA.2 (heap_alloc_new w3 (.cells #[.int .i64 0, .int .i64 0, .int .i64 0] 26)) (.inr (show G + 1 ≤ w3.heap.size by omega)); have HEA := Lib.hid eA; clear eA)) | (go_at_call 75; have _t := tok1; refine (pick_any _ base G _ _ (by first | exact hdA.1 | exact hdA.1.bw (bw_alloc _ _)) (by omega)).mono ?_; rintro e wB ⟨rB, rfl, hrB, hdB⟩; clear tok1; have hrB1 : (rB : Int) ≤ 100 := (by omega); have hw9 := IntWalk.i64_in (1 + (rB : Int)) (by omega); have hzB : wA.heap.size ≤ wB.heap.size := (by first | exact hdB.2.size | exact Nat.le_trans (Nat.le_succ _) (by have := hdB.2.size; simpa using this)); have hgB : g < wB.heap.size := (by omega); have HHB : Hid (HitR G (G + 1) w3 wB) := (by first | exact HHA.out.trans hdB.2 | exact (hitR_alloc HHA.out _).trans hdB.2); first | (have eB := blk_hit hdB.2 HEA.out (.inr (by omega)); have HEB := Lib.hid eB; have f0 := blk_cell eB 0 rfl; have f1 := blk_cell eB 1 rfl; have f2 := blk_cell eB 2 rfl; have ff := fun j => blk_free eB j; clear eB) | (have eB := blk_hit hdB.2 (heap_alloc_new wA (.cells #[.int .i64 0, .int .i64 0, .int .i64 0] 26)) (.inr (by omega)); have HEB := Lib.hid eB; have f0 := blk_cell eB 0 rfl; have f1 := blk_cell eB 1 rfl; have f2 := blk_cell eB 2 rfl; have ff := fun j => blk_free eB j; clear eB) | skip))
            all_goals go_wp2_with fail
            all_goals go_meet
            all_goals first
              | exact ⟨wB.heap.size, rA, 1 + rB, rfl, heap_alloc_new wB _, ⟨by omega, by omega, by omega, by omega⟩, hdB.1.bw (bw_alloc _ _), hitR_alloc HHB.out _⟩
              | exact ⟨_, rA, 1 + rB, rfl, blk_set (blk_set (blk_set HEB.out 0 (vi ix)) 1 (vi rA)) 2 (vi (1 + (rB : Int))), ⟨by omega, by omega, by omega, by omega⟩, Rd.set (Rd.set (Rd.set hdB.1 (by omega) (by omega) _ _) (by omega) (by omega) _ _) (by omega) (by omega) _ _, hitR_own (hitR_own (hitR_own HHB.out (by omega) _ _) (by omega) _ _) (by omega) _ _⟩
          case rest =>
            obtain ⟨h, a, m, rfl, HJB, ⟨ha0, ha1, hm0, hm1⟩, HR4, HH4⟩ := hcut
            have hz4 := HH4.out.size
            have e0 := blk_cell HJB.out 0 rfl
            have e1 := blk_cell HJB.out 1 rfl
            have e2 := blk_cell HJB.out 2 rfl
            have hjm : js.length ≤ 1048576 := by omega
            have HOW4 := Lib.hid (row_hit HOW3.out HH4.out (by omega))
            have HRW4 := Lib.hid (row_hit HRW3.out HH4.out (by omega))
            go_wp2_with fail
            refine (put_specR (st_row HRW4.out hl) (sj_row HOW4.out hjm) ix a m).mono ?_
            rintro e w5 ⟨a5, c5, rfl, h5, hb5⟩
            have hz5 := hb5.size
            have HR5 := Lib.hid (HR4.out.bw hb5)
            have HH5 := Lib.hid ((HH3.out.trans HH4.out).trans (HitR.of_bw hb5))
            have HRW5 := Lib.hid (row_bw HRW4.out hb5)
            have HOW5 := Lib.hid (row_bw HOW4.out hb5)
            have HLEN := Lib.hid (Nat.le_trans (putJ_len l js ⟨ix, a, m⟩) (Nat.le_refl 60))
            have HSJ := Lib.hid (put_sj l js ⟨ix, a, m⟩ hsj.out ⟨⟨by dsimp only; omega, by dsimp only; omega⟩, ⟨by dsimp only; omega, by dsimp only; omega⟩, ⟨by dsimp only; omega, by dsimp only; omega⟩⟩)
            obtain ⟨o, HO⟩ : ∃ o, Hid ((putJ l js ⟨ix, a, m⟩).2 = o) := ⟨_, rfl⟩
            rw [HO.out]
            have HOW6 := Lib.hid (Go.Joins.ownsRow_le h5 (show w.heap.size ≤ wc.heap.size by omega))
            clear e0 e1 e2 hb5 h5
            cases o with
            | true =>
              go_wp2
              go_roundw
              case rel => exact ⟨k, _, _, _, _, by omega, rfl, by go_num, by omega, HOW6.out, HLEN.out, HSJ.out, HR5.out, HH5.out, HRW5.out⟩
              case measure => simp [intOf]
            | false =>
              go_wp2
              go_roundw
              case rel => exact ⟨k, js, bo, d, _, by omega, rfl, by go_num, by omega, HOW5.out, hjl, hsj.out, HR5.out, HH5.out, HRW5.out⟩
              case measure => simp [intOf]
end Go.Proofs.Ytbgfclcnddgboaa
