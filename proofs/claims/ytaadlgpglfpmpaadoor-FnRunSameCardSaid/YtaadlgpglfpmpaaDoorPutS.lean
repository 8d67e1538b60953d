/-
  The walk of spec.PutJob.
-/
import Derived.Test.YtaadlgpglfpmpaaDoorPut
import Derived.Laws.AppendOwnNone

namespace Go.Proofs.YtaadlgpglfpmpaaDoor
open Go.RowKit

theorem befJ_def (x y z px py pz : Int) : befJ ⟨x, y, z⟩ ⟨px, py, pz⟩ = jbBefore x y px py := rfl

theorem oneJs (l : List Jb) : ∀ u ∈ jbs l, u.oneCell' = true := by
  intro u hu
  obtain ⟨j, _, h⟩ := List.mem_flatMap.1 hu
  exact oneJ j u h
theorem rj_drop {w : World} {b off : Nat} {js : List Jb} (h : RJ w (some ⟨b, off, none⟩) js) (k : Nat) : RJ w (some ⟨b, off + k * 3, none⟩) (js.drop k) := fun i t ht => by
  rw [List.getElem?_drop] at ht
  obtain ⟨b', off', e, hb, h0, h1, h2⟩ := h _ t ht
  simp at e; obtain ⟨rfl, rfl⟩ := e
  refine ⟨b, off + k * 3, rfl, hb, ?_, ?_, ?_⟩
  · rw [show off + k * 3 + i * 3 = off + (k + i) * 3 by omega]; exact h0
  · rw [show off + k * 3 + i * 3 = off + (k + i) * 3 by omega]; exact h1
  · rw [show off + k * 3 + i * 3 = off + (k + i) * 3 by omega]; exact h2
theorem rj_take {w : World} {ao : Option Addr} {js : List Jb} (h : RJ w ao js) (k : Nat) : RJ w ao (js.take k) := fun i t ht => by
  rw [List.getElem?_take] at ht
  split at ht
  · exact h i t ht
  · cases ht
theorem rj_cells {w w' : World} {b off : Nat} {js : List Jb} (h : RJ w (some ⟨b, off, none⟩) js) (hb : Bw w w') : ∀ j u, (jbs js)[j]? = some u → w'.cell? ((⟨b, off, none⟩ : Addr).add j) = some u := by
  intro j u hu
  have hj : j < (jbs js).length := (List.getElem?_eq_some_iff.1 hu).1
  rw [jbs_length] at hj
  obtain ⟨q, r, hr, rfl⟩ : ∃ q r, r < 3 ∧ j = q * 3 + r := ⟨j / 3, j % 3, by omega, by omega⟩
  obtain ⟨t, ht⟩ := getSome (l := js) (k := q) (by omega)
  rw [jbs_get js q t ht r hr] at hu
  obtain ⟨b', off', e, _, h0, h1, h2⟩ := h.bw hb q t ht
  simp at e; obtain ⟨rfl, rfl⟩ := e
  rw [add_none, ← Nat.add_assoc]
  match r, hr, hu with
  | 0, _, hu => simp [jbCells] at hu; subst hu; exact h0
  | 1, _, hu => simp [jbCells] at hu; subst hu; exact h1
  | 2, _, hu => simp [jbCells] at hu; subst hu; exact h2
theorem rj_none {w : World} {js : List Jb} (h : RJ w none js) : js = [] := by
  cases js with
  | nil => rfl
  | cons j l => obtain ⟨_, _, e, _⟩ := h 0 j rfl; cases e
/-- Where 's[k:]' begins. -/
theorem rj_from {w : World} {b off d : Nat} {js : List Jb} (h : RJ w (some ⟨b, off, none⟩) js) (k : Nat) (hk : k ≤ js.length) (hd : js.length ≤ d) :
    ∃ A : Addr, (if d = k then some (⟨b, off, none⟩ : Addr) else some ⟨b, off + k * 3, none⟩) = some A ∧ ∀ w', Bw w w' → ∀ j u, (jbs (js.drop k))[j]? = some u → w'.cell? (A.add j) = some u := by
  by_cases hdk : d = k
  · refine ⟨⟨b, off, none⟩, by rw [if_pos hdk], fun w' hb j u hu => ?_⟩
    rw [List.drop_eq_nil_of_le (by omega)] at hu; simp [jbs] at hu
  · exact ⟨⟨b, off + k * 3, none⟩, by rw [if_neg hdk], fun w' hb => rj_cells (rj_drop h k) hb⟩

theorem put_no {l : List Tk} {js : List Jb} {j : Jb} {out : List Jb} (h : insJ j js = out ∨ (jobsOk l (insJ j js) = false ∧ jobsOk l out = false)) (hg : jobsOk l out = false) : putJ l js j = ([], false) := by
  unfold putJ
  rcases h with h | h
  · rw [h, hg]; simp
  · rw [h.1]; simp
theorem put_yes {l : List Tk} {js : List Jb} {j : Jb} {out : List Jb} (h : insJ j js = out ∨ (jobsOk l (insJ j js) = false ∧ jobsOk l out = false)) (hg : jobsOk l out = true) (hq : jobsOk l js = true) : putJ l js j = (out, true) := by
  unfold putJ
  rcases h with h | h
  · rw [h, hg, hq]; simp
  · rw [h.2] at hg; cases hg

set_option maxRecDepth 100000 in
set_option maxHeartbeats 4000000 in
theorem PutJob_spec (ao bo : Option Addr) (c d : Nat) (w : World) (l : List Tk) (js : List Jb) (x y z : Int) (hl : l.length ≤ 1048576) (hj : js.length ≤ 1048576) (hd : js.length ≤ d) (hf : ∃ bb off, bo = some ⟨bb, off, none⟩) (hr : RT w ao l) (hs : RJ w bo js) :
    Calls Tryd.prog 91 #[.slice ao l.length c, .slice bo js.length d, .agg #[.int .i64 x, .int .i64 y, .int .i64 z]] w (RetP w 57 3 (jbs (putJ l js ⟨x, y, z⟩).1) (putJ l js ⟨x, y, z⟩).1.length (putJ l js ⟨x, y, z⟩).2) := by
  obtain ⟨i0, hi0, hz0, hz1, hz2⟩ := info_parts infoJob
  obtain ⟨bb, off, rfl⟩ : ∃ bb off, bo = some ⟨bb, off, none⟩ := hf
  have HR := Lib.hid hr
  have HS := Lib.hid hs
  clear hr hs
  go_enter Tryd.func91, Tryd.ntmps91
  go_wp2_with fail
  refine (JobsValid_spec _ _ _ _ _ l js hl hj (HR.out.bw (bw_alloc _ _)) (HS.out.bw (bw_alloc _ _))).mono ?_
  obtain ⟨g, HQ⟩ : ∃ g, Hid (jobsOk l js = g) := ⟨_, rfl⟩
  rw [HQ.out]
  rintro e w1 ⟨rfl, hb1⟩
  have hw1 := bw_trans (bw_alloc _ _) hb1
  have hz1' := hb1.size
  simp only [World.size_alloc] at hz1'
  cases g with
  | false =>
    have hf : putJ l js ⟨x, y, z⟩ = ([], false) := by rw [putJ, HQ.out]; simp
    have HF := Lib.hid hf
    clear hf
    go_wp2
    go_ret2
    exact ⟨some ⟨w1.heap.size, 0, none⟩, 0, by rw [HF.out]; rfl, by rw [HF.out]; simpa [jbs] using World.ownsRow_made (base := w.heap.size) (e := 57) (size := 3) w1 #[] 0 (by omega) (by simp) rfl, bw_trans hw1 (bw_alloc _ _)⟩
  | true =>
    have BX := Lib.hid (box_last hb1)
    have hl60 := jobs_len HQ.out
    go_wp2
    go_loopw [8] (fun u wr => ∃ (k : Nat), k ≤ js.length ∧ u = .int .i64 k ∧ Hid (∀ m ∈ js.drop k, befJ ⟨x, y, z⟩ m = true) ∧ Bw w wr ∧ Hid (wr.heap[w.heap.size]? = some (.cells #[.int .i64 x, .int .i64 y, .int .i64 z] 57 (0, 0)))) (fun u _ => (intOf u).toNat)
    case atStart => exact ⟨js.length, Nat.le_refl _, rfl, by intro m hm; simp at hm, hw1, BX.out⟩
    case round =>
      obtain ⟨k, hk, rfl, HD, hbw, hbox⟩ := hrel
      have hz := hbw.size
      have hbl : w.heap.size < wr.heap.size := blk_lt hbox.out
      have p0 := blk_cell hbox.out 0 rfl
      have p1 := blk_cell hbox.out 1 rfl
      have p2 := blk_cell hbox.out 2 rfl
      have b0 := fun d os => cell_regrown p0 d os
      have b1 := fun d os => cell_regrown p1 d os
      have b2 := fun d os => cell_regrown p2 d os
      rcases Nat.eq_zero_or_pos k with h0 | h0
      · subst h0
        have HT : Hid (∀ m ∈ (js.take 0).getLast?, befJ ⟨x, y, z⟩ m = false) := by intro m hm; simp at hm
        have hlt0 : decide ((0 : Int) < 0) = false := by simp
        clear p0 p1 p2
        go_wp2_with fail
        refine wp_region_quiet_below (by kernel_rfl) (by kernel_rfl) ?_
        repeat (go_big_quiet_step ((fail)))
        refine wpQuiet_nil ?_
        intro wq hw'
        have hbq := bw_of_ex hw'
        clear hw'
        clear b0 b1 b2
        have hput := put_same l js ⟨x, y, z⟩ HQ.out 0 hk HD.out HT.out
        have hwq := bw_trans hbw hbq
        have HBQX := Lib.hid (blk_bw hbq hbox.out)
        have hzq := hwq.size
        have hbq1 : w.heap.size < wq.heap.size := blk_lt HBQX.out
        obtain ⟨A, hA, hnews⟩ := rj_from HS.out 0 hk hd
        have HPUT := Lib.hid hput
        have HNEWS := Lib.hid hnews
        clear hput hnews
        have hown0 := World.ownsRow_made (base := w.heap.size + 1) (e := 57) (size := 3) wq #[] 0 (by omega) (by simp) rfl
        go_wp2_with (at_builtin; first
          | (refine wpList_append_own _ rfl _ _ 37 rfl (w.heap.size + 1) 57 i0 zJob 3 24 Tryd.underlying37 hi0 hz0 hz1 hz2 rfl (by decide) _ _ _ rfl hown0 ⟨bb, off, none⟩ 0 d (jbs (js.take 0)) rfl (by rw [jbs_length, List.length_take, Nat.min_eq_left hk]) (rj_cells (rj_take HS.out 0) (bw_trans hwq (bw_alloc _ _))) (oneJs _) (by unfold maxLen; omega) (by omega) (by simp only [World.size_alloc]; omega) ?_
             intro v1 w2 hown1 hgrow1 _
             have HW2 := Lib.hid (show Bw w w2 from Below.grown (Below.alloc hwq hzq _) hgrow1 (by simp; omega) (fun g hg => by have := own_cap0 hown0 g hg; omega))
             have HB2 := Lib.hid (show w2.heap[w.heap.size]? = some (.cells #[.int .i64 x, .int .i64 y, .int .i64 z] 57 (0, 0)) from (hgrow1.block w.heap.size (by simp; omega) (fun e => by have := own_cap0 hown0 w.heap.size e.symm; omega)).trans (blk_bw (bw_alloc _ _) HBQX.out))
             have hz2' := HW2.out.size
             have hbq2 : w.heap.size < w2.heap.size := blk_lt HB2.out
             have c0' := blk_cell HB2.out 0 rfl
             have c1' := blk_cell HB2.out 1 rfl
             have c2' := blk_cell HB2.out 2 rfl)
          | (refine wpList_append_own _ rfl _ _ 37 rfl (w.heap.size + 1) 57 i0 zJob 3 24 Tryd.underlying37 hi0 hz0 hz1 hz2 rfl (by decide) _ _ _ rfl (hown1.alloc _) ⟨w2.heap.size, 0, none⟩ 1 1 (jbCells ⟨x, y, z⟩) rfl rfl (cell_job_new _ ⟨x, y, z⟩ 57) (oneJ _) (by unfold maxLen; omega) (by omega) (by simp; omega) ?_
             intro v2 w3 hown2 hgrow2 _
             have HW3 := Lib.hid (show Bw w w3 from Below.grown (Below.alloc HW2.out hz2' _) hgrow2 (by simp; omega) (fun g hg => by have := own_cap0 hown1 g hg; omega))
             have hbq3 : w.heap.size < w3.heap.size := by have := hgrow2.size; simp only [World.size_alloc] at this; omega)
          | (refine wpList_append_own _ rfl _ _ 37 rfl (w.heap.size + 1) 57 i0 zJob 3 24 Tryd.underlying37 hi0 hz0 hz1 hz2 rfl (by decide) _ _ _ rfl hown2 ⟨bb, off, none⟩ js.length d (jbs js) rfl (jbs_length _) (rj_cells HS.out HW3.out) (oneJs _) (by unfold maxLen; omega) (by omega) (by omega) ?_
             intro v3 w4 hown3 hgrow3 _
             obtain ⟨ao2, c2, hu⟩ := own_form hown3
             subst hu))
        have HW4 := Lib.hid (show Bw w w4 from Below.grown HW3.out hgrow3 (by omega) (fun g hg => by have := own_cap0 hown2 g hg; omega))
        obtain ⟨out, HOUT⟩ : ∃ out, Hid (out = js.take 0 ++ (⟨x, y, z⟩ : Jb) :: js.drop 0) := ⟨_, rfl⟩
        have hol0 : out.length = 0 + 0 + 1 + js.length := by rw [HOUT.out]; simp; omega
        have hol : out.length = 0 + 0 + 1 + js.length := by omega
        have hol2 : out.length ≤ 1048576 := by omega
        have hown4 : w4.ownsRow (w.heap.size + 1) 57 3 (.slice ao2 out.length c2) out.length (jbs out) := by
          have e : jbs out = [] ++ jbs (js.take 0) ++ jbCells ⟨x, y, z⟩ ++ jbs (js.drop 0) := by rw [HOUT.out]; simp [jbs]
          rw [e, hol0]; exact hown3
        rw [← HOUT.out] at HPUT
        rw [← hol]
        clear hown3 hgrow3 hown2 hgrow2 hown1 hgrow1 hA c0' c1' c2'
        have HOL := Lib.hid hol
        have HOL0 := Lib.hid hol0
        clear hol hol0
        go_wp2_with fail
        refine (JobsValid_spec _ _ _ _ _ l out hl hol2 (HR.out.bw HW4.out) (Own.ofRow hown4).rj).mono ?_
        obtain ⟨g2, HG2⟩ : ∃ g2, Hid (jobsOk l out = g2) := ⟨_, rfl⟩
        rw [HG2.out]
        rintro e w5 ⟨rfl, hb5⟩
        have hw5 := bw_trans HW4.out hb5
        cases g2 with
        | false =>
          have hf := put_no HPUT.out HG2.out
          have HF := Lib.hid hf
          clear hf
          go_wp2
          go_ret2
          exact ⟨some ⟨w5.heap.size, 0, none⟩, 0, by rw [HF.out]; rfl, by rw [HF.out]; simpa [jbs] using World.ownsRow_made (base := w.heap.size) (e := 57) (size := 3) w5 #[] 0 hw5.size (by simp) rfl, bw_trans hw5 (bw_alloc _ _)⟩
        | true =>
          have hf := put_yes HPUT.out HG2.out HQ.out
          have HF := Lib.hid hf
          clear hf
          go_wp2
          go_ret2
          exact ⟨ao2, c2, by rw [HF.out]; rfl, by rw [HF.out]; exact Go.Joins.ownsRow_le (row_bw hown4 hb5) (by omega), hw5⟩
      · obtain ⟨n, rfl⟩ : ∃ n, k = n + 1 := ⟨k - 1, by omega⟩
        obtain ⟨⟨px, py, pz⟩, b3, off3, hjk, hbo, hbs, c0, c1, c2⟩ := HS.out.get hbw (k := n) (by omega)
        simp only [Option.some.injEq, Addr.mk.injEq, and_true] at hbo
        obtain ⟨rfl, rfl⟩ := hbo
        dsimp only at c0 c1 c2
        obtain ⟨g, HG⟩ : ∃ g, Hid (jbBefore x y px py = g) := ⟨_, rfl⟩
        have hbc := fun (W : World) => l6Before_any x y z px py pz W
        simp only [HG.out] at hbc
        have m0 := fun d os => cell_regrown c0 d os
        have m1 := fun d os => cell_regrown c1 d os
        have m2 := fun d os => cell_regrown c2 d os
        clear c0 c1 c2 p0 p1 p2
        have HJK := Lib.hid hjk
        have HBC := Lib.hid hbc
        clear hjk hbc
        cases g with
        | true =>
          have hnx : ∀ m ∈ js.drop n, befJ ⟨x, y, z⟩ m = true := by
            rw [drop_cons HJK.out]
            intro m hm
            rcases List.mem_cons.1 hm with rfl | hm
            · exact HG.out
            · exact HD.out m hm
          have HNX := Lib.hid hnx
          clear hnx
          go_wp2_with fail
          refine wp_region_quiet_below (by kernel_rfl) (by kernel_rfl) ?_
          repeat (go_big_quiet_step ((first | (go_at_call 80; exact Calls.regrown_of (HBC.out _)))))
          refine wpQuiet_nil ?_
          intro wq hw'
          have hbq := bw_of_ex hw'
          clear hw'
          clear b0 b1 b2 m0 m1 m2
          go_wp2
          go_roundw
          case rel => exact ⟨n, by omega, by go_num, HNX.out, bw_trans hbw hbq, blk_bw hbq hbox.out⟩
          case measure => simp [intOf]
        | false =>
          have HT : Hid (∀ m ∈ (js.take (n + 1)).getLast?, befJ ⟨x, y, z⟩ m = false) := by
            intro m hm
            rw [take_snoc HJK.out] at hm
            simp at hm; subst hm; exact HG.out
          go_wp2_with fail
          refine wp_region_quiet_below (by kernel_rfl) (by kernel_rfl) ?_
          repeat (go_big_quiet_step ((first | (go_at_call 80; exact Calls.regrown_of (HBC.out _)))))
          refine wpQuiet_nil ?_
          intro wq hw'
          have hbq := bw_of_ex hw'
          clear hw'
          clear b0 b1 b2 m0 m1 m2
          have hput := put_same l js ⟨x, y, z⟩ HQ.out (n + 1) hk HD.out HT.out
          have hwq := bw_trans hbw hbq
          have HBQX := Lib.hid (blk_bw hbq hbox.out)
          have hzq := hwq.size
          have hbq1 : w.heap.size < wq.heap.size := blk_lt HBQX.out
          obtain ⟨A, hA, hnews⟩ := rj_from HS.out (n + 1) hk hd
          have HPUT := Lib.hid hput
          have HNEWS := Lib.hid hnews
          clear hput hnews
          have hown0 := World.ownsRow_made (base := w.heap.size + 1) (e := 57) (size := 3) wq #[] 0 (by omega) (by simp) rfl
          go_wp2_with (at_builtin; first
            | (refine wpList_append_own _ rfl _ _ 37 rfl (w.heap.size + 1) 57 i0 zJob 3 24 Tryd.underlying37 hi0 hz0 hz1 hz2 rfl (by decide) _ _ _ rfl hown0 ⟨bb, off, none⟩ (n + 1) d (jbs (js.take (n + 1))) rfl (by rw [jbs_length, List.length_take, Nat.min_eq_left hk]) (rj_cells (rj_take HS.out (n + 1)) (bw_trans hwq (bw_alloc _ _))) (oneJs _) (by unfold maxLen; omega) (by omega) (by simp only [World.size_alloc]; omega) ?_
               intro v1 w2 hown1 hgrow1 _
               have HW2 := Lib.hid (show Bw w w2 from Below.grown (Below.alloc hwq hzq _) hgrow1 (by simp; omega) (fun g hg => by have := own_cap0 hown0 g hg; omega))
               have HB2 := Lib.hid (show w2.heap[w.heap.size]? = some (.cells #[.int .i64 x, .int .i64 y, .int .i64 z] 57 (0, 0)) from (hgrow1.block w.heap.size (by simp; omega) (fun e => by have := own_cap0 hown0 w.heap.size e.symm; omega)).trans (blk_bw (bw_alloc _ _) HBQX.out))
               have hz2' := HW2.out.size
               have hbq2 : w.heap.size < w2.heap.size := blk_lt HB2.out
               have c0' := blk_cell HB2.out 0 rfl
               have c1' := blk_cell HB2.out 1 rfl
               have c2' := blk_cell HB2.out 2 rfl)
            | (refine wpList_append_own _ rfl _ _ 37 rfl (w.heap.size + 1) 57 i0 zJob 3 24 Tryd.underlying37 hi0 hz0 hz1 hz2 rfl (by decide) _ _ _ rfl (hown1.alloc _) ⟨w2.heap.size, 0, none⟩ 1 1 (jbCells ⟨x, y, z⟩) rfl rfl (cell_job_new _ ⟨x, y, z⟩ 57) (oneJ _) (by unfold maxLen; omega) (by omega) (by simp; omega) ?_
               intro v2 w3 hown2 hgrow2 _
               have HW3 := Lib.hid (show Bw w w3 from Below.grown (Below.alloc HW2.out hz2' _) hgrow2 (by simp; omega) (fun g hg => by have := own_cap0 hown1 g hg; omega))
               have hbq3 : w.heap.size < w3.heap.size := by have := hgrow2.size; simp only [World.size_alloc] at this; omega)
            | (refine wpList_append_own _ rfl _ _ 37 rfl (w.heap.size + 1) 57 i0 zJob 3 24 Tryd.underlying37 hi0 hz0 hz1 hz2 rfl (by decide) _ _ _ rfl hown2 A (js.length - (n + 1)) (d - (n + 1)) (jbs (js.drop (n + 1))) rfl (by rw [jbs_length, List.length_drop]) (HNEWS.out _ HW3.out) (oneJs _) (by unfold maxLen; omega) (by omega) (by omega) ?_
               intro v3 w4 hown3 hgrow3 _
               obtain ⟨ao2, c2, hu⟩ := own_form hown3
               subst hu))
          have HW4 := Lib.hid (show Bw w w4 from Below.grown HW3.out hgrow3 (by omega) (fun g hg => by have := own_cap0 hown2 g hg; omega))
          obtain ⟨out, HOUT⟩ : ∃ out, Hid (out = js.take (n + 1) ++ (⟨x, y, z⟩ : Jb) :: js.drop (n + 1)) := ⟨_, rfl⟩
          have hol0 : out.length = 0 + (n + 1) + 1 + (js.length - (n + 1)) := by rw [HOUT.out]; simp; omega
          have hol : out.length = n + 1 + 1 + (js.length - (n + 1)) := by omega
          have hol2 : out.length ≤ 1048576 := by omega
          have hown4 : w4.ownsRow (w.heap.size + 1) 57 3 (.slice ao2 out.length c2) out.length (jbs out) := by
            have e : jbs out = [] ++ jbs (js.take (n + 1)) ++ jbCells ⟨x, y, z⟩ ++ jbs (js.drop (n + 1)) := by rw [HOUT.out]; simp [jbs]
            rw [e, hol0]; exact hown3
          rw [← HOUT.out] at HPUT
          rw [← hol]
          clear hown3 hgrow3 hown2 hgrow2 hown1 hgrow1 hA c0' c1' c2'
          have HOL := Lib.hid hol
          have HOL0 := Lib.hid hol0
          clear hol hol0
          go_wp2_with fail
          refine (JobsValid_spec _ _ _ _ _ l out hl hol2 (HR.out.bw HW4.out) (Own.ofRow hown4).rj).mono ?_
          obtain ⟨g2, HG2⟩ : ∃ g2, Hid (jobsOk l out = g2) := ⟨_, rfl⟩
          rw [HG2.out]
          rintro e w5 ⟨rfl, hb5⟩
          have hw5 := bw_trans HW4.out hb5
          cases g2 with
          | false =>
            have hf := put_no HPUT.out HG2.out
            have HF := Lib.hid hf
            clear hf
            go_wp2
            go_ret2
            exact ⟨some ⟨w5.heap.size, 0, none⟩, 0, by rw [HF.out]; rfl, by rw [HF.out]; simpa [jbs] using World.ownsRow_made (base := w.heap.size) (e := 57) (size := 3) w5 #[] 0 hw5.size (by simp) rfl, bw_trans hw5 (bw_alloc _ _)⟩
          | true =>
            have hf := put_yes HPUT.out HG2.out HQ.out
            have HF := Lib.hid hf
            clear hf
            go_wp2
            go_ret2
            exact ⟨ao2, c2, by rw [HF.out]; rfl, by rw [HF.out]; exact Go.Joins.ownsRow_le (row_bw hown4 hb5) (by omega), hw5⟩

set_option maxRecDepth 100000 in
set_option maxHeartbeats 4000000 in
theorem PutJob_specN (ao : Option Addr) (c : Nat) (w : World) (l : List Tk) (x y z : Int) (hl : l.length ≤ 1048576) (hr : RT w ao l) :
    Calls Tryd.prog 91 #[.slice ao l.length c, .slice none 0 0, .agg #[.int .i64 x, .int .i64 y, .int .i64 z]] w (RetP w 57 3 (jbs (putJ l [] ⟨x, y, z⟩).1) (putJ l [] ⟨x, y, z⟩).1.length (putJ l [] ⟨x, y, z⟩).2) := by
  obtain ⟨i0, hi0, hz0, hz1, hz2⟩ := info_parts infoJob
  have HR := Lib.hid hr
  clear hr
  go_enter Tryd.func91, Tryd.ntmps91
  go_wp2_with fail
  refine (JobsValid_spec _ none _ 0 _ l [] hl (by simp) (HR.out.bw (bw_alloc _ _)) (RJ.nil _ _)).mono ?_
  obtain ⟨g, HQ⟩ : ∃ g, Hid (jobsOk l [] = g) := ⟨_, rfl⟩
  rw [HQ.out]
  rintro e w1 ⟨rfl, hb1⟩
  have hw1 := bw_trans (bw_alloc _ _) hb1
  have hz1' := hb1.size
  simp only [World.size_alloc] at hz1'
  cases g with
  | false =>
    have hf : putJ l [] ⟨x, y, z⟩ = ([], false) := by rw [putJ, HQ.out]; simp
    have HF := Lib.hid hf
    clear hf
    go_wp2
    go_ret2
    exact ⟨some ⟨w1.heap.size, 0, none⟩, 0, by rw [HF.out]; rfl, by rw [HF.out]; simpa [jbs] using World.ownsRow_made (base := w.heap.size) (e := 57) (size := 3) w1 #[] 0 (by omega) (by simp) rfl, bw_trans hw1 (bw_alloc _ _)⟩
  | true =>
    have BX := Lib.hid (box_last hb1)
    have hlt0 : decide ((0 : Int) < 0) = false := by simp
    go_wp2
    go_loopw [8] (fun u wr => u = .int .i64 0 ∧ Bw w wr ∧ Hid (wr.heap[w.heap.size]? = some (.cells #[.int .i64 x, .int .i64 y, .int .i64 z] 57 (0, 0)))) (fun u _ => (intOf u).toNat)
    case atStart => exact ⟨rfl, hw1, BX.out⟩
    case round =>
      obtain ⟨rfl, hbw, hbox⟩ := hrel
      have hz := hbw.size
      have hbl : w.heap.size < wr.heap.size := blk_lt hbox.out
      have b0 := fun d os => cell_regrown (blk_cell hbox.out 0 rfl) d os
      have b1 := fun d os => cell_regrown (blk_cell hbox.out 1 rfl) d os
      have b2 := fun d os => cell_regrown (blk_cell hbox.out 2 rfl) d os
      go_wp2_with fail
      refine wp_region_quiet_below (by kernel_rfl) (by kernel_rfl) ?_
      repeat (go_big_quiet_step ((fail)))
      refine wpQuiet_nil ?_
      intro wq hw'
      have hbq := bw_of_ex hw'
      clear hw'
      clear b0 b1 b2
      have hwq := bw_trans hbw hbq
      have HBQX := Lib.hid (blk_bw hbq hbox.out)
      have hzq := hwq.size
      have hbq1 : w.heap.size < wq.heap.size := blk_lt HBQX.out
      have hown0 := World.ownsRow_made (base := w.heap.size + 1) (e := 57) (size := 3) wq #[] 0 (by omega) (by simp) rfl
      have c0' := blk_cell HBQX.out 0 rfl
      have c1' := blk_cell HBQX.out 1 rfl
      have c2' := blk_cell HBQX.out 2 rfl
      go_wp2_with (at_builtin; first
        | (refine wpList_append_own_none rfl _ _ 37 rfl (w.heap.size + 1) 57 i0 3 Tryd.underlying37 hi0 _ 0 [] rfl hown0 rfl ?_)
        | (refine wpList_append_own _ rfl _ _ 37 rfl (w.heap.size + 1) 57 i0 zJob 3 24 Tryd.underlying37 hi0 hz0 hz1 hz2 rfl (by decide) _ _ _ rfl (hown0.alloc _) ⟨wq.heap.size + 1, 0, none⟩ 1 1 (jbCells ⟨x, y, z⟩) rfl rfl (by have := cell_job_new (wq.alloc (.cells #[] 57)) ⟨x, y, z⟩ 57; simpa using this) (oneJ _) (by unfold maxLen; omega) (by omega) (by simp only [World.size_alloc]; omega) ?_
           intro v2 w3 hown2 hgrow2 _
           have HW3 := Lib.hid (show Bw w w3 from Below.grown (Below.alloc (bw_trans hwq (bw_alloc _ _)) (by simp only [World.size_alloc]; omega) _) hgrow2 (by simp only [World.size_alloc]; omega) (fun g hg => by have := own_cap0 hown0 g hg; omega)))
        | (refine wpList_append_own_none rfl _ _ 37 rfl (w.heap.size + 1) 57 i0 3 Tryd.underlying37 hi0 _ _ _ rfl hown2 rfl ?_
           obtain ⟨ao2, c2, hu⟩ := own_form hown2
           subst hu))
      obtain ⟨out, HOUT⟩ : ∃ out, Hid (out = [(⟨x, y, z⟩ : Jb)]) := ⟨_, rfl⟩
      have hol : out.length = 0 + 1 := by rw [HOUT.out]; rfl
      have hol2 : out.length ≤ 1048576 := by omega
      have hown4 : w3.ownsRow (w.heap.size + 1) 57 3 (.slice ao2 out.length c2) out.length (jbs out) := by
        rw [hol, HOUT.out]; simpa [jbs] using hown2
      have HPUT : Hid (insJ ⟨x, y, z⟩ [] = out ∨ (jobsOk l (insJ ⟨x, y, z⟩ []) = false ∧ jobsOk l out = false)) := .inl (by rw [HOUT.out]; rfl)
      have hol1 : out.length = 1 := by omega
      try rw [← hol]
      try rw [← hol1]
      clear hown2 hgrow2 c0' c1' c2'
      have HOL := Lib.hid hol
      have HOL1 := Lib.hid hol1
      clear hol hol1
      go_wp2_with fail
      refine (JobsValid_spec _ _ _ _ _ l out hl hol2 (HR.out.bw HW3.out) (Own.ofRow hown4).rj).mono ?_
      obtain ⟨g2, HG2⟩ : ∃ g2, Hid (jobsOk l out = g2) := ⟨_, rfl⟩
      rw [HG2.out]
      rintro e w5 ⟨rfl, hb5⟩
      have hw5 := bw_trans HW3.out hb5
      cases g2 with
      | false =>
        have hf := put_no HPUT.out HG2.out
        have HF := Lib.hid hf
        clear hf
        go_wp2
        go_ret2
        exact ⟨some ⟨w5.heap.size, 0, none⟩, 0, by rw [HF.out]; rfl, by rw [HF.out]; simpa [jbs] using World.ownsRow_made (base := w.heap.size) (e := 57) (size := 3) w5 #[] 0 hw5.size (by simp) rfl, bw_trans hw5 (bw_alloc _ _)⟩
      | true =>
        have hf := put_yes HPUT.out HG2.out HQ.out
        have HF := Lib.hid hf
        clear hf
        go_wp2
        go_ret2
        exact ⟨ao2, c2, by rw [HF.out]; rfl, by rw [HF.out]; exact Go.Joins.ownsRow_le (row_bw hown4 hb5) (by omega), hw5⟩

theorem putJ_len (l : List Tk) (js : List Jb) (j : Jb) : (putJ l js j).1.length ≤ 60 := by
  unfold putJ
  split
  · rename_i h; exact jobs_len h.2
  · simp
theorem RetP.rp' {w : World} {E size : Nat} {xs : List Value} {n : Nat} {ok : Bool} {e : Ending} {w' : World} (h : RetP w E size xs n ok e w') : RP w E xs n ok e w' := by
  obtain ⟨ao, c, e1, h1, h2⟩ := h
  exact ⟨ao, c, e1, Own.ofRow h1, h2⟩
theorem put_specR {w : World} {v u : Value} {l : List Tk} {js : List Jb} (hl : ST w v l) (hj : SJ w u js) (x y z : Int) : Calls Tryd.prog 91 #[v, u, .agg #[.int .i64 x, .int .i64 y, .int .i64 z]] w (RetP w 57 3 (jbs (putJ l js ⟨x, y, z⟩).1) (putJ l js ⟨x, y, z⟩).1.length (putJ l js ⟨x, y, z⟩).2) := by
  obtain ⟨⟨ao, c, rfl, hr, _⟩, hn⟩ := hl
  obtain ⟨⟨bo, d, rfl, hs, hd, hf⟩, hm⟩ := hj
  rcases hf with ⟨rfl, rfl⟩ | hf
  · obtain rfl := rj_none hs
    exact PutJob_specN ao c w l x y z hn hr
  · exact PutJob_spec ao bo c d w l js x y z hn hm hd hf hr hs
theorem put_spec {w : World} {v u : Value} {l : List Tk} {js : List Jb} (hl : ST w v l) (hj : SJ w u js) (x y z : Int) : Calls Tryd.prog 91 #[v, u, .agg #[.int .i64 x, .int .i64 y, .int .i64 z]] w (RP w 57 (jbs (putJ l js ⟨x, y, z⟩).1) (putJ l js ⟨x, y, z⟩).1.length (putJ l js ⟨x, y, z⟩).2) :=
  (put_specR hl hj x y z).mono fun _ _ h => h.rp'
theorem keep3 {w5 W : World} {g : Nat} {v0 v1 v2 : Value} (hb : Bw w5 W) (hs : w5.cell? ⟨g, 0, none⟩ = some v0 ∧ w5.cell? ⟨g, 1, none⟩ = some v1 ∧ w5.cell? ⟨g, 2, none⟩ = some v2) :
    W.cell? ⟨g, 0, none⟩ = some v0 ∧ W.cell? ⟨g, 1, none⟩ = some v1 ∧ W.cell? ⟨g, 2, none⟩ = some v2 := by
  obtain ⟨a, b, c⟩ := hs
  exact ⟨cell_bw hb a, cell_bw hb b, cell_bw hb c⟩
theorem box3 {w : World} {g E : Nat} {x0 x1 x2 : Value} (h : w.heap[g]? = some (.cells #[x0, x1, x2] E (0, 0))) :
    w.cell? ⟨g, 0, none⟩ = some x0 ∧ w.cell? ⟨g, 1, none⟩ = some x1 ∧ w.cell? ⟨g, 2, none⟩ = some x2 :=
  ⟨blk_cell h 0 rfl, blk_cell h 1 rfl, blk_cell h 2 rfl⟩
end Go.Proofs.YtaadlgpglfpmpaaDoor
