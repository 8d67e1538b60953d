/-
  The walk of the program's ParseJobs.
-/
import Derived.Test.YtnmpilmjkgdpgaaDoorPw
import Derived.Test.YtnmpilmjkgdpgaaDoorWorst

namespace Go.Proofs.YtnmpilmjkgdpgaaDoor
open Go.RowKit

set_option maxRecDepth 100000 in
set_option maxHeartbeats 3200000 in
theorem parse_impl (B : List UInt8) (hB : B.length ≤ 1048576) (w : World) (hE : Env w) : Calls Tryd.prog 7 #[sB B] w (RetP w 41 3 (jbs (optJ (ipB B)).1) (optJ (ipB B)).1.length (optJ (ipB B)).2) := by
  obtain ⟨i0, hi0, hz0, hz1, hz2⟩ := info_parts infoJob
  have HE := Lib.hid hE
  clear hE
  go_enter Tryd.func7, Tryd.ntmps7
  cases B with
  | nil =>
    go_wp2
    go_ret2
    exact ⟨_, _, rfl, by simpa [jbs, ipB, optJ] using World.ownsRow_made (base := w.heap.size) (e := 41) (size := 3) w #[] 0 (by omega) (by simp) rfl, bw_alloc _ _⟩
  | cons b0 B0 =>
    obtain ⟨B, hBe⟩ : ∃ B, b0 :: B0 = B := ⟨_, rfl⟩
    rw [hBe] at hB ⊢
    have hBn : B ≠ [] := by rw [← hBe]; simp
    have hne : B.isEmpty = false := by rw [← hBe]; rfl
    have hsz := sB_size B
    have hpc := cutC_count 32 B
    have hpl := cutC_len 32 B
    have hip : ipB B = if fjB ((cutC 32 B).map pjB) = B then some ((cutC 32 B).map pjB) else none := by rw [ipB, if_neg hBn]
    have HIP := Lib.hid hip
    have HPL := Lib.hid hpl
    have HSZ := Lib.hid hsz
    clear hip hpl hsz
    clear hBe hBn
    go_wp2_with fail
    refine (splits_any B 32 hB _ (env_bw HE.out (bw_alloc _ _))).mono ?_
    obtain ⟨P, hP⟩ : ∃ P, cutC 32 B = P := ⟨_, rfl⟩
    rw [hP] at hpc
    have HPL := Lib.hid (show ∀ x ∈ P, x.length ≤ B.length by rw [← hP]; exact HPL.out)
    have HIP := Lib.hid (show ipB B = if fjB (P.map pjB) = B then some (P.map pjB) else none by rw [← hP]; exact HIP.out)
    rw [hP]
    clear hP
    rintro e w1 ⟨g, rfl, hc, hb1⟩
    have HC := Lib.hid hc
    clear hc
    have hb01 := bw_trans (bw_alloc _ _) hb1
    have hown0 : w1.ownsRow w.heap.size 41 3 (.slice (some ⟨w.heap.size, 0, none⟩) 0 0) 0 (jbs []) := by
      have := row_bw (World.ownsRow_made (base := w.heap.size) (e := 41) (size := 3) w #[] 0 (by simp) (by simp) rfl) hb1
      simpa [jbs] using this
    have hz1' := hb01.size
    have hgw : w.heap.size ≤ w1.heap.size := hz1'
    go_wp2
    go_loopw [4, 21] (fun o i wr => ∃ k : Nat, k ≤ P.length ∧ i = .int .i64 k ∧ wr.ownsRow w.heap.size 41 3 o k (jbs ((P.map pjB).take k)) ∧ Hid (Str wr g P) ∧ Bw w wr) (fun _ i _ => P.length - (intOf i).toNat)
    case atStart => exact ⟨0, Nat.zero_le _, rfl, by simpa using hown0, HC.out, hb01⟩
    case round =>
      obtain ⟨k, hk, rfl, hown, hc, hbw⟩ := hrel
      clear HC hown0
      by_cases hlt : k < P.length
      · obtain ⟨x, hx⟩ := getSome hlt
        have c0 := str_cell hc.out hx
        have hxl : x.length ≤ 1048576 := Nat.le_trans (HPL.out x (List.mem_of_getElem? hx)) hB
        have hst : (P.map pjB).take (k + 1) = (P.map pjB).take k ++ [pjB x] := by rw [List.take_add_one, List.getElem?_map, hx]; rfl
        have hEr := env_bw HE.out hbw
        have HX := Lib.hid hx
        have HER := Lib.hid hEr
        clear hx hEr
        go_wp2_with fail
        refine (cut_any x 64 hxl _ HER.out).mono ?_
        have hl1 := cut_len x [64]
        rw [show pjB x = ⟨atv (Lib.cut x [64]).1, atv (Lib.cut (Lib.cut x [64]).2.1 [58]).1, atv (Lib.cut (Lib.cut x [64]).2.1 [58]).2.1⟩ from rfl] at hst
        obtain ⟨T, hT⟩ : ∃ T, (Lib.cut x [64]).1 = T := ⟨_, rfl⟩
        obtain ⟨R, hR⟩ : ∃ R, (Lib.cut x [64]).2.1 = R := ⟨_, rfl⟩
        obtain ⟨F, hF⟩ : ∃ F, (Lib.cut x [64]).2.2 = F := ⟨_, rfl⟩
        rw [hT, hR] at hl1 hst
        rw [hT, hR, hF]
        clear hT hR hF
        rintro e wA ⟨rfl, hbA⟩
        go_wp2_with fail
        refine (cut_any R 58 (by omega) _ (env_bw HER.out hbA)).mono ?_
        have hl2 := cut_len R [58]
        obtain ⟨A, hA⟩ : ∃ A, (Lib.cut R [58]).1 = A := ⟨_, rfl⟩
        obtain ⟨M, hM⟩ : ∃ M, (Lib.cut R [58]).2.1 = M := ⟨_, rfl⟩
        obtain ⟨F', hF⟩ : ∃ F', (Lib.cut R [58]).2.2 = F' := ⟨_, rfl⟩
        rw [hA, hM] at hl2 hst
        rw [hA, hM, hF]
        clear hA hM hF
        have HST := Lib.hid hst
        clear hst
        rintro e wB ⟨rfl, hbB⟩
        have hbAB := bw_trans hbA hbB
        go_wp2_with fail
        refine (atoi_any T (by omega) _ (env_bw HER.out (bw_trans hbAB (bw_alloc _ _)))).mono ?_
        rintro e wC ⟨er1, rfl, hbC⟩
        have HJ0 := Lib.hid (blk_bw hbC (heap_alloc_new wB (.cells #[.int .i64 0, .int .i64 0, .int .i64 0] 41)))
        have lC : wB.heap.size < wC.heap.size := blk_lt HJ0.out
        have hbC0 := bw_trans (bw_alloc wB (.cells #[.int .i64 0, .int .i64 0, .int .i64 0] 41)) hbC
        have f0 := blk_free HJ0.out
        have e0 := blk_cell HJ0.out 0 rfl
        have e1 := blk_cell HJ0.out 1 rfl
        have e2 := blk_cell HJ0.out 2 rfl
        go_wp2_with fail
        have HJ1 := Lib.hid (blk_set HJ0.out 0 (.int .i64 (atv T)))
        have hbD := bw_set hbC0 (Nat.le_refl _) 0 (.int .i64 (atv T))
        clear f0 e0 e1 e2
        refine (atoi_any A (by omega) _ (env_bw HER.out (bw_trans hbAB hbD))).mono ?_
        rintro e wE ⟨er2, rfl, hbE⟩
        have HJ2 := Lib.hid (blk_bw hbE HJ1.out)
        have hbE0 := bw_trans hbD hbE
        have f0 := blk_free HJ2.out
        have e0 := blk_cell HJ2.out 0 rfl
        have e1 := blk_cell HJ2.out 1 rfl
        have e2 := blk_cell HJ2.out 2 rfl
        have lE : wB.heap.size < wE.heap.size := blk_lt HJ2.out
        go_wp2_with fail
        have HJ3 := Lib.hid (blk_set HJ2.out 1 (.int .i64 (atv A)))
        have hbF := bw_set hbE0 (Nat.le_refl _) 1 (.int .i64 (atv A))
        clear f0 e0 e1 e2
        refine (atoi_any M (by omega) _ (env_bw HER.out (bw_trans hbAB hbF))).mono ?_
        rintro e wG ⟨er3, rfl, hbG⟩
        have HJ4 := Lib.hid (blk_bw hbG HJ3.out)
        have hbG0 := bw_trans hbF hbG
        have f0 := blk_free HJ4.out
        have e0 := blk_cell HJ4.out 0 rfl
        have e1 := blk_cell HJ4.out 1 rfl
        have e2 := blk_cell HJ4.out 2 rfl
        have lG : wB.heap.size < wG.heap.size := blk_lt HJ4.out
        have HJ5 := Lib.hid (blk_set HJ4.out 2 (.int .i64 (atv M)))
        have hbH := bw_set hbG0 (Nat.le_refl _) 2 (.int .i64 (atv M))
        have hall := bw_trans hbw (bw_trans hbAB hbH)
        have hownH := row_bw hown (bw_trans hbAB hbH)
        obtain ⟨ao', c', hu⟩ := own_form hownH
        subst hu
        have hcH := blk_bw (bw_trans hbAB hbH) hc.out
        have hgH := blk_lt hcH
        simp only [World.size_setCell] at hgH
        have HCH := Lib.hid hcH
        clear hcH
        have hzH : w.heap.size ≤ wG.heap.size := by have := hall.size; simpa using this
        go_wp2_with (at_builtin; refine wpList_append_own _ rfl _ _ 22 rfl w.heap.size 41 i0 zJob 3 24 Tryd.underlying22 hi0 hz0 hz1 hz2 rfl (by decide) _ _ _ rfl (hownH.alloc _) ⟨wG.heap.size, 0, none⟩ 1 1 (jbCells ⟨atv T, atv A, atv M⟩) rfl rfl (by have := cell_job_new (wG.setCell ⟨wB.heap.size, 2, none⟩ (.int .i64 (atv M))) ⟨atv T, atv A, atv M⟩ 41; simpa using this) (oneJ _) (by unfold maxLen; omega) (by omega) (by simp; omega) ?_; intro v' w2 hown' hgrow _)
        have hc2 := Lib.hid ((hgrow.block g (by simp; omega) (own_ne hownH HCH.out (by decide))).trans (blk_bw (bw_alloc _ _) HCH.out))
        have hb2 : Bw w w2 := Below.grown (Below.alloc hall (by simp; omega) _) hgrow (by simp; omega) (fun g hg => by have := own_cap0 hownH g hg; omega)
        have hown2 : w2.ownsRow w.heap.size 41 3 v' (k + 1) (jbs ((P.map pjB).take (k + 1))) := by rw [HST.out]; simpa [jbs] using hown'
        clear hown' hgrow hownH
        go_wp2
        go_roundw
        case rel => exact ⟨k + 1, by omega, by go_num, hown2, hc2, hb2⟩
        case measure => simp [intOf]; omega
      · have hge : decide ((k : Int) < (P.length : Int)) = false := decide_eq_false (by omega)
        obtain rfl : k = P.length := by omega
        have htk : (P.map pjB).take P.length = P.map pjB := List.take_of_length_le (by simp)
        rw [htk] at hown
        obtain ⟨js, hjs⟩ : ∃ js, P.map pjB = js := ⟨_, rfl⟩
        have hjl : P.length = js.length := by rw [← hjs]; simp
        have HIP2 := Lib.hid (show ipB B = if fjB js = B then some js else none by rw [← hjs]; exact HIP.out)
        rw [hjs, hjl] at hown
        clear htk hjs HIP
        rw [hjl] at hge hpc hlt ⊢
        obtain ⟨ao', c', hu⟩ := own_form hown
        subst hu
        have HOWN := Lib.hid hown
        clear hown hjl
        go_wp2_with fail
        refine (fj_implB (Own.ofRow HOWN.out).rj (by omega) (env_bw HE.out hbw).1).mono ?_
        by_cases hfj : fjB js = B
        · rw [hfj]
          rintro e w5 ⟨rfl, hb5⟩
          have HX := Lib.hid (show ipB B = some js by rw [HIP2.out, if_pos hfj])
          have HFJ := Lib.hid hfj
          clear hfj
          go_wp2
          go_ret2
          exact ⟨ao', c', by rw [HX.out]; rfl, by rw [HX.out]; exact row_bw HOWN.out hb5, bw_trans hbw hb5⟩
        · obtain ⟨F, hF⟩ : ∃ F, fjB js = F := ⟨_, rfl⟩
          rw [hF] at hfj ⊢
          have hxx : (F == B) = false := by rw [beq_eq_false_iff_ne]; exact hfj
          rintro e w5 ⟨rfl, hb5⟩
          have HX := Lib.hid (show ipB B = none by rw [HIP2.out, hF, if_neg hfj])
          have HFJ := Lib.hid hfj
          have HF := Lib.hid hF
          clear hfj hF
          go_wp2
          go_ret2
          exact ⟨none, 0, by rw [HX.out]; rfl, by rw [HX.out]; exact World.ownsRow_nil _ _ _ _, bw_trans hbw hb5⟩
end Go.Proofs.YtnmpilmjkgdpgaaDoor
