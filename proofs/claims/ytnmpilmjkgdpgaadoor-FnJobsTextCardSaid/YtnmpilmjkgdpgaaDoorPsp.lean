/-
  The walk of the specification's ParseJobs.
-/
import Derived.Test.YtnmpilmjkgdpgaaDoorPo
import Derived.Test.YtnmpilmjkgdpgaaDoorPi
import Derived.Test.YtnmpilmjkgdpgaaDoorGD


namespace Go.Proofs.YtnmpilmjkgdpgaaDoor
open Go.RowKit

theorem allSp_cons (x : List UInt8) (r : List (List UInt8)) : allSp (x :: r) = match spB x with
  | none => none
  | some j => match allSp r with
    | none => none
    | some t => some (j :: t) := rfl
/-- What is parsed so far, and the rest. -/
def spRest (q : List Jb) (r : List (List UInt8)) : Option (List Jb) := (allSp r).map (q ++ ·)
theorem spRest_bad {q : List Jb} {x : List UInt8} {r : List (List UInt8)} (h : spB x = none) : spRest q (x :: r) = none := by
  rw [spRest, allSp_cons, h]; rfl
theorem spRest_ok {q : List Jb} {x : List UInt8} {r : List (List UInt8)} {j : Jb} (h : spB x = some j) : spRest q (x :: r) = spRest (q ++ [j]) r := by
  rw [spRest, spRest, allSp_cons, h]
  cases allSp r with
  | none => rfl
  | some t => simp
theorem spRest_end (q : List Jb) : spRest q [] = some q := by simp [spRest, allSp]
theorem spRest_start (r : List (List UInt8)) : spRest [] r = allSp r := by
  unfold spRest
  cases allSp r with
  | none => rfl
  | some t => simp
def pickS (B : List UInt8) : Option (List Jb) → Option (List Jb)
  | none => none
  | some js => if fjB js = B then some js else none
theorem qp_pick {B : List UInt8} (h : B ≠ []) : qpB B = if 60 < (cutC 32 B).length then none else pickS B (allSp (cutC 32 B)) := by
  rw [qpB, if_neg h]
  cases allSp (cutC 32 B) <;> rfl
set_option maxRecDepth 100000 in
set_option maxHeartbeats 3200000 in
theorem parse_spec (B : List UInt8) (hB : B.length ≤ 1048576) (w : World) : Calls Tryd.prog 6 #[sB B] w (RetP w 41 3 (jbs (optJ (ipB B)).1) (optJ (ipB B)).1.length (optJ (ipB B)).2) := by
  obtain ⟨i0, hi0, hz0, hz1, hz2⟩ := info_parts infoJob
  rw [← ip_qp]
  go_enter Tryd.func6, Tryd.ntmps6
  cases B with
  | nil =>
    go_wp2
    go_ret2
    exact ⟨_, _, rfl, by simpa [jbs, qpB, optJ] using World.ownsRow_made (base := w.heap.size) (e := 41) (size := 3) w #[] 0 (by omega) (by simp) rfl, bw_alloc _ _⟩
  | cons b0 B0 =>
    obtain ⟨B, hBe⟩ : ∃ B, b0 :: B0 = B := ⟨_, rfl⟩
    rw [hBe] at hB ⊢
    have hBn : B ≠ [] := by rw [← hBe]; simp
    have hne : B.isEmpty = false := by rw [← hBe]; rfl
    have hpl := cutC_len 32 B
    have hpn := cutC_ne 32 B
    have hip : qpB B = if 60 < (cutC 32 B).length then none else pickS B (allSp (cutC 32 B)) := qp_pick hBn
    have HIP := Lib.hid hip
    have HPL := Lib.hid hpl
    have HPN := Lib.hid hpn
    clear hip hpl hpn
    clear hBe hBn
    go_wp2_with fail
    refine (l11Cut_any B hB 32 _).mono ?_
    obtain ⟨P, hP⟩ : ∃ P, cutC 32 B = P := ⟨_, rfl⟩
    have HPL := Lib.hid (show ∀ x ∈ P, x.length ≤ B.length by rw [← hP]; exact HPL.out)
    have HIP := Lib.hid (show qpB B = if 60 < P.length then none else pickS B (allSp P) by rw [← hP]; exact HIP.out)
    have hpn : P ≠ [] := by rw [← hP]; exact HPN.out
    rw [hP]
    clear hP
    rintro e w1 ⟨ao, c, rfl, hs, hb1⟩
    have hb01 := bw_trans (bw_alloc _ _) hb1
    have hown0 : w1.ownsRow w.heap.size 41 3 (.slice (some ⟨w.heap.size, 0, none⟩) 0 0) 0 (jbs []) := by
      have := row_bw (World.ownsRow_made (base := w.heap.size) (e := 41) (size := 3) w #[] 0 (by simp) (by simp) rfl) hb1
      simpa [jbs] using this
    by_cases h60 : 60 < P.length
    · have hd : decide (60 < (P.length : Int)) = true := decide_eq_true (by omega)
      have HR := Lib.hid (show qpB B = none by rw [HIP.out, if_pos h60])
      clear hpn
      go_wp2
      go_ret2
      exact ⟨_, _, by rw [HR.out]; rfl, by rw [HR.out]; exact hown0, hb01⟩
    · have hd : decide (60 < (P.length : Int)) = false := decide_eq_false (by omega)
      have HIP := Lib.hid (show qpB B = pickS B (allSp P) by rw [HIP.out, if_neg h60])
      rcases hs.2 with ⟨_, h0⟩ | ⟨g, cap, cur, hv, _, hg, hcap, _, _, htk⟩
      · exact absurd (List.length_eq_zero_iff.1 h0) hpn
      · injection hv with hv1 _ hv2
        subst hv1 hv2
        have hcell : ∀ (k : Nat) (x : List UInt8), P[k]? = some x → cur[k]? = some (sB x) := fun k x hk => by
          have h1 : (strs P)[k]? = some (sB x) := by simp [strs, hk]
          rw [← htk] at h1
          rw [List.getElem?_take_of_lt (by have := (List.getElem?_eq_some_iff.1 hk).1; omega)] at h1
          rw [← Array.getElem?_toList]; exact h1
        have HCELL := Lib.hid hcell
        clear hcell
        have HG := Lib.hid hg
        clear hs htk hg hpn
        go_wp2
        go_loopw [4, 6] (fun o i wr => ∃ (k : Nat) (q : List Jb), k ≤ P.length ∧ i = .int .i64 k ∧ q.length = k ∧ wr.ownsRow w.heap.size 41 3 o q.length (jbs q) ∧ Hid (allSp P = spRest q (P.drop k)) ∧ Hid (wr.heap[g]? = some (.cells cur 9 (0, 0))) ∧ Bw w wr) (fun _ i _ => P.length - (intOf i).toNat)
        case atStart => exact ⟨0, [], Nat.zero_le _, rfl, rfl, hown0, by show _ = _; rw [List.drop_zero, spRest_start], HG.out, hb01⟩
        case round =>
          obtain ⟨k, q, hk, rfl, hq, hown, hx, hg, hbw⟩ := hrel
          subst hq
          clear HG hown0 hd
          obtain ⟨ao', c', hu⟩ := own_form hown
          subst hu
          by_cases hlt : q.length < P.length
          · obtain ⟨x, hxk⟩ := getSome hlt
            have c0 := blk_cell hg.out q.length (HCELL.out _ x hxk)
            have hgl := blk_lt hg.out
            have hxl : x.length ≤ 1048576 := Nat.le_trans (HPL.out x (List.mem_of_getElem? hxk)) hB
            have hst : allSp P = spRest q (x :: P.drop (q.length + 1)) := by rw [hx.out, drop_cons hxk]
            have HST := Lib.hid hst
            have HXK := Lib.hid hxk
            clear hst hxk
            clear hx
            go_wp2_with fail
            refine (l6Parse_any x hxl _).mono ?_
            rintro e w5 ⟨⟨jt, ja, jn⟩, ok, rfl, hsp, hb5⟩
            have hb05 := bw_trans hbw hb5
            cases ok with
            | false =>
              have HR := Lib.hid (show qpB B = none by rw [HIP.out, HST.out, spRest_bad (by rw [hsp.out]; rfl)]; rfl)
              clear hsp
              go_wp2
              go_ret2
              exact ⟨_, _, by rw [HR.out]; rfl, by rw [HR.out]; simpa [jbs, optJ] using World.ownsRow_made (base := w.heap.size) (e := 41) (size := 3) (w5.alloc (.cells #[.int .i64 jt, .int .i64 ja, .int .i64 jn] 41)) #[] 0 (by have := hb05.size; simp; omega) (by simp) rfl, bw_trans hb05 (bw_trans (bw_alloc _ _) (bw_alloc _ _))⟩
            | true =>
              have HR := Lib.hid (show allSp P = spRest (q ++ [⟨jt, ja, jn⟩]) (P.drop (q.length + 1)) by rw [HST.out, spRest_ok (by rw [hsp.out]; rfl)])
              have hg5 := Lib.hid (blk_bw hb5 hg.out)
              have hown5 := row_bw hown hb5
              have hz5 := hb05.size
              clear hsp hown hg
              have hj0 := heap_alloc_new w5 (.cells #[.int .i64 jt, .int .i64 ja, .int .i64 jn] 41)
              have j0 := blk_cell hj0 0 rfl
              have j1 := blk_cell hj0 1 rfl
              have j2 := blk_cell hj0 2 rfl
              clear hj0
              go_wp2_with (at_builtin; refine wpList_append_own _ rfl _ _ 22 rfl w.heap.size 41 i0 zJob 3 24 Tryd.underlying22 hi0 hz0 hz1 hz2 rfl (by decide) _ _ _ rfl ((row_bw hown5 (bw_alloc _ _)).alloc _) ⟨w5.heap.size + 1, 0, none⟩ 1 1 (jbCells ⟨jt, ja, jn⟩) rfl rfl (by have := cell_job_new (w5.alloc (.cells #[.int .i64 jt, .int .i64 ja, .int .i64 jn] 41)) ⟨jt, ja, jn⟩ 41; simpa using this) (oneJ _) (by unfold maxLen; omega) (by omega) (by simp; omega) ?_; intro v' w2 hown' hgrow _)
              have hc2 := Lib.hid ((hgrow.block g (by have := blk_lt hg5.out; simp; omega) (own_ne hown5 hg5.out (by decide))).trans (blk_bw (bw_trans (bw_alloc w5 (.cells #[.int .i64 jt, .int .i64 ja, .int .i64 jn] 41)) (bw_alloc _ (.cells #[.int .i64 jt, .int .i64 ja, .int .i64 jn] 41))) hg5.out))
              have hb2 : Bw w w2 := Below.grown (Below.alloc (bw_trans hb05 (bw_alloc _ _)) (by simp; omega) _) hgrow (by simp; omega) (fun g hg => by have := own_cap0 hown5 g hg; omega)
              have hown2 : w2.ownsRow w.heap.size 41 3 v' (q ++ [(⟨jt, ja, jn⟩ : Jb)]).length (jbs (q ++ [⟨jt, ja, jn⟩])) := by simpa [jbs] using hown'
              clear hown' hgrow hown5 j0 j1 j2
              go_wp2
              go_roundw
              case rel => exact ⟨q.length + 1, q ++ [(⟨jt, ja, jn⟩ : Jb)], by omega, by go_num, by simp, hown2, HR.out, hc2, hb2⟩
              case measure => simp [intOf]; omega
          · have hge : decide ((q.length : Int) < (P.length : Int)) = false := decide_eq_false (by omega)
            have hkl : q.length = P.length := by omega
            have HA := Lib.hid (show qpB B = pickS B (some q) by rw [HIP.out, hx.out, drop_end hlt, spRest_end])
            have HOWN := Lib.hid hown
            have hsj : SJ wr (.slice ao' q.length c') q := sj_row HOWN.out (by omega)
            have HKL := Lib.hid hkl
            have HSJ := Lib.hid hsj
            clear hkl hsj
            clear hown hx hg
            go_wp2_with fail
            refine (fj_spec HSJ.out).mono ?_
            by_cases hfj : fjB q = B
            · rw [hfj]
              rintro e w5 ⟨rfl, hb5⟩
              have HX := Lib.hid (show qpB B = some q by rw [HA.out, pickS, if_pos hfj])
              have HFJ := Lib.hid hfj
              clear hfj
              go_wp2
              go_ret2
              exact ⟨ao', c', by rw [HX.out]; rfl, by rw [HX.out]; exact row_bw HOWN.out hb5, bw_trans hbw hb5⟩
            · obtain ⟨F, hF⟩ : ∃ F, fjB q = F := ⟨_, rfl⟩
              rw [hF] at hfj ⊢
              have hxx : (F == B) = false := by rw [beq_eq_false_iff_ne]; exact hfj
              rintro e w5 ⟨rfl, hb5⟩
              have HX := Lib.hid (show qpB B = none by rw [HA.out, pickS, hF, if_neg hfj])
              have hz5 := (bw_trans hbw hb5).size
              have HFJ := Lib.hid hfj
              have HF := Lib.hid hF
              clear hfj hF
              go_wp2
              go_ret2
              exact ⟨_, _, by rw [HX.out]; rfl, by rw [HX.out]; simpa [jbs, optJ] using World.ownsRow_made (base := w.heap.size) (e := 41) (size := 3) w5 #[] 0 (by omega) (by simp) rfl, bw_trans hbw (bw_trans hb5 (bw_alloc _ _))⟩
end Go.Proofs.YtnmpilmjkgdpgaaDoor
