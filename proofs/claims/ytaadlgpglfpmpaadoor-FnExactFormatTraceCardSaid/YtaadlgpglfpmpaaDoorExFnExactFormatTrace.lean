/-
  The walk of the law FnExactFormatTrace: it returns true and writes nothing that was there. No condition.
-/
import Derived.Test.YtaadlgpglfpmpaaDoorFt
import Derived.Test.YtaadlgpglfpmpaaDoorGB
import Derived.Deep.RegionHeld3


namespace Go.Proofs.YtaadlgpglfpmpaaDoor
open Go.RowKit
set_option maxRecDepth 100000 in
set_option maxHeartbeats 8000000 in
theorem law_FnExactFormatTrace (v0 : Value) (x0 : Rn) (w : World) (g0 : RawRun w v0 x0) :
    Calls Tryd.prog 7 #[v0] w fun e w' => e = .returned (.bool true) ∧ Bw w w' := by
  have G0 := Lib.hid g0
  obtain ⟨⟨a01, c01, a02, c02, a03, c03, rfl, _, _, _⟩, n01, n02, n03, _⟩ := g0
  go_enter Tryd.func7, Tryd.ntmps7
  go_wp2_with fail
  refine (szRun_any _ _ _ _ _ _ _ _ _ _ _ _ n01 n02 n03 (by omega) (by omega)).mono ?_
  rintro e w1 ⟨q0, rfl, hb1, hq0⟩
  have hs1 : Bw w w1 := (bw_trans (bw_alloc _ _) hb1)
  have hz1 : w.heap.size + 1 ≤ w1.heap.size := by have := hb1.size; simp at this; omega
  have hw1 : Bw w w1 := hs1
  have PB0 := Lib.hid (box_last hb1)
  rcases hq0 with hq0 | ⟨hq0, hp0⟩
  · go_wp2
    go_ret
    exact ⟨rfl, hw1⟩
  · have HP0 := Lib.hid hp0
    clear hp0
    have l01 : x0.ended.length ≤ 1048576 := by have := HP0.out; omega
    have l02 : x0.trace.length ≤ 1048576 := by have := HP0.out; omega
    have l03 : x0.switches.length ≤ 1048576 := by have := HP0.out; omega
    have RV0 : Hid (RR w (rnVal a01 x0.ended.length c01 a02 x0.trace.length c02 a03 x0.switches.length c03 x0.high) x0) := rr_raw G0.out l01 l02 l03
    obtain ⟨b10, b11, b12, b13⟩ := box4 PB0.out
    go_wp2_with fail
    refine (toRun_any (RV0.out.bw hw1)).mono ?_
    rintro e w2 ⟨u, rfl, hu2, hb2⟩
    clear b10 b11 b12 b13
    have hs2 : Bw w1 w2 := hb2
    have hz2 := hb2.size
    have hw2 : Bw w w2 := (bw_trans hw1 hs2)
    have S0 := Lib.hid hu2
    clear hu2
    go_wp2_with fail
    refine (ft_spec (S0.out.rr.bw (Bw.refl _))).mono ?_
    rintro e w3 ⟨rfl, hb3⟩
    have hs3 : Bw w2 w3 := hb3
    have hz3 := hb3.size
    have hw3 : Bw w w3 := (bw_trans hw2 hs3)
    obtain ⟨b20, b21, b22, b23⟩ := box4 (blk_bw hs3 (blk_bw hs2 PB0.out))
    go_wp2_with fail
    refine (toRun_any (RV0.out.bw hw3)).mono ?_
    rintro e w4 ⟨u, rfl, hu4, hb4⟩
    clear b20 b21 b22 b23
    have hs4 : Bw w3 w4 := hb4
    have hz4 := hb4.size
    have hw4 : Bw w w4 := (bw_trans hw3 hs4)
    have X0 := Lib.hid hu4
    clear hu4
    obtain ⟨⟨d01, d02, d03, _, _, _, _, _, _, eu0, _⟩, _⟩ := X0.out
    subst eu0
    go_wp2_with fail
    refine (ft_impl ((X0.out.rr.bw (Bw.refl _)).bw (bw_alloc _ _))).mono ?_
    rintro e w5 ⟨rfl, hb5⟩
    have hs5 : Bw w4 w5 := (bw_trans (bw_alloc _ _) hb5)
    have hz5 : w4.heap.size + 1 ≤ w5.heap.size := by have := hb5.size; simp at this; omega
    have hw5 : Bw w w5 := (bw_trans hw4 hs5)
    have XB0 := Lib.hid (box_last hb5)
    obtain ⟨p0, p1, p2, p3⟩ := box4 (blk_bw hs5 (blk_bw hs4 (blk_bw hs3 (blk_bw hs2 PB0.out))))
    obtain ⟨r0, r1, r2, r3⟩ := box4 XB0.out
    have HS := Lib.hid (And.intro p0 (And.intro p1 (And.intro p2 (And.intro p3 (And.intro r0 (And.intro r1 (And.intro r2 r3)))))))
    have HX5 := Lib.hid (X0.out.rr.bw hs5)
    go_wp2_with fail
    go_region_held3 (fun W => W.cell? ⟨w.heap.size, 0, none⟩ = some (.slice a01 x0.ended.length c01) ∧ W.cell? ⟨w.heap.size, 1, none⟩ = some (.slice a02 x0.trace.length c02) ∧ W.cell? ⟨w.heap.size, 2, none⟩ = some (.slice a03 x0.switches.length c03) ∧ W.cell? ⟨w.heap.size, 3, none⟩ = some (.bool x0.high) ∧ W.cell? ⟨w4.heap.size, 0, none⟩ = some (.slice (some ⟨d01, 0, none⟩) x0.ended.length x0.ended.length) ∧ W.cell? ⟨w4.heap.size, 1, none⟩ = some (.slice (some ⟨d02, 0, none⟩) x0.trace.length x0.trace.length) ∧ W.cell? ⟨w4.heap.size, 2, none⟩ = some (.slice (some ⟨d03, 0, none⟩) x0.switches.length x0.switches.length) ∧ W.cell? ⟨w4.heap.size, 3, none⟩ = some (.bool x0.high))
      (first | exact keep8 (bw_drew _) HS.out | exact keep8 (bw_trans (bw_drew _) hbA) HS.out | exact keep8 (bw_trans (bw_drew _) (bw_trans hbA hbB)) HS.out)
      (first | (go_at_call 27; refine (toRun_any (RV0.out.bw (bw_trans hw5 (bw_drew _)))).mono ?_; rintro e wA ⟨u2, rfl, hu2, hbA⟩) | (go_at_call 28; refine (eqRun_any (HX5.out.bw (bw_trans (bw_drew _) hbA)) hu2.rr).mono ?_; rw [eqR_refl]; rintro e w6 ⟨rfl, hbB⟩))
    clear p0 p1 p2 p3 r0 r1 r2 r3 HS HX5 hu2
    have hs6 : Bw w5 w6 := bw_trans (bw_drew _) (bw_trans hbA hbB)
    have hz6 := hs6.size
    have hw6 : Bw w w6 := (bw_trans hw5 hs6)
    go_wp2
    go_ret
    exact ⟨rfl, hw6⟩
end Go.Proofs.YtaadlgpglfpmpaaDoor
