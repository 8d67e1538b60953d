/-
  The walk of the law FnExactRunSame: it returns true and writes nothing that was there. No condition.
-/
import Derived.Test.YtfjcpnkiddpdcaaCon
import Derived.Deep.RegionHeld3
namespace Go.Proofs.Ytfjcpnkiddpdcaa
open Go.RowKit
set_option maxRecDepth 100000 in
set_option maxHeartbeats 8000000 in
theorem law_FnExactRunSame (v0 : Value) (x0 : Rn) (v1 : Value) (x1 : Rn) (w : World) (g0 : RawRun w v0 x0) (g1 : RawRun w v1 x1) :
    Calls Try.prog 5 #[v0, v1] w fun e w' => e = .returned (.bool true) ∧ Bw w w' := by
  have G0 := Lib.hid g0
  obtain ⟨⟨a01, c01, a02, c02, a03, c03, rfl, _, _, _⟩, n01, n02, n03, _⟩ := g0
  have G1 := Lib.hid g1
  obtain ⟨⟨a11, c11, a12, c12, a13, c13, rfl, _, _, _⟩, n11, n12, n13, _⟩ := g1
  go_enter Try.func5, Try.ntmps5
  go_wp2_with fail
  refine (szRun_any _ _ _ _ _ _ _ _ _ _ _ _ n01 n02 n03 (by omega) (by omega)).mono ?_
  rintro e w1 ⟨q0, rfl, hb1, hq0⟩
  have hs1 : Bw w w1 := (bw_trans (bw_alloc _ _) (bw_trans (bw_alloc _ _) hb1))
  have hz1 : w.heap.size + 2 ≤ w1.heap.size := by have := hb1.size; simp at this; omega
  have hw1 : Bw w w1 := hs1
  have PB0 := Lib.hid (box_two hb1).1
  have PB1 := Lib.hid (box_two hb1).2
  rcases hq0 with hq0 | ⟨hq0, hp0⟩
  · go_wp2
    go_ret
    exact ⟨rfl, hw1⟩
  · have hm0 : q0 ≤ 1048576 := by omega
    have HP0 := Lib.hid hp0
    clear hp0
    obtain ⟨b10, b11, b12, b13⟩ := box4 PB1.out
    go_wp2_with fail
    refine (szRun_any _ _ _ _ _ _ _ _ _ _ _ _ n11 n12 n13 (by omega) (by omega)).mono ?_
    rintro e w2 ⟨q1, rfl, hb2, hq1⟩
    clear b10 b11 b12 b13
    have hs2 : Bw w1 w2 := hb2
    have hz2 := hb2.size
    have hw2 : Bw w w2 := (bw_trans hw1 hs2)
    rcases hq1 with hq1 | ⟨hq1, hp1⟩
    · go_wp2
      go_ret
      exact ⟨rfl, hw2⟩
    · have hm1 : q1 ≤ 1048576 := by omega
      have HP1 := Lib.hid hp1
      clear hp1
      have l01 : x0.ended.length ≤ 1048576 := by have := HP0.out; omega
      have l02 : x0.trace.length ≤ 1048576 := by have := HP0.out; omega
      have l03 : x0.switches.length ≤ 1048576 := by have := HP0.out; omega
      have RV0 : Hid (RR w (rnVal a01 x0.ended.length c01 a02 x0.trace.length c02 a03 x0.switches.length c03 x0.high) x0) := rr_raw G0.out l01 l02 l03
      have l11 : x1.ended.length ≤ 1048576 := by have := HP1.out; omega
      have l12 : x1.trace.length ≤ 1048576 := by have := HP1.out; omega
      have l13 : x1.switches.length ≤ 1048576 := by have := HP1.out; omega
      have RV1 : Hid (RR w (rnVal a11 x1.ended.length c11 a12 x1.trace.length c12 a13 x1.switches.length c13 x1.high) x1) := rr_raw G1.out l11 l12 l13
      obtain ⟨p00, p01, p02, p03⟩ := box4 (blk_bw hs2 PB0.out)
      obtain ⟨p10, p11, p12, p13⟩ := box4 (blk_bw hs2 PB1.out)
      have HS := Lib.hid (And.intro p00 (And.intro p01 (And.intro p02 (And.intro p03 (And.intro p10 (And.intro p11 (And.intro p12 p13)))))))
      have tok0 : True := trivial
      have tok1 : True := trivial
      go_wp2_with fail
      go_region_held3 (fun W => W.cell? ⟨w.heap.size, 0, none⟩ = some (.slice a01 x0.ended.length c01) ∧ W.cell? ⟨w.heap.size, 1, none⟩ = some (.slice a02 x0.trace.length c02) ∧ W.cell? ⟨w.heap.size, 2, none⟩ = some (.slice a03 x0.switches.length c03) ∧ W.cell? ⟨w.heap.size, 3, none⟩ = some (.bool x0.high) ∧ W.cell? ⟨w.heap.size + 1, 0, none⟩ = some (.slice a11 x1.ended.length c11) ∧ W.cell? ⟨w.heap.size + 1, 1, none⟩ = some (.slice a12 x1.trace.length c12) ∧ W.cell? ⟨w.heap.size + 1, 2, none⟩ = some (.slice a13 x1.switches.length c13) ∧ W.cell? ⟨w.heap.size + 1, 3, none⟩ = some (.bool x1.high))
        (first | exact keep8 (bw_drew _) HS.out | exact keep8 (bw_trans (bw_drew _) hb3) HS.out | exact keep8 (bw_trans (bw_trans (bw_drew _) hb3) hb4) HS.out | exact keep8 (bw_trans (bw_trans (bw_trans (bw_drew _) hb3) hb4) hb5) HS.out)
        (first | (go_at_call 17; have _t := tok0; refine (toRun_any (RV0.out.bw (bw_trans hw2 (bw_drew _)))).mono ?_; rintro e w3 ⟨u3, rfl, hu3, hb3⟩; clear tok0) | (go_at_call 17; have _t := tok1; refine (toRun_any (RV1.out.bw (bw_trans hw2 (bw_trans (bw_drew _) hb3)))).mono ?_; rintro e w4 ⟨u4, rfl, hu4, hb4⟩; clear tok1) | (go_at_call 22; refine (same_spec (hu3.rr.bw hb4) (hu4.rr.bw (Bw.refl _))).mono ?_; rintro e w5 ⟨rfl, hb5⟩))
      clear p00 p01 p02 p03 p10 p11 p12 p13 HS hu3 hu4
      have hs3 : Bw w2 w3 := bw_trans (bw_drew _) hb3
      have hz3 := hs3.size
      have hw3 : Bw w w3 := (bw_trans hw2 hs3)
      have hs4 : Bw w3 w4 := hb4
      have hz4 := hb4.size
      have hw4 : Bw w w4 := (bw_trans hw3 hs4)
      have hs5 : Bw w4 w5 := hb5
      have hz5 := hb5.size
      have hw5 : Bw w w5 := (bw_trans hw4 hs5)
      obtain ⟨b20, b21, b22, b23⟩ := box4 (blk_bw hs5 (blk_bw hs4 (blk_bw hs3 (blk_bw hs2 PB0.out))))
      go_wp2_with fail
      refine (toRun_any (RV0.out.bw hw5)).mono ?_
      rintro e w6 ⟨u, rfl, hu6, hb6⟩
      clear b20 b21 b22 b23
      have hs6 : Bw w5 w6 := hb6
      have hz6 := hb6.size
      have hw6 : Bw w w6 := (bw_trans hw5 hs6)
      have X0 := Lib.hid hu6
      clear hu6
      obtain ⟨⟨d01, d02, d03, _, _, _, _, _, _, eu0, _⟩, _⟩ := X0.out
      subst eu0
      obtain ⟨b30, b31, b32, b33⟩ := box4 (blk_bw hs6 (blk_bw hs5 (blk_bw hs4 (blk_bw hs3 (blk_bw hs2 PB1.out)))))
      have lb3 : w.heap.size + 1 < w6.heap.size := by omega
      go_wp2_with fail
      refine (toRun_any (RV1.out.bw (bw_trans hw6 (bw_alloc _ _)))).mono ?_
      rintro e w7 ⟨u, rfl, hu7, hb7⟩
      clear b30 b31 b32 b33 lb3
      have hs7 : Bw w6 w7 := (bw_trans (bw_alloc _ _) hb7)
      have hz7 : w6.heap.size + 1 ≤ w7.heap.size := by have := hb7.size; simp at this; omega
      have hw7 : Bw w w7 := (bw_trans hw6 hs7)
      have XB0 := Lib.hid (box_last hb7)
      have X1 := Lib.hid hu7
      clear hu7
      obtain ⟨⟨d11, d12, d13, _, _, _, _, _, _, eu1, _⟩, _⟩ := X1.out
      subst eu1
      obtain ⟨b40, b41, b42, b43⟩ := box4 XB0.out
      have lb4 : w6.heap.size < w7.heap.size := by omega
      go_wp2_with fail
      refine (same_impl ((X0.out.rr.bw hs7).bw (bw_alloc _ _)) ((X1.out.rr.bw (Bw.refl _)).bw (bw_alloc _ _))).mono ?_
      rintro e w8 ⟨rfl, hb8⟩
      clear b40 b41 b42 b43 lb4
      have hs8 : Bw w7 w8 := (bw_trans (bw_alloc _ _) hb8)
      have hz8 : w7.heap.size + 1 ≤ w8.heap.size := by have := hb8.size; simp at this; omega
      have hw8 : Bw w w8 := (bw_trans hw7 hs8)
      have XB1 := Lib.hid (box_last hb8)
      obtain ⟨p0, p1, p2, p3⟩ := box4 (blk_bw hs8 (blk_bw hs7 (blk_bw hs6 (blk_bw hs5 (blk_bw hs4 (blk_bw hs3 (blk_bw hs2 PB0.out)))))))
      obtain ⟨r0, r1, r2, r3⟩ := box4 (blk_bw hs8 XB0.out)
      have HS := Lib.hid (And.intro p0 (And.intro p1 (And.intro p2 (And.intro p3 (And.intro r0 (And.intro r1 (And.intro r2 r3)))))))
      have HX5 := Lib.hid (X0.out.rr.bw (bw_trans hs7 hs8))
      go_wp2_with fail
      go_region_held3 (fun W => W.cell? ⟨w.heap.size, 0, none⟩ = some (.slice a01 x0.ended.length c01) ∧ W.cell? ⟨w.heap.size, 1, none⟩ = some (.slice a02 x0.trace.length c02) ∧ W.cell? ⟨w.heap.size, 2, none⟩ = some (.slice a03 x0.switches.length c03) ∧ W.cell? ⟨w.heap.size, 3, none⟩ = some (.bool x0.high) ∧ W.cell? ⟨w6.heap.size, 0, none⟩ = some (.slice (some ⟨d01, 0, none⟩) x0.ended.length x0.ended.length) ∧ W.cell? ⟨w6.heap.size, 1, none⟩ = some (.slice (some ⟨d02, 0, none⟩) x0.trace.length x0.trace.length) ∧ W.cell? ⟨w6.heap.size, 2, none⟩ = some (.slice (some ⟨d03, 0, none⟩) x0.switches.length x0.switches.length) ∧ W.cell? ⟨w6.heap.size, 3, none⟩ = some (.bool x0.high))
        (first | exact keep8 (bw_drew _) HS.out | exact keep8 (bw_trans (bw_drew _) hbA) HS.out | exact keep8 (bw_trans (bw_drew _) (bw_trans hbA hbB)) HS.out)
        (first | (go_at_call 17; refine (toRun_any (RV0.out.bw (bw_trans hw8 (bw_drew _)))).mono ?_; rintro e wA ⟨u2, rfl, hu2, hbA⟩) | (go_at_call 19; refine (eqRun_any (HX5.out.bw (bw_trans (bw_drew _) hbA)) hu2.rr).mono ?_; rw [eqR_refl]; rintro e w9 ⟨rfl, hbB⟩))
      clear p0 p1 p2 p3 r0 r1 r2 r3 HS HX5 hu2
      have hs9 : Bw w8 w9 := bw_trans (bw_drew _) (bw_trans hbA hbB)
      have hz9 := hs9.size
      have hw9 : Bw w w9 := (bw_trans hw8 hs9)
      obtain ⟨p0, p1, p2, p3⟩ := box4 (blk_bw hs9 (blk_bw hs8 (blk_bw hs7 (blk_bw hs6 (blk_bw hs5 (blk_bw hs4 (blk_bw hs3 (blk_bw hs2 PB1.out))))))))
      obtain ⟨r0, r1, r2, r3⟩ := box4 (blk_bw hs9 XB1.out)
      have HS := Lib.hid (And.intro p0 (And.intro p1 (And.intro p2 (And.intro p3 (And.intro r0 (And.intro r1 (And.intro r2 r3)))))))
      have HX5 := Lib.hid (X1.out.rr.bw (bw_trans hs8 hs9))
      go_wp2_with fail
      go_region_held3 (fun W => W.cell? ⟨w.heap.size + 1, 0, none⟩ = some (.slice a11 x1.ended.length c11) ∧ W.cell? ⟨w.heap.size + 1, 1, none⟩ = some (.slice a12 x1.trace.length c12) ∧ W.cell? ⟨w.heap.size + 1, 2, none⟩ = some (.slice a13 x1.switches.length c13) ∧ W.cell? ⟨w.heap.size + 1, 3, none⟩ = some (.bool x1.high) ∧ W.cell? ⟨w7.heap.size, 0, none⟩ = some (.slice (some ⟨d11, 0, none⟩) x1.ended.length x1.ended.length) ∧ W.cell? ⟨w7.heap.size, 1, none⟩ = some (.slice (some ⟨d12, 0, none⟩) x1.trace.length x1.trace.length) ∧ W.cell? ⟨w7.heap.size, 2, none⟩ = some (.slice (some ⟨d13, 0, none⟩) x1.switches.length x1.switches.length) ∧ W.cell? ⟨w7.heap.size, 3, none⟩ = some (.bool x1.high))
        (first | exact keep8 (bw_drew _) HS.out | exact keep8 (bw_trans (bw_drew _) hbA) HS.out | exact keep8 (bw_trans (bw_drew _) (bw_trans hbA hbB)) HS.out)
        (first | (go_at_call 17; refine (toRun_any (RV1.out.bw (bw_trans hw9 (bw_drew _)))).mono ?_; rintro e wA ⟨u2, rfl, hu2, hbA⟩) | (go_at_call 19; refine (eqRun_any (HX5.out.bw (bw_trans (bw_drew _) hbA)) hu2.rr).mono ?_; rw [eqR_refl]; rintro e w10 ⟨rfl, hbB⟩))
      clear p0 p1 p2 p3 r0 r1 r2 r3 HS HX5 hu2
      have hs10 : Bw w9 w10 := bw_trans (bw_drew _) (bw_trans hbA hbB)
      have hz10 := hs10.size
      have hw10 : Bw w w10 := (bw_trans hw9 hs10)
      go_wp2
      go_ret
      exact ⟨rfl, hw10⟩
end Go.Proofs.Ytfjcpnkiddpdcaa
