/-
  The walk of the law FnExactLongestOf: it returns true and writes nothing that was there. No condition.
-/
import Derived.Test.YtfjcpnkiddpdcaaLongest
import Derived.Deep.RegionHeld3
namespace Go.Proofs.Ytfjcpnkiddpdcaa
open Go.RowKit
set_option maxRecDepth 100000 in
set_option maxHeartbeats 8000000 in
theorem law_FnExactLongestOf (v0 : Value) (x0 : List Jb) (v1 : Value) (x1 : Rn) (x2 : Int) (w : World) (g0 : RawJ w v0 x0) (g1 : RawRun w v1 x1) (_g2 : I64 x2) :
    Calls Try.prog 7 #[v0, v1, .int .i64 x2] w fun e w' => e = .returned (.bool true) ∧ Bw w w' := by
  have G0 := Lib.hid g0
  obtain ⟨⟨a0, c0, rfl, _⟩, n0, _⟩ := g0
  have G1 := Lib.hid g1
  obtain ⟨⟨a11, c11, a12, c12, a13, c13, rfl, _, _, _⟩, n11, n12, n13, _⟩ := g1
  go_enter Try.func7, Try.ntmps7
  go_wp2_with fail
  refine (szJobE _ _ _ _ _ n0 (by omega) (by omega)).mono ?_
  rintro e w1 ⟨q0, rfl, hb1, hq0⟩
  have hs1 : Bw w w1 := (bw_trans (bw_alloc _ _) hb1)
  have hz1 : w.heap.size + 1 ≤ w1.heap.size := by have := hb1.size; simp at this; omega
  have hw1 : Bw w w1 := hs1
  have PB1 := Lib.hid (box_last hb1)
  rcases hq0 with hq0 | ⟨hq0, hp0⟩
  · go_wp2
    go_ret
    exact ⟨rfl, hw1⟩
  · have hm0 : q0 ≤ 1048576 := by omega
    have HP0 := Lib.hid hp0
    clear hp0
    obtain ⟨b10, b11, b12, b13⟩ := box4 PB1.out
    go_wp2_with fail
    refine (szRun_any _ _ _ _ _ _ _ _ _ _ _ _ n11 n12 n13 (by omega) (by omega)).mono ?_
    rintro e w2 ⟨q1, rfl, hb2, hq1⟩
    clear b10 b11 b12 b13
    have hs2 : Bw w1 w2 := hb2
    have hz2 := hb2.size
    have hw2 : Bw w w2 := (bw_trans hw1 hs2)
    rcases hq1 with hq1 | ⟨hq1, hp1⟩
    · go_wp2
      go_ret
      exact ⟨rfl, hw2⟩
    · have hm1 : q1 ≤ 1048576 := by omega
      have HP1 := Lib.hid hp1
      clear hp1
      have l0 : x0.length ≤ 1048576 := by have := HP0.out; omega
      have l11 : x1.ended.length ≤ 1048576 := by have := HP1.out; omega
      have l12 : x1.trace.length ≤ 1048576 := by have := HP1.out; omega
      have l13 : x1.switches.length ≤ 1048576 := by have := HP1.out; omega
      have RV1 : Hid (RR w (rnVal a11 x1.ended.length c11 a12 x1.trace.length c12 a13 x1.switches.length c13 x1.high) x1) := rr_raw G1.out l11 l12 l13
      obtain ⟨p10, p11, p12, p13⟩ := box4 (blk_bw hs2 PB1.out)
      have HS := Lib.hid (And.intro p10 (And.intro p11 (And.intro p12 p13)))
      have tok0 : True := trivial
      have tok1 : True := trivial
      go_wp2_with fail
      go_region_held3 (fun W => W.cell? ⟨w.heap.size, 0, none⟩ = some (.slice a11 x1.ended.length c11) ∧ W.cell? ⟨w.heap.size, 1, none⟩ = some (.slice a12 x1.trace.length c12) ∧ W.cell? ⟨w.heap.size, 2, none⟩ = some (.slice a13 x1.switches.length c13) ∧ W.cell? ⟨w.heap.size, 3, none⟩ = some (.bool x1.high))
        (first | exact keep4 (bw_drew _) HS.out | exact keep4 (bw_trans (bw_drew _) hb3) HS.out | exact keep4 (bw_trans (bw_trans (bw_drew _) hb3) hb4) HS.out | exact keep4 (bw_trans (bw_trans (bw_trans (bw_drew _) hb3) hb4) hb5) HS.out)
        (first | (go_at_call 32; have _t := tok0; refine (toJobs G0.out l0 (bw_trans hw2 (bw_drew _))).mono ?_; rintro e w3 ⟨u3, rfl, hu3, hb3⟩; clear tok0) | (go_at_call 17; have _t := tok1; refine (toRun_any (RV1.out.bw (bw_trans hw2 (bw_trans (bw_drew _) hb3)))).mono ?_; rintro e w4 ⟨u4, rfl, hu4, hb4⟩; clear tok1) | (go_at_call 31; refine (longest_spec (hu3.st.bw hb4) (hu4.rr.bw (Bw.refl _)) (jr_raw G0.out) x2).mono ?_; rintro e w5 ⟨rfl, hb5⟩))
      clear p10 p11 p12 p13 HS hu3 hu4
      have hs3 : Bw w2 w3 := bw_trans (bw_drew _) hb3
      have hz3 := hs3.size
      have hw3 : Bw w w3 := (bw_trans hw2 hs3)
      have hs4 : Bw w3 w4 := hb4
      have hz4 := hb4.size
      have hw4 : Bw w w4 := (bw_trans hw3 hs4)
      have hs5 : Bw w4 w5 := hb5
      have hz5 := hb5.size
      have hw5 : Bw w w5 := (bw_trans hw4 hs5)
      go_wp2_with fail
      refine (toJobs G0.out l0 hw5).mono ?_
      rintro e w6 ⟨u, rfl, hu6, hb6⟩
      have hs6 : Bw w5 w6 := hb6
      have hz6 := hb6.size
      have hw6 : Bw w w6 := (bw_trans hw5 hs6)
      have X0 := Lib.hid hu6
      clear hu6
      have eu0 := X0.out.form
      subst eu0
      have hx0 := X0.out.lt
      obtain ⟨b20, b21, b22, b23⟩ := box4 (blk_bw hs6 (blk_bw hs5 (blk_bw hs4 (blk_bw hs3 (blk_bw hs2 PB1.out)))))
      go_wp2_with fail
      refine (toRun_any (RV1.out.bw hw6)).mono ?_
      rintro e w7 ⟨u, rfl, hu7, hb7⟩
      clear b20 b21 b22 b23
      have hs7 : Bw w6 w7 := hb7
      have hz7 := hb7.size
      have hw7 : Bw w w7 := (bw_trans hw6 hs7)
      have X1 := Lib.hid hu7
      clear hu7
      obtain ⟨⟨d11, d12, d13, _, _, _, _, _, _, eu1, _⟩, _⟩ := X1.out
      subst eu1
      go_wp2_with fail
      refine (longest_impl ((X0.out.st.bw hs7).bw (bw_alloc _ _)) ((X1.out.rr.bw (Bw.refl _)).bw (bw_alloc _ _)) (jr_raw G0.out) x2).mono ?_
      rintro e w8 ⟨rfl, hb8⟩
      have hs8 : Bw w7 w8 := (bw_trans (bw_alloc _ _) hb8)
      have hz8 : w7.heap.size + 1 ≤ w8.heap.size := by have := hb8.size; simp at this; omega
      have hw8 : Bw w w8 := (bw_trans hw7 hs8)
      have XB1 := Lib.hid (box_last hb8)
      go_wp2_with fail
      refine (toJobs G0.out l0 hw8).mono ?_
      rintro e w9 ⟨u, rfl, hu9, hb9⟩
      have hs9 : Bw w8 w9 := hb9
      have hz9 := hb9.size
      have hw9 : Bw w w9 := (bw_trans hw8 hs9)
      obtain ⟨⟨ae, ce, eu, he, _⟩, _⟩ := hu9.st
      clear hu9
      subst eu
      obtain ⟨⟨af, cf, ef, hf, _⟩, _⟩ := (X0.out.st.bw (bw_trans (bw_trans hs7 hs8) hs9))
      simp only [Value.slice.injEq] at ef
      obtain ⟨rfl, _, rfl⟩ := ef
      have HE := Lib.hid he
      have HF := Lib.hid hf
      clear he hf
      go_wp2_with fail
      refine (eqJobS_any _ _ _ _ _ _ _ HF.out HE.out l0 l0).mono ?_
      rw [decide_eq_true rfl]
      rintro e w10 ⟨rfl, hb10⟩
      have hs10 : Bw w9 w10 := hb10
      have hz10 := hb10.size
      have hw10 : Bw w w10 := (bw_trans hw9 hs10)
      clear HE HF
      obtain ⟨p0, p1, p2, p3⟩ := box4 (blk_bw hs10 (blk_bw hs9 (blk_bw hs8 (blk_bw hs7 (blk_bw hs6 (blk_bw hs5 (blk_bw hs4 (blk_bw hs3 (blk_bw hs2 PB1.out)))))))))
      obtain ⟨r0, r1, r2, r3⟩ := box4 (blk_bw hs10 (blk_bw hs9 XB1.out))
      have HS := Lib.hid (And.intro p0 (And.intro p1 (And.intro p2 (And.intro p3 (And.intro r0 (And.intro r1 (And.intro r2 r3)))))))
      have HX5 := Lib.hid (X1.out.rr.bw (bw_trans (bw_trans hs8 hs9) hs10))
      go_wp2_with fail
      go_region_held3 (fun W => W.cell? ⟨w.heap.size, 0, none⟩ = some (.slice a11 x1.ended.length c11) ∧ W.cell? ⟨w.heap.size, 1, none⟩ = some (.slice a12 x1.trace.length c12) ∧ W.cell? ⟨w.heap.size, 2, none⟩ = some (.slice a13 x1.switches.length c13) ∧ W.cell? ⟨w.heap.size, 3, none⟩ = some (.bool x1.high) ∧ W.cell? ⟨w7.heap.size, 0, none⟩ = some (.slice (some ⟨d11, 0, none⟩) x1.ended.length x1.ended.length) ∧ W.cell? ⟨w7.heap.size, 1, none⟩ = some (.slice (some ⟨d12, 0, none⟩) x1.trace.length x1.trace.length) ∧ W.cell? ⟨w7.heap.size, 2, none⟩ = some (.slice (some ⟨d13, 0, none⟩) x1.switches.length x1.switches.length) ∧ W.cell? ⟨w7.heap.size, 3, none⟩ = some (.bool x1.high))
        (first | exact keep8 (bw_drew _) HS.out | exact keep8 (bw_trans (bw_drew _) hbA) HS.out | exact keep8 (bw_trans (bw_drew _) (bw_trans hbA hbB)) HS.out)
        (first | (go_at_call 17; refine (toRun_any (RV1.out.bw (bw_trans hw10 (bw_drew _)))).mono ?_; rintro e wA ⟨u2, rfl, hu2, hbA⟩) | (go_at_call 19; refine (eqRun_any (HX5.out.bw (bw_trans (bw_drew _) hbA)) hu2.rr).mono ?_; rw [eqR_refl]; rintro e w11 ⟨rfl, hbB⟩))
      clear p0 p1 p2 p3 r0 r1 r2 r3 HS HX5 hu2
      have hs11 : Bw w10 w11 := bw_trans (bw_drew _) (bw_trans hbA hbB)
      have hz11 := hs11.size
      have hw11 : Bw w w11 := (bw_trans hw10 hs11)
      go_wp2
      go_ret
      exact ⟨rfl, hw11⟩
end Go.Proofs.Ytfjcpnkiddpdcaa
