/-
  The walk of the law FnExactMissesOf: it returns true and writes nothing that was there. No condition.
-/
import Derived.Test.YtfjcpnkiddpdcaaMisses
import Derived.Deep.RegionHeld3
namespace Go.Proofs.Ytfjcpnkiddpdcaa
open Go.RowKit
set_option maxRecDepth 100000 in
set_option maxHeartbeats 8000000 in
theorem law_FnExactMissesOf (v0 : Value) (x0 : List Tk) (v1 : Value) (x1 : List Jb) (v2 : Value) (x2 : Rn) (w : World) (g0 : RawT w v0 x0) (g1 : RawJ w v1 x1) (g2 : RawRun w v2 x2) :
    Calls Try.prog 14 #[v0, v1, v2] w fun e w' => e = .returned (.bool true) ∧ Bw w w' := by
  have G0 := Lib.hid g0
  obtain ⟨⟨a0, c0, rfl, _⟩, n0, _⟩ := g0
  have G1 := Lib.hid g1
  obtain ⟨⟨a1, c1, rfl, _⟩, n1, _⟩ := g1
  have G2 := Lib.hid g2
  obtain ⟨⟨a21, c21, a22, c22, a23, c23, rfl, _, _, _⟩, n21, n22, n23, _⟩ := g2
  go_enter Try.func14, Try.ntmps14
  go_wp2_with fail
  refine (szTaskE _ _ _ _ _ n0 (by omega) (by omega)).mono ?_
  rintro e w1 ⟨q0, rfl, hb1, hq0⟩
  have hs1 : Bw w w1 := (bw_trans (bw_alloc _ _) hb1)
  have hz1 : w.heap.size + 1 ≤ w1.heap.size := by have := hb1.size; simp at this; omega
  have hw1 : Bw w w1 := hs1
  have PB2 := Lib.hid (box_last hb1)
  rcases hq0 with hq0 | ⟨hq0, hp0⟩
  · go_wp2
    go_ret
    exact ⟨rfl, hw1⟩
  · have hm0 : q0 ≤ 1048576 := by omega
    have HP0 := Lib.hid hp0
    clear hp0
    go_wp2_with fail
    refine (szJobE _ _ _ _ _ n1 (by omega) (by omega)).mono ?_
    rintro e w2 ⟨q1, rfl, hb2, hq1⟩
    have hs2 : Bw w1 w2 := hb2
    have hz2 := hb2.size
    have hw2 : Bw w w2 := (bw_trans hw1 hs2)
    rcases hq1 with hq1 | ⟨hq1, hp1⟩
    · go_wp2
      go_ret
      exact ⟨rfl, hw2⟩
    · have hm1 : q1 ≤ 1048576 := by omega
      have HP1 := Lib.hid hp1
      clear hp1
      obtain ⟨b10, b11, b12, b13⟩ := box4 (blk_bw hs2 PB2.out)
      go_wp2_with fail
      refine (szRun_any _ _ _ _ _ _ _ _ _ _ _ _ n21 n22 n23 (by omega) (by omega)).mono ?_
      rintro e w3 ⟨q2, rfl, hb3, hq2⟩
      clear b10 b11 b12 b13
      have hs3 : Bw w2 w3 := hb3
      have hz3 := hb3.size
      have hw3 : Bw w w3 := (bw_trans hw2 hs3)
      rcases hq2 with hq2 | ⟨hq2, hp2⟩
      · go_wp2
        go_ret
        exact ⟨rfl, hw3⟩
      · have hm2 : q2 ≤ 1048576 := by omega
        have HP2 := Lib.hid hp2
        clear hp2
        have l0 : x0.length ≤ 1048576 := by have := HP0.out; omega
        have l1 : x1.length ≤ 1048576 := by have := HP1.out; omega
        have l21 : x2.ended.length ≤ 1048576 := by have := HP2.out; omega
        have l22 : x2.trace.length ≤ 1048576 := by have := HP2.out; omega
        have l23 : x2.switches.length ≤ 1048576 := by have := HP2.out; omega
        have RV2 : Hid (RR w (rnVal a21 x2.ended.length c21 a22 x2.trace.length c22 a23 x2.switches.length c23 x2.high) x2) := rr_raw G2.out l21 l22 l23
        obtain ⟨p20, p21, p22, p23⟩ := box4 (blk_bw hs3 (blk_bw hs2 PB2.out))
        have HS := Lib.hid (And.intro p20 (And.intro p21 (And.intro p22 p23)))
        have tok0 : True := trivial
        have tok1 : True := trivial
        have tok2 : True := trivial
        go_wp2_with fail
        go_region_held3 (fun W => W.cell? ⟨w.heap.size, 0, none⟩ = some (.slice a21 x2.ended.length c21) ∧ W.cell? ⟨w.heap.size, 1, none⟩ = some (.slice a22 x2.trace.length c22) ∧ W.cell? ⟨w.heap.size, 2, none⟩ = some (.slice a23 x2.switches.length c23) ∧ W.cell? ⟨w.heap.size, 3, none⟩ = some (.bool x2.high))
          (first | exact keep4 (bw_drew _) HS.out | exact keep4 (bw_trans (bw_drew _) hb4) HS.out | exact keep4 (bw_trans (bw_trans (bw_drew _) hb4) hb5) HS.out | exact keep4 (bw_trans (bw_trans (bw_trans (bw_drew _) hb4) hb5) hb6) HS.out | exact keep4 (bw_trans (bw_trans (bw_trans (bw_trans (bw_drew _) hb4) hb5) hb6) hb7) HS.out)
          (first | (go_at_call 37; have _t := tok0; refine (toTasks G0.out l0 (bw_trans hw3 (bw_drew _))).mono ?_; rintro e w4 ⟨u4, rfl, hu4, hb4⟩; clear tok0) | (go_at_call 32; have _t := tok1; refine (toJobs G1.out l1 (bw_trans hw3 (bw_trans (bw_drew _) hb4))).mono ?_; rintro e w5 ⟨u5, rfl, hu5, hb5⟩; clear tok1) | (go_at_call 17; have _t := tok2; refine (toRun_any (RV2.out.bw (bw_trans hw3 (bw_trans (bw_trans (bw_drew _) hb4) hb5)))).mono ?_; rintro e w6 ⟨u6, rfl, hu6, hb6⟩; clear tok2) | (go_at_call 55; refine (misses_spec (hu4.st.bw (bw_trans hb5 hb6)) (hu5.st.bw hb6) (hu6.rr.bw (Bw.refl _))).mono ?_; rintro e w7 ⟨aW, cW, rfl, ho, hb7⟩))
        clear p20 p21 p22 p23 HS hu4 hu5 hu6
        have hs4 : Bw w3 w4 := bw_trans (bw_drew _) hb4
        have hz4 := hs4.size
        have hw4 : Bw w w4 := (bw_trans hw3 hs4)
        have hs5 : Bw w4 w5 := hb5
        have hz5 := hb5.size
        have hw5 : Bw w w5 := (bw_trans hw4 hs5)
        have hs6 : Bw w5 w6 := hb6
        have hz6 := hb6.size
        have hw6 : Bw w w6 := (bw_trans hw5 hs6)
        have hs7 : Bw w6 w7 := hb7
        have hz7 := hb7.size
        have hw7 : Bw w w7 := (bw_trans hw6 hs7)
        have OW := Lib.hid ho
        clear ho
        go_wp2_with fail
        refine (toTasks G0.out l0 hw7).mono ?_
        rintro e w8 ⟨u, rfl, hu8, hb8⟩
        have hs8 : Bw w7 w8 := hb8
        have hz8 := hb8.size
        have hw8 : Bw w w8 := (bw_trans hw7 hs8)
        have X0 := Lib.hid hu8
        clear hu8
        have eu0 := X0.out.form
        subst eu0
        have hx0 := X0.out.lt
        go_wp2_with fail
        refine (toJobs G1.out l1 hw8).mono ?_
        rintro e w9 ⟨u, rfl, hu9, hb9⟩
        have hs9 : Bw w8 w9 := hb9
        have hz9 := hb9.size
        have hw9 : Bw w w9 := (bw_trans hw8 hs9)
        have X1 := Lib.hid hu9
        clear hu9
        have eu1 := X1.out.form
        subst eu1
        have hx1 := X1.out.lt
        obtain ⟨b20, b21, b22, b23⟩ := box4 (blk_bw hs9 (blk_bw hs8 (blk_bw hs7 (blk_bw hs6 (blk_bw hs5 (blk_bw hs4 (blk_bw hs3 (blk_bw hs2 PB2.out))))))))
        go_wp2_with fail
        refine (toRun_any (RV2.out.bw hw9)).mono ?_
        rintro e w10 ⟨u, rfl, hu10, hb10⟩
        clear b20 b21 b22 b23
        have hs10 : Bw w9 w10 := hb10
        have hz10 := hb10.size
        have hw10 : Bw w w10 := (bw_trans hw9 hs10)
        have X2 := Lib.hid hu10
        clear hu10
        obtain ⟨⟨d21, d22, d23, _, _, _, _, _, _, eu2, _⟩, _⟩ := X2.out
        subst eu2
        go_wp2_with fail
        refine (misses_impl ((X0.out.st.bw (bw_trans hs9 hs10)).bw (bw_alloc _ _)) ((X1.out.st.bw hs10).bw (bw_alloc _ _)) ((X2.out.rr.bw (Bw.refl _)).bw (bw_alloc _ _))).mono ?_
        rintro e w11 ⟨aGr, cGr, rfl, ho, hb11⟩
        have hs11 : Bw w10 w11 := (bw_trans (bw_alloc _ _) hb11)
        have hz11 : w10.heap.size + 1 ≤ w11.heap.size := by have := hb11.size; simp at this; omega
        have hw11 : Bw w w11 := (bw_trans hw10 hs11)
        have XB2 := Lib.hid (box_last hb11)
        simp only [World.size_alloc] at ho
        have OGr := Lib.hid ho
        clear ho
        have LEN := Lib.hid (show (misses x0 x1 x2.ended x2.trace.length).length ≤ 1048576 from Nat.le_trans (misses_len _ _ _ _) l1)
        go_wp2_with fail
        refine (eqIntS_any _ _ _ _ _ _ _ OGr.out.ri (OW.out.bw (bw_trans (bw_trans (bw_trans hs8 hs9) hs10) hs11)).ri LEN.out LEN.out).mono ?_
        rw [eqI_self]
        rintro e w12 ⟨rfl, hb12⟩
        have hs12 : Bw w11 w12 := hb12
        have hz12 := hb12.size
        have hw12 : Bw w w12 := (bw_trans hw11 hs12)
        go_wp2_with fail
        refine (toTasks G0.out l0 hw12).mono ?_
        rintro e w13 ⟨u, rfl, hu13, hb13⟩
        have hs13 : Bw w12 w13 := hb13
        have hz13 := hb13.size
        have hw13 : Bw w w13 := (bw_trans hw12 hs13)
        obtain ⟨⟨ae, ce, eu, he, _⟩, _⟩ := hu13.st
        clear hu13
        subst eu
        obtain ⟨⟨af, cf, ef, hf, _⟩, _⟩ := (X0.out.st.bw (bw_trans (bw_trans (bw_trans (bw_trans hs9 hs10) hs11) hs12) hs13))
        simp only [Value.slice.injEq] at ef
        obtain ⟨rfl, _, rfl⟩ := ef
        have HE := Lib.hid he
        have HF := Lib.hid hf
        clear he hf
        go_wp2_with fail
        refine (eqTaskS_any _ _ _ _ _ _ _ HF.out HE.out l0 l0).mono ?_
        rw [decide_eq_true rfl]
        rintro e w14 ⟨rfl, hb14⟩
        have hs14 : Bw w13 w14 := hb14
        have hz14 := hb14.size
        have hw14 : Bw w w14 := (bw_trans hw13 hs14)
        clear HE HF
        go_wp2_with fail
        refine (toJobs G1.out l1 hw14).mono ?_
        rintro e w15 ⟨u, rfl, hu15, hb15⟩
        have hs15 : Bw w14 w15 := hb15
        have hz15 := hb15.size
        have hw15 : Bw w w15 := (bw_trans hw14 hs15)
        obtain ⟨⟨ae, ce, eu, he, _⟩, _⟩ := hu15.st
        clear hu15
        subst eu
        obtain ⟨⟨af, cf, ef, hf, _⟩, _⟩ := (X1.out.st.bw (bw_trans (bw_trans (bw_trans (bw_trans (bw_trans hs10 hs11) hs12) hs13) hs14) hs15))
        simp only [Value.slice.injEq] at ef
        obtain ⟨rfl, _, rfl⟩ := ef
        have HE := Lib.hid he
        have HF := Lib.hid hf
        clear he hf
        go_wp2_with fail
        refine (eqJobS_any _ _ _ _ _ _ _ HF.out HE.out l1 l1).mono ?_
        rw [decide_eq_true rfl]
        rintro e w16 ⟨rfl, hb16⟩
        have hs16 : Bw w15 w16 := hb16
        have hz16 := hb16.size
        have hw16 : Bw w w16 := (bw_trans hw15 hs16)
        clear HE HF
        obtain ⟨p0, p1, p2, p3⟩ := box4 (blk_bw hs16 (blk_bw hs15 (blk_bw hs14 (blk_bw hs13 (blk_bw hs12 (blk_bw hs11 (blk_bw hs10 (blk_bw hs9 (blk_bw hs8 (blk_bw hs7 (blk_bw hs6 (blk_bw hs5 (blk_bw hs4 (blk_bw hs3 (blk_bw hs2 PB2.out)))))))))))))))
        obtain ⟨r0, r1, r2, r3⟩ := box4 (blk_bw hs16 (blk_bw hs15 (blk_bw hs14 (blk_bw hs13 (blk_bw hs12 XB2.out)))))
        have HS := Lib.hid (And.intro p0 (And.intro p1 (And.intro p2 (And.intro p3 (And.intro r0 (And.intro r1 (And.intro r2 r3)))))))
        have HX5 := Lib.hid (X2.out.rr.bw (bw_trans (bw_trans (bw_trans (bw_trans (bw_trans hs11 hs12) hs13) hs14) hs15) hs16))
        go_wp2_with fail
        go_region_held3 (fun W => W.cell? ⟨w.heap.size, 0, none⟩ = some (.slice a21 x2.ended.length c21) ∧ W.cell? ⟨w.heap.size, 1, none⟩ = some (.slice a22 x2.trace.length c22) ∧ W.cell? ⟨w.heap.size, 2, none⟩ = some (.slice a23 x2.switches.length c23) ∧ W.cell? ⟨w.heap.size, 3, none⟩ = some (.bool x2.high) ∧ W.cell? ⟨w10.heap.size, 0, none⟩ = some (.slice (some ⟨d21, 0, none⟩) x2.ended.length x2.ended.length) ∧ W.cell? ⟨w10.heap.size, 1, none⟩ = some (.slice (some ⟨d22, 0, none⟩) x2.trace.length x2.trace.length) ∧ W.cell? ⟨w10.heap.size, 2, none⟩ = some (.slice (some ⟨d23, 0, none⟩) x2.switches.length x2.switches.length) ∧ W.cell? ⟨w10.heap.size, 3, none⟩ = some (.bool x2.high))
          (first | exact keep8 (bw_drew _) HS.out | exact keep8 (bw_trans (bw_drew _) hbA) HS.out | exact keep8 (bw_trans (bw_drew _) (bw_trans hbA hbB)) HS.out)
          (first | (go_at_call 17; refine (toRun_any (RV2.out.bw (bw_trans hw16 (bw_drew _)))).mono ?_; rintro e wA ⟨u2, rfl, hu2, hbA⟩) | (go_at_call 19; refine (eqRun_any (HX5.out.bw (bw_trans (bw_drew _) hbA)) hu2.rr).mono ?_; rw [eqR_refl]; rintro e w17 ⟨rfl, hbB⟩))
        clear p0 p1 p2 p3 r0 r1 r2 r3 HS HX5 hu2
        have hs17 : Bw w16 w17 := bw_trans (bw_drew _) (bw_trans hbA hbB)
        have hz17 := hs17.size
        have hw17 : Bw w w17 := (bw_trans hw16 hs17)
        go_wp2_with fail
        refine (markTasks (NT.bw' hs17 (NT.bw' hs16 (NT.bw' hs15 (NT.bw' hs14 (NT.bw' hs13 (NT.bw' hs12 (NT.bw' hs11 (NT.bw' hs10 (NT.bw' hs9 X0.out))))))))) _ (by omega) (by omega)).mono ?_
        rintro e w18 ⟨rfl, t18⟩
        have hz18 := t18.size
        have hw18 : Bw w w18 := (bw_hit hw17 t18 (by omega))
        go_wp2_with fail
        refine (markJobs (NJ.hit' t18 (NJ.bw' hs17 (NJ.bw' hs16 (NJ.bw' hs15 (NJ.bw' hs14 (NJ.bw' hs13 (NJ.bw' hs12 (NJ.bw' hs11 (NJ.bw' hs10 X1.out)))))))) (by omega)) _ (by omega) (by omega)).mono ?_
        rintro e w19 ⟨rfl, t19⟩
        have hz19 := t19.size
        have hw19 : Bw w w19 := (bw_hit hw18 t19 (by omega))
        obtain ⟨r0, r1, r2, r3⟩ := box4 (blk_hit t19 (blk_hit t18 (blk_bw hs17 (blk_bw hs16 (blk_bw hs15 (blk_bw hs14 (blk_bw hs13 (blk_bw hs12 XB2.out)))))) (by omega)) (by omega))
        go_wp2_with fail
        refine (markRun_any X2.out (fun g x hg hB => (blk_hit t19 (blk_hit t18 (blk_bw hs17 (blk_bw hs16 (blk_bw hs15 (blk_bw hs14 (blk_bw hs13 (blk_bw hs12 (blk_bw hs11 hg))))))) (by omega)) (by omega))) _ (by omega) (by omega)).mono ?_
        rintro e w20 ⟨q2m, rfl, hq2a, hq2b, t20⟩
        clear r0 r1 r2 r3
        have hz20 := t20.size
        have hw20 : Bw w w20 := (bw_hit hw19 t20 (by omega))
        have OG2 := Lib.hid (show Own w20 _ 3 aGr _ from (Own.hit' t20 (Own.hit' t19 (Own.hit' t18 (Own.bw' hs17 (Own.bw' hs16 (Own.bw' hs15 (Own.bw' hs14 (Own.bw' hs13 (Own.bw' hs12 OGr.out)))))) (by omega)) (by omega)) (by omega)))
        go_wp2_with fail
        refine (eqIntS_any _ _ _ _ _ _ _ OG2.out.ri (OW.out.bw (bw_hit (bw_hit (bw_hit (bw_trans (bw_trans (bw_trans (bw_trans (bw_trans (bw_trans (bw_trans (bw_trans (bw_trans hs8 hs9) hs10) hs11) hs12) hs13) hs14) hs15) hs16) hs17) t18 (by omega)) t19 (by omega)) t20 (by omega))).ri LEN.out LEN.out).mono ?_
        rw [eqI_self]
        rintro e w21 ⟨rfl, hb21⟩
        have hs21 : Bw w20 w21 := hb21
        have hz21 := hb21.size
        have hw21 : Bw w w21 := (bw_trans hw20 hs21)
        go_wp2_with fail
        refine (markInts (OG2.out.bw hs21) LEN.out _ (by omega) (by omega)).mono ?_
        rintro e w22 ⟨rfl, t22, hm22⟩
        have hz22 := t22.size
        have hw22 : Bw w w22 := (bw_hit hw21 t22 (by omega))
        have HM := Lib.hid hm22
        clear hm22
        go_wp2_with fail
        refine (heldIntS_any aGr _ cGr 1 _ LEN.out (by omega) (by omega) (HM.out.bw (Bw.refl _)).ri).mono ?_
        rintro e w23 ⟨rfl, hb23⟩
        have hs23 : Bw w22 w23 := hb23
        have hz23 := hb23.size
        have hw23 : Bw w w23 := (bw_trans hw22 hs23)
        obtain ⟨p20, p21, p22, p23⟩ := box4 (blk_bw hs23 (blk_hit t22 (blk_bw hs21 (blk_hit t20 (blk_hit t19 (blk_hit t18 (blk_bw hs17 (blk_bw hs16 (blk_bw hs15 (blk_bw hs14 (blk_bw hs13 (blk_bw hs12 (blk_bw hs11 (blk_bw hs10 (blk_bw hs9 (blk_bw hs8 (blk_bw hs7 (blk_bw hs6 (blk_bw hs5 (blk_bw hs4 (blk_bw hs3 (blk_bw hs2 PB2.out)))))))))))))))) (by omega)) (by omega)) (by omega))) (by omega)))
        have HS := Lib.hid (And.intro p20 (And.intro p21 (And.intro p22 p23)))
        have tok0 : True := trivial
        have tok1 : True := trivial
        have tok2 : True := trivial
        go_wp2_with fail
        go_region_held3 (fun W => W.cell? ⟨w.heap.size, 0, none⟩ = some (.slice a21 x2.ended.length c21) ∧ W.cell? ⟨w.heap.size, 1, none⟩ = some (.slice a22 x2.trace.length c22) ∧ W.cell? ⟨w.heap.size, 2, none⟩ = some (.slice a23 x2.switches.length c23) ∧ W.cell? ⟨w.heap.size, 3, none⟩ = some (.bool x2.high))
          (first | exact keep4 (bw_drew _) HS.out | exact keep4 (bw_trans (bw_drew _) hb24) HS.out | exact keep4 (bw_trans (bw_trans (bw_drew _) hb24) hb25) HS.out | exact keep4 (bw_trans (bw_trans (bw_trans (bw_drew _) hb24) hb25) hb26) HS.out | exact keep4 (bw_trans (bw_trans (bw_trans (bw_trans (bw_drew _) hb24) hb25) hb26) hb27) HS.out)
          (first | (go_at_call 37; have _t := tok0; refine (toTasks G0.out l0 (bw_trans hw23 (bw_drew _))).mono ?_; rintro e w24 ⟨u24, rfl, hu24, hb24⟩; clear tok0) | (go_at_call 32; have _t := tok1; refine (toJobs G1.out l1 (bw_trans hw23 (bw_trans (bw_drew _) hb24))).mono ?_; rintro e w25 ⟨u25, rfl, hu25, hb25⟩; clear tok1) | (go_at_call 17; have _t := tok2; refine (toRun_any (RV2.out.bw (bw_trans hw23 (bw_trans (bw_trans (bw_drew _) hb24) hb25)))).mono ?_; rintro e w26 ⟨u26, rfl, hu26, hb26⟩; clear tok2) | (go_at_call 56; refine (misses_impl (hu24.st.bw (bw_trans hb25 hb26)) (hu25.st.bw hb26) (hu26.rr.bw (Bw.refl _))).mono ?_; rintro e w27 ⟨aHr, cHr, rfl, ho, hb27⟩))
        clear p20 p21 p22 p23 HS hu24 hu25 hu26
        have hs24 : Bw w23 w24 := bw_trans (bw_drew _) hb24
        have hz24 := hs24.size
        have hw24 : Bw w w24 := (bw_trans hw23 hs24)
        have hs25 : Bw w24 w25 := hb25
        have hz25 := hb25.size
        have hw25 : Bw w w25 := (bw_trans hw24 hs25)
        have hs26 : Bw w25 w26 := hb26
        have hz26 := hb26.size
        have hw26 : Bw w w26 := (bw_trans hw25 hs26)
        have hs27 : Bw w26 w27 := hb27
        have hz27 := hb27.size
        have hw27 : Bw w w27 := (bw_trans hw26 hs27)
        have OHr := Lib.hid ho
        clear ho
        go_wp2_with fail
        refine (eqIntS_any _ _ _ _ _ _ _ OHr.out.ri (OW.out.bw (bw_trans (bw_trans (bw_trans (bw_trans (bw_trans (bw_hit (bw_trans (bw_hit (bw_hit (bw_hit (bw_trans (bw_trans (bw_trans (bw_trans (bw_trans (bw_trans (bw_trans (bw_trans (bw_trans hs8 hs9) hs10) hs11) hs12) hs13) hs14) hs15) hs16) hs17) t18 (by omega)) t19 (by omega)) t20 (by omega)) hs21) t22 (by omega)) hs23) hs24) hs25) hs26) hs27)).ri LEN.out LEN.out).mono ?_
        rw [eqI_self]
        rintro e w28 ⟨rfl, hb28⟩
        have hs28 : Bw w27 w28 := hb28
        have hz28 := hb28.size
        have hw28 : Bw w w28 := (bw_trans hw27 hs28)
        go_wp2_with fail
        refine (heldIntS_any aGr _ cGr 1 _ LEN.out (by omega) (by omega) (HM.out.bw (bw_trans (bw_trans (bw_trans (bw_trans (bw_trans hs23 hs24) hs25) hs26) hs27) hs28)).ri).mono ?_
        rintro e w29 ⟨rfl, hb29⟩
        have hs29 : Bw w28 w29 := hb29
        have hz29 := hb29.size
        have hw29 : Bw w w29 := (bw_trans hw28 hs29)
        go_wp2
        go_ret
        exact ⟨rfl, hw29⟩
end Go.Proofs.Ytfjcpnkiddpdcaa
