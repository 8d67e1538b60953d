/-
  The walk of the law FnExactPutJob: it returns true and writes nothing that was there. No condition.
-/
import Derived.Test.YtfjcpnkiddpdcaaPutS
import Derived.Deep.RegionHeld3
namespace Go.Proofs.Ytfjcpnkiddpdcaa
open Go.RowKit
set_option maxRecDepth 100000 in
set_option maxHeartbeats 8000000 in
theorem law_FnExactPutJob (v0 : Value) (x0 : List Tk) (v1 : Value) (x1 : List Jb) (x2a x2b x2c : Int) (w : World) (g0 : RawT w v0 x0) (g1 : RawJ w v1 x1) :
    Calls Try.prog 13 #[v0, v1, .agg #[.int .i64 x2a, .int .i64 x2b, .int .i64 x2c]] w fun e w' => e = .returned (.bool true) ∧ Bw w w' := by
  have G0 := Lib.hid g0
  obtain ⟨⟨a0, c0, rfl, _⟩, n0, _⟩ := g0
  have G1 := Lib.hid g1
  obtain ⟨⟨a1, c1, rfl, _⟩, n1, _⟩ := g1
  go_enter Try.func13, Try.ntmps13
  go_wp2_with fail
  refine (szTaskE _ _ _ _ _ n0 (by omega) (by omega)).mono ?_
  rintro e w1 ⟨q0, rfl, hb1, hq0⟩
  have hs1 : Bw w w1 := (bw_trans (bw_alloc _ _) hb1)
  have hz1 : w.heap.size + 1 ≤ w1.heap.size := by have := hb1.size; simp at this; omega
  have hw1 : Bw w w1 := hs1
  have PB2 := Lib.hid (box_last hb1)
  rcases hq0 with hq0 | ⟨hq0, hp0⟩
  · go_wp2
    go_ret
    exact ⟨rfl, hw1⟩
  · have hm0 : q0 ≤ 1048576 := by omega
    have HP0 := Lib.hid hp0
    clear hp0
    go_wp2_with fail
    refine (szJobE _ _ _ _ _ n1 (by omega) (by omega)).mono ?_
    rintro e w2 ⟨q1, rfl, hb2, hq1⟩
    have hs2 : Bw w1 w2 := hb2
    have hz2 := hb2.size
    have hw2 : Bw w w2 := (bw_trans hw1 hs2)
    rcases hq1 with hq1 | ⟨hq1, hp1⟩
    · go_wp2
      go_ret
      exact ⟨rfl, hw2⟩
    · have hm1 : q1 ≤ 1048576 := by omega
      have HP1 := Lib.hid hp1
      clear hp1
      have l0 : x0.length ≤ 1048576 := by have := HP0.out; omega
      have l1 : x1.length ≤ 1048576 := by have := HP1.out; omega
      obtain ⟨p20, p21, p22⟩ := box3 (blk_bw hs2 PB2.out)
      have HS := Lib.hid (And.intro p20 (And.intro p21 p22))
      have tok0 : True := trivial
      have tok1 : True := trivial
      go_wp2_with fail
      go_region_held3 (fun W => W.cell? ⟨w.heap.size, 0, none⟩ = some (.int .i64 x2a) ∧ W.cell? ⟨w.heap.size, 1, none⟩ = some (.int .i64 x2b) ∧ W.cell? ⟨w.heap.size, 2, none⟩ = some (.int .i64 x2c))
        (first | exact keep3 (bw_drew _) HS.out | exact keep3 (bw_trans (bw_drew _) hb3) HS.out | exact keep3 (bw_trans (bw_trans (bw_drew _) hb3) hb4) HS.out | exact keep3 (bw_trans (bw_trans (bw_trans (bw_drew _) hb3) hb4) hb5) HS.out | exact keep3 (bw_trans (bw_trans (bw_trans (bw_trans (bw_drew _) hb3) hb4) hb5) hb6) HS.out)
        (first | (go_at_call 37; have _t := tok0; refine (toTasks G0.out l0 (bw_trans hw2 (bw_drew _))).mono ?_; rintro e w3 ⟨u3, rfl, hu3, hb3⟩; clear tok0) | (go_at_call 32; have _t := tok1; refine (toJobs G1.out l1 (bw_trans hw2 (bw_trans (bw_drew _) hb3))).mono ?_; rintro e w4 ⟨u4, rfl, hu4, hb4⟩; clear tok1) | (go_at_call 53; refine (toJob_any _ _ _ _).mono ?_; rintro e w5 ⟨rfl, hb5⟩) | (go_at_call 52; refine (put_spec (hu3.st.bw (bw_trans hb4 hb5)) (hu4.st.bw hb5) x2a x2b x2c).mono ?_; rintro e w6 ⟨aW, cW, rfl, ho, hb6⟩))
      clear p20 p21 p22 HS hu3 hu4
      have hs3 : Bw w2 w3 := bw_trans (bw_drew _) hb3
      have hz3 := hs3.size
      have hw3 : Bw w w3 := (bw_trans hw2 hs3)
      have hs4 : Bw w3 w4 := hb4
      have hz4 := hb4.size
      have hw4 : Bw w w4 := (bw_trans hw3 hs4)
      have hs5 : Bw w4 w5 := hb5
      have hz5 := hb5.size
      have hw5 : Bw w w5 := (bw_trans hw4 hs5)
      have hs6 : Bw w5 w6 := hb6
      have hz6 := hb6.size
      have hw6 : Bw w w6 := (bw_trans hw5 hs6)
      have OW := Lib.hid ho
      clear ho
      go_wp2_with fail
      refine (toTasks G0.out l0 hw6).mono ?_
      rintro e w7 ⟨u, rfl, hu7, hb7⟩
      have hs7 : Bw w6 w7 := hb7
      have hz7 := hb7.size
      have hw7 : Bw w w7 := (bw_trans hw6 hs7)
      have X0 := Lib.hid hu7
      clear hu7
      have eu0 := X0.out.form
      subst eu0
      have hx0 := X0.out.lt
      go_wp2_with fail
      refine (toJobs G1.out l1 hw7).mono ?_
      rintro e w8 ⟨u, rfl, hu8, hb8⟩
      have hs8 : Bw w7 w8 := hb8
      have hz8 := hb8.size
      have hw8 : Bw w w8 := (bw_trans hw7 hs8)
      have X1 := Lib.hid hu8
      clear hu8
      have eu1 := X1.out.form
      subst eu1
      have hx1 := X1.out.lt
      obtain ⟨b10, b11, b12⟩ := box3 (blk_bw hs8 (blk_bw hs7 (blk_bw hs6 (blk_bw hs5 (blk_bw hs4 (blk_bw hs3 (blk_bw hs2 PB2.out)))))))
      go_wp2_with fail
      refine (toJob_any _ _ _ _).mono ?_
      rintro e w9 ⟨rfl, hb9⟩
      clear b10 b11 b12
      have hs9 : Bw w8 w9 := hb9
      have hz9 := hb9.size
      have hw9 : Bw w w9 := (bw_trans hw8 hs9)
      go_wp2_with fail
      refine (put_impl (X0.out.st.bw (bw_trans hs8 hs9)) (X1.out.st.bw hs9) x2a x2b x2c).mono ?_
      rintro e w10 ⟨aGr, cGr, rfl, ho, hb10⟩
      have hs10 : Bw w9 w10 := hb10
      have hz10 := hb10.size
      have hw10 : Bw w w10 := (bw_trans hw9 hs10)
      have OGr := Lib.hid ho
      clear ho
      have LEN := Lib.hid (show ((putJ x0 x1 ⟨x2a, x2b, x2c⟩).1).length ≤ 1048576 from Nat.le_trans (putJ_len _ _ _) (by omega))
      go_wp2_with fail
      refine (eqJobS_any _ _ _ _ _ _ _ OGr.out.rj (OW.out.bw (bw_trans (bw_trans (bw_trans hs7 hs8) hs9) hs10)).rj LEN.out LEN.out).mono ?_
      rw [decide_eq_true rfl]
      rintro e w11 ⟨rfl, hb11⟩
      have hs11 : Bw w10 w11 := hb11
      have hz11 := hb11.size
      have hw11 : Bw w w11 := (bw_trans hw10 hs11)
      go_wp2_with fail
      refine (toTasks G0.out l0 hw11).mono ?_
      rintro e w12 ⟨u, rfl, hu12, hb12⟩
      have hs12 : Bw w11 w12 := hb12
      have hz12 := hb12.size
      have hw12 : Bw w w12 := (bw_trans hw11 hs12)
      obtain ⟨⟨ae, ce, eu, he, _⟩, _⟩ := hu12.st
      clear hu12
      subst eu
      obtain ⟨⟨af, cf, ef, hf, _⟩, _⟩ := (X0.out.st.bw (bw_trans (bw_trans (bw_trans (bw_trans hs8 hs9) hs10) hs11) hs12))
      simp only [Value.slice.injEq] at ef
      obtain ⟨rfl, _, rfl⟩ := ef
      have HE := Lib.hid he
      have HF := Lib.hid hf
      clear he hf
      go_wp2_with fail
      refine (eqTaskS_any _ _ _ _ _ _ _ HF.out HE.out l0 l0).mono ?_
      rw [decide_eq_true rfl]
      rintro e w13 ⟨rfl, hb13⟩
      have hs13 : Bw w12 w13 := hb13
      have hz13 := hb13.size
      have hw13 : Bw w w13 := (bw_trans hw12 hs13)
      clear HE HF
      go_wp2_with fail
      refine (toJobs G1.out l1 hw13).mono ?_
      rintro e w14 ⟨u, rfl, hu14, hb14⟩
      have hs14 : Bw w13 w14 := hb14
      have hz14 := hb14.size
      have hw14 : Bw w w14 := (bw_trans hw13 hs14)
      obtain ⟨⟨ae, ce, eu, he, _⟩, _⟩ := hu14.st
      clear hu14
      subst eu
      obtain ⟨⟨af, cf, ef, hf, _⟩, _⟩ := (X1.out.st.bw (bw_trans (bw_trans (bw_trans (bw_trans (bw_trans hs9 hs10) hs11) hs12) hs13) hs14))
      simp only [Value.slice.injEq] at ef
      obtain ⟨rfl, _, rfl⟩ := ef
      have HE := Lib.hid he
      have HF := Lib.hid hf
      clear he hf
      go_wp2_with fail
      refine (eqJobS_any _ _ _ _ _ _ _ HF.out HE.out l1 l1).mono ?_
      rw [decide_eq_true rfl]
      rintro e w15 ⟨rfl, hb15⟩
      have hs15 : Bw w14 w15 := hb15
      have hz15 := hb15.size
      have hw15 : Bw w w15 := (bw_trans hw14 hs15)
      clear HE HF
      go_wp2_with fail
      refine (markTasks (NT.bw' hs15 (NT.bw' hs14 (NT.bw' hs13 (NT.bw' hs12 (NT.bw' hs11 (NT.bw' hs10 (NT.bw' hs9 (NT.bw' hs8 X0.out)))))))) _ (by omega) (by omega)).mono ?_
      rintro e w16 ⟨rfl, t16⟩
      have hz16 := t16.size
      have hw16 : Bw w w16 := (bw_hit hw15 t16 (by omega))
      go_wp2_with fail
      refine (markJobs (NJ.hit' t16 (NJ.bw' hs15 (NJ.bw' hs14 (NJ.bw' hs13 (NJ.bw' hs12 (NJ.bw' hs11 (NJ.bw' hs10 (NJ.bw' hs9 X1.out))))))) (by omega)) _ (by omega) (by omega)).mono ?_
      rintro e w17 ⟨rfl, t17⟩
      have hz17 := t17.size
      have hw17 : Bw w w17 := (bw_hit hw16 t17 (by omega))
      have OG2 := Lib.hid (show Own w17 _ 63 aGr _ from (Own.hit' t17 (Own.hit' t16 (Own.bw' hs15 (Own.bw' hs14 (Own.bw' hs13 (Own.bw' hs12 (Own.bw' hs11 OGr.out))))) (by omega)) (by omega)))
      go_wp2_with fail
      refine (eqJobS_any _ _ _ _ _ _ _ OG2.out.rj (OW.out.bw (bw_hit (bw_hit (bw_trans (bw_trans (bw_trans (bw_trans (bw_trans (bw_trans (bw_trans (bw_trans hs7 hs8) hs9) hs10) hs11) hs12) hs13) hs14) hs15) t16 (by omega)) t17 (by omega))).rj LEN.out LEN.out).mono ?_
      rw [decide_eq_true rfl]
      rintro e w18 ⟨rfl, hb18⟩
      have hs18 : Bw w17 w18 := hb18
      have hz18 := hb18.size
      have hw18 : Bw w w18 := (bw_trans hw17 hs18)
      go_wp2_with fail
      refine (markJbs (OG2.out.bw hs18) LEN.out _ (by omega) (by omega)).mono ?_
      rintro e w19 ⟨rfl, t19, hm19⟩
      have hz19 := t19.size
      have hw19 : Bw w w19 := (bw_hit hw18 t19 (by omega))
      have HM := Lib.hid hm19
      clear hm19
      go_wp2_with fail
      refine (heldJobS_any aGr _ cGr 1 _ LEN.out (by omega) (by omega) (HM.out.bw (Bw.refl _)).rj).mono ?_
      rintro e w20 ⟨rfl, hb20⟩
      have hs20 : Bw w19 w20 := hb20
      have hz20 := hb20.size
      have hw20 : Bw w w20 := (bw_trans hw19 hs20)
      obtain ⟨p20, p21, p22⟩ := box3 (blk_bw hs20 (blk_hit t19 (blk_bw hs18 (blk_hit t17 (blk_hit t16 (blk_bw hs15 (blk_bw hs14 (blk_bw hs13 (blk_bw hs12 (blk_bw hs11 (blk_bw hs10 (blk_bw hs9 (blk_bw hs8 (blk_bw hs7 (blk_bw hs6 (blk_bw hs5 (blk_bw hs4 (blk_bw hs3 (blk_bw hs2 PB2.out)))))))))))))) (by omega)) (by omega))) (by omega)))
      have HS := Lib.hid (And.intro p20 (And.intro p21 p22))
      have tok0 : True := trivial
      have tok1 : True := trivial
      go_wp2_with fail
      go_region_held3 (fun W => W.cell? ⟨w.heap.size, 0, none⟩ = some (.int .i64 x2a) ∧ W.cell? ⟨w.heap.size, 1, none⟩ = some (.int .i64 x2b) ∧ W.cell? ⟨w.heap.size, 2, none⟩ = some (.int .i64 x2c))
        (first | exact keep3 (bw_drew _) HS.out | exact keep3 (bw_trans (bw_drew _) hb21) HS.out | exact keep3 (bw_trans (bw_trans (bw_drew _) hb21) hb22) HS.out | exact keep3 (bw_trans (bw_trans (bw_trans (bw_drew _) hb21) hb22) hb23) HS.out | exact keep3 (bw_trans (bw_trans (bw_trans (bw_trans (bw_drew _) hb21) hb22) hb23) hb24) HS.out)
        (first | (go_at_call 37; have _t := tok0; refine (toTasks G0.out l0 (bw_trans hw20 (bw_drew _))).mono ?_; rintro e w21 ⟨u21, rfl, hu21, hb21⟩; clear tok0) | (go_at_call 32; have _t := tok1; refine (toJobs G1.out l1 (bw_trans hw20 (bw_trans (bw_drew _) hb21))).mono ?_; rintro e w22 ⟨u22, rfl, hu22, hb22⟩; clear tok1) | (go_at_call 53; refine (toJob_any _ _ _ _).mono ?_; rintro e w23 ⟨rfl, hb23⟩) | (go_at_call 54; refine (put_impl (hu21.st.bw (bw_trans hb22 hb23)) (hu22.st.bw hb23) x2a x2b x2c).mono ?_; rintro e w24 ⟨aHr, cHr, rfl, ho, hb24⟩))
      clear p20 p21 p22 HS hu21 hu22
      have hs21 : Bw w20 w21 := bw_trans (bw_drew _) hb21
      have hz21 := hs21.size
      have hw21 : Bw w w21 := (bw_trans hw20 hs21)
      have hs22 : Bw w21 w22 := hb22
      have hz22 := hb22.size
      have hw22 : Bw w w22 := (bw_trans hw21 hs22)
      have hs23 : Bw w22 w23 := hb23
      have hz23 := hb23.size
      have hw23 : Bw w w23 := (bw_trans hw22 hs23)
      have hs24 : Bw w23 w24 := hb24
      have hz24 := hb24.size
      have hw24 : Bw w w24 := (bw_trans hw23 hs24)
      have OHr := Lib.hid ho
      clear ho
      go_wp2_with fail
      refine (eqJobS_any _ _ _ _ _ _ _ OHr.out.rj (OW.out.bw (bw_trans (bw_trans (bw_trans (bw_trans (bw_trans (bw_hit (bw_trans (bw_hit (bw_hit (bw_trans (bw_trans (bw_trans (bw_trans (bw_trans (bw_trans (bw_trans (bw_trans hs7 hs8) hs9) hs10) hs11) hs12) hs13) hs14) hs15) t16 (by omega)) t17 (by omega)) hs18) t19 (by omega)) hs20) hs21) hs22) hs23) hs24)).rj LEN.out LEN.out).mono ?_
      rw [decide_eq_true rfl]
      rintro e w25 ⟨rfl, hb25⟩
      have hs25 : Bw w24 w25 := hb25
      have hz25 := hb25.size
      have hw25 : Bw w w25 := (bw_trans hw24 hs25)
      go_wp2_with fail
      refine (heldJobS_any aGr _ cGr 1 _ LEN.out (by omega) (by omega) (HM.out.bw (bw_trans (bw_trans (bw_trans (bw_trans (bw_trans hs20 hs21) hs22) hs23) hs24) hs25)).rj).mono ?_
      rintro e w26 ⟨rfl, hb26⟩
      have hs26 : Bw w25 w26 := hb26
      have hz26 := hb26.size
      have hw26 : Bw w w26 := (bw_trans hw25 hs26)
      go_wp2
      go_ret
      exact ⟨rfl, hw26⟩
end Go.Proofs.Ytfjcpnkiddpdcaa
