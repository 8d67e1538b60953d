/-
  The walk of the law FnExactHighJobs: it returns true and writes nothing that was there. No condition.
-/
import Derived.Test.YtfjcpnkiddpdcaaHigh
import Derived.Deep.RegionHeld3
namespace Go.Proofs.Ytfjcpnkiddpdcaa
open Go.RowKit
set_option maxRecDepth 100000 in
set_option maxHeartbeats 8000000 in
theorem law_FnExactHighJobs (v0 : Value) (x0 : List Tk) (v1 : Value) (x1 : List Jb) (w : World) (g0 : RawT w v0 x0) (g1 : RawJ w v1 x1) :
    Calls Try.prog 12 #[v0, v1] w fun e w' => e = .returned (.bool true) ∧ Bw w w' := by
  have G0 := Lib.hid g0
  obtain ⟨⟨a0, c0, rfl, _⟩, n0, _⟩ := g0
  have G1 := Lib.hid g1
  obtain ⟨⟨a1, c1, rfl, _⟩, n1, _⟩ := g1
  go_enter Try.func12, Try.ntmps12
  go_wp2_with fail
  refine (szTaskE _ _ _ _ _ n0 (by omega) (by omega)).mono ?_
  rintro e w1 ⟨q0, rfl, hb1, hq0⟩
  have hs1 : Bw w w1 := hb1
  have hz1 := hb1.size
  have hw1 : Bw w w1 := hs1
  rcases hq0 with hq0 | ⟨hq0, hp0⟩
  · go_wp2
    go_ret
    exact ⟨rfl, hw1⟩
  · have hm0 : q0 ≤ 1048576 := by omega
    have HP0 := Lib.hid hp0
    clear hp0
    go_wp2_with fail
    refine (szJobE _ _ _ _ _ n1 (by omega) (by omega)).mono ?_
    rintro e w2 ⟨q1, rfl, hb2, hq1⟩
    have hs2 : Bw w1 w2 := hb2
    have hz2 := hb2.size
    have hw2 : Bw w w2 := (bw_trans hw1 hs2)
    rcases hq1 with hq1 | ⟨hq1, hp1⟩
    · go_wp2
      go_ret
      exact ⟨rfl, hw2⟩
    · have hm1 : q1 ≤ 1048576 := by omega
      have HP1 := Lib.hid hp1
      clear hp1
      have l0 : x0.length ≤ 1048576 := by have := HP0.out; omega
      have l1 : x1.length ≤ 1048576 := by have := HP1.out; omega
      go_wp2_with fail
      refine (toTasks G0.out l0 hw2).mono ?_
      rintro e w3 ⟨u, rfl, hu3, hb3⟩
      have hs3 : Bw w2 w3 := hb3
      have hz3 := hb3.size
      have hw3 : Bw w w3 := (bw_trans hw2 hs3)
      have S0 := Lib.hid hu3
      clear hu3
      go_wp2_with fail
      refine (toJobs G1.out l1 hw3).mono ?_
      rintro e w4 ⟨u, rfl, hu4, hb4⟩
      have hs4 : Bw w3 w4 := hb4
      have hz4 := hb4.size
      have hw4 : Bw w w4 := (bw_trans hw3 hs4)
      have S1 := Lib.hid hu4
      clear hu4
      go_wp2_with fail
      refine (highs_spec (S0.out.st.bw hs4) (S1.out.st.bw (Bw.refl _))).mono ?_
      rintro e w5 ⟨aW, cW, rfl, ho, hb5⟩
      have hs5 : Bw w4 w5 := hb5
      have hz5 := hb5.size
      have hw5 : Bw w w5 := (bw_trans hw4 hs5)
      have OW := Lib.hid ho
      clear ho
      go_wp2_with fail
      refine (toTasks G0.out l0 hw5).mono ?_
      rintro e w6 ⟨u, rfl, hu6, hb6⟩
      have hs6 : Bw w5 w6 := hb6
      have hz6 := hb6.size
      have hw6 : Bw w w6 := (bw_trans hw5 hs6)
      have X0 := Lib.hid hu6
      clear hu6
      have eu0 := X0.out.form
      subst eu0
      have hx0 := X0.out.lt
      go_wp2_with fail
      refine (toJobs G1.out l1 hw6).mono ?_
      rintro e w7 ⟨u, rfl, hu7, hb7⟩
      have hs7 : Bw w6 w7 := hb7
      have hz7 := hb7.size
      have hw7 : Bw w w7 := (bw_trans hw6 hs7)
      have X1 := Lib.hid hu7
      clear hu7
      have eu1 := X1.out.form
      subst eu1
      have hx1 := X1.out.lt
      go_wp2_with fail
      refine (highs_impl (X0.out.st.bw hs7) (X1.out.st.bw (Bw.refl _))).mono ?_
      rintro e w8 ⟨aGr, cGr, rfl, ho, hb8⟩
      have hs8 : Bw w7 w8 := hb8
      have hz8 := hb8.size
      have hw8 : Bw w w8 := (bw_trans hw7 hs8)
      have OGr := Lib.hid ho
      clear ho
      have LEN := Lib.hid (show (highs x0 x1).length ≤ 1048576 from Nat.le_trans (highs_len _ _) l1)
      go_wp2_with fail
      refine (eqIntS_any _ _ _ _ _ _ _ OGr.out.ri (OW.out.bw (bw_trans (bw_trans hs6 hs7) hs8)).ri LEN.out LEN.out).mono ?_
      rw [eqI_self]
      rintro e w9 ⟨rfl, hb9⟩
      have hs9 : Bw w8 w9 := hb9
      have hz9 := hb9.size
      have hw9 : Bw w w9 := (bw_trans hw8 hs9)
      go_wp2_with fail
      refine (toTasks G0.out l0 hw9).mono ?_
      rintro e w10 ⟨u, rfl, hu10, hb10⟩
      have hs10 : Bw w9 w10 := hb10
      have hz10 := hb10.size
      have hw10 : Bw w w10 := (bw_trans hw9 hs10)
      obtain ⟨⟨ae, ce, eu, he, _⟩, _⟩ := hu10.st
      clear hu10
      subst eu
      obtain ⟨⟨af, cf, ef, hf, _⟩, _⟩ := (X0.out.st.bw (bw_trans (bw_trans (bw_trans hs7 hs8) hs9) hs10))
      simp only [Value.slice.injEq] at ef
      obtain ⟨rfl, _, rfl⟩ := ef
      have HE := Lib.hid he
      have HF := Lib.hid hf
      clear he hf
      go_wp2_with fail
      refine (eqTaskS_any _ _ _ _ _ _ _ HF.out HE.out l0 l0).mono ?_
      rw [decide_eq_true rfl]
      rintro e w11 ⟨rfl, hb11⟩
      have hs11 : Bw w10 w11 := hb11
      have hz11 := hb11.size
      have hw11 : Bw w w11 := (bw_trans hw10 hs11)
      clear HE HF
      go_wp2_with fail
      refine (toJobs G1.out l1 hw11).mono ?_
      rintro e w12 ⟨u, rfl, hu12, hb12⟩
      have hs12 : Bw w11 w12 := hb12
      have hz12 := hb12.size
      have hw12 : Bw w w12 := (bw_trans hw11 hs12)
      obtain ⟨⟨ae, ce, eu, he, _⟩, _⟩ := hu12.st
      clear hu12
      subst eu
      obtain ⟨⟨af, cf, ef, hf, _⟩, _⟩ := (X1.out.st.bw (bw_trans (bw_trans (bw_trans (bw_trans hs8 hs9) hs10) hs11) hs12))
      simp only [Value.slice.injEq] at ef
      obtain ⟨rfl, _, rfl⟩ := ef
      have HE := Lib.hid he
      have HF := Lib.hid hf
      clear he hf
      go_wp2_with fail
      refine (eqJobS_any _ _ _ _ _ _ _ HF.out HE.out l1 l1).mono ?_
      rw [decide_eq_true rfl]
      rintro e w13 ⟨rfl, hb13⟩
      have hs13 : Bw w12 w13 := hb13
      have hz13 := hb13.size
      have hw13 : Bw w w13 := (bw_trans hw12 hs13)
      clear HE HF
      go_wp2_with fail
      refine (markTasks (NT.bw' hs13 (NT.bw' hs12 (NT.bw' hs11 (NT.bw' hs10 (NT.bw' hs9 (NT.bw' hs8 (NT.bw' hs7 X0.out))))))) _ (by omega) (by omega)).mono ?_
      rintro e w14 ⟨rfl, t14⟩
      have hz14 := t14.size
      have hw14 : Bw w w14 := (bw_hit hw13 t14 (by omega))
      go_wp2_with fail
      refine (markJobs (NJ.hit' t14 (NJ.bw' hs13 (NJ.bw' hs12 (NJ.bw' hs11 (NJ.bw' hs10 (NJ.bw' hs9 (NJ.bw' hs8 X1.out)))))) (by omega)) _ (by omega) (by omega)).mono ?_
      rintro e w15 ⟨rfl, t15⟩
      have hz15 := t15.size
      have hw15 : Bw w w15 := (bw_hit hw14 t15 (by omega))
      have OG2 := Lib.hid (show Own w15 _ 3 aGr _ from (Own.hit' t15 (Own.hit' t14 (Own.bw' hs13 (Own.bw' hs12 (Own.bw' hs11 (Own.bw' hs10 (Own.bw' hs9 OGr.out))))) (by omega)) (by omega)))
      go_wp2_with fail
      refine (eqIntS_any _ _ _ _ _ _ _ OG2.out.ri (OW.out.bw (bw_hit (bw_hit (bw_trans (bw_trans (bw_trans (bw_trans (bw_trans (bw_trans (bw_trans hs6 hs7) hs8) hs9) hs10) hs11) hs12) hs13) t14 (by omega)) t15 (by omega))).ri LEN.out LEN.out).mono ?_
      rw [eqI_self]
      rintro e w16 ⟨rfl, hb16⟩
      have hs16 : Bw w15 w16 := hb16
      have hz16 := hb16.size
      have hw16 : Bw w w16 := (bw_trans hw15 hs16)
      go_wp2_with fail
      refine (markInts (OG2.out.bw hs16) LEN.out _ (by omega) (by omega)).mono ?_
      rintro e w17 ⟨rfl, t17, hm17⟩
      have hz17 := t17.size
      have hw17 : Bw w w17 := (bw_hit hw16 t17 (by omega))
      have HM := Lib.hid hm17
      clear hm17
      go_wp2_with fail
      refine (heldIntS_any aGr _ cGr 1 _ LEN.out (by omega) (by omega) (HM.out.bw (Bw.refl _)).ri).mono ?_
      rintro e w18 ⟨rfl, hb18⟩
      have hs18 : Bw w17 w18 := hb18
      have hz18 := hb18.size
      have hw18 : Bw w w18 := (bw_trans hw17 hs18)
      go_wp2_with fail
      refine (toTasks G0.out l0 hw18).mono ?_
      rintro e w19 ⟨u, rfl, hu19, hb19⟩
      have hs19 : Bw w18 w19 := hb19
      have hz19 := hb19.size
      have hw19 : Bw w w19 := (bw_trans hw18 hs19)
      have Y0 := Lib.hid hu19
      clear hu19
      go_wp2_with fail
      refine (toJobs G1.out l1 hw19).mono ?_
      rintro e w20 ⟨u, rfl, hu20, hb20⟩
      have hs20 : Bw w19 w20 := hb20
      have hz20 := hb20.size
      have hw20 : Bw w w20 := (bw_trans hw19 hs20)
      have Y1 := Lib.hid hu20
      clear hu20
      go_wp2_with fail
      refine (highs_impl (Y0.out.st.bw hs20) (Y1.out.st.bw (Bw.refl _))).mono ?_
      rintro e w21 ⟨aHr, cHr, rfl, ho, hb21⟩
      have hs21 : Bw w20 w21 := hb21
      have hz21 := hb21.size
      have hw21 : Bw w w21 := (bw_trans hw20 hs21)
      have OHr := Lib.hid ho
      clear ho
      go_wp2_with fail
      refine (eqIntS_any _ _ _ _ _ _ _ OHr.out.ri (OW.out.bw (bw_trans (bw_trans (bw_trans (bw_trans (bw_hit (bw_trans (bw_hit (bw_hit (bw_trans (bw_trans (bw_trans (bw_trans (bw_trans (bw_trans (bw_trans hs6 hs7) hs8) hs9) hs10) hs11) hs12) hs13) t14 (by omega)) t15 (by omega)) hs16) t17 (by omega)) hs18) hs19) hs20) hs21)).ri LEN.out LEN.out).mono ?_
      rw [eqI_self]
      rintro e w22 ⟨rfl, hb22⟩
      have hs22 : Bw w21 w22 := hb22
      have hz22 := hb22.size
      have hw22 : Bw w w22 := (bw_trans hw21 hs22)
      go_wp2_with fail
      refine (heldIntS_any aGr _ cGr 1 _ LEN.out (by omega) (by omega) (HM.out.bw (bw_trans (bw_trans (bw_trans (bw_trans hs18 hs19) hs20) hs21) hs22)).ri).mono ?_
      rintro e w23 ⟨rfl, hb23⟩
      have hs23 : Bw w22 w23 := hb23
      have hz23 := hb23.size
      have hw23 : Bw w w23 := (bw_trans hw22 hs23)
      go_wp2
      go_ret
      exact ⟨rfl, hw23⟩
end Go.Proofs.Ytfjcpnkiddpdcaa
