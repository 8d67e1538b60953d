/-
  The walk of the law FnExactLeaveTask: it returns true and writes nothing that was there. No condition.
-/
import Derived.Test.YtfjcpnkiddpdcaaLeave
import Derived.Deep.RegionHeld3
namespace Go.Proofs.Ytfjcpnkiddpdcaa
open Go.RowKit
set_option maxRecDepth 100000 in
set_option maxHeartbeats 8000000 in
theorem law_FnExactLeaveTask (v0 : Value) (x0 : List Tk) (x1 : Int) (w : World) (g0 : RawT w v0 x0) (_g1 : I64 x1) :
    Calls Try.prog 8 #[v0, .int .i64 x1] w fun e w' => e = .returned (.bool true) ∧ Bw w w' := by
  have G0 := Lib.hid g0
  obtain ⟨⟨a0, c0, rfl, _⟩, n0, _⟩ := g0
  go_enter Try.func8, Try.ntmps8
  go_wp2_with fail
  refine (szTaskE _ _ _ _ _ n0 (by omega) (by omega)).mono ?_
  rintro e w1 ⟨q0, rfl, hb1, hq0⟩
  have hs1 : Bw w w1 := hb1
  have hz1 := hb1.size
  have hw1 : Bw w w1 := hs1
  rcases hq0 with hq0 | ⟨hq0, hp0⟩
  · go_wp2
    go_ret
    exact ⟨rfl, hw1⟩
  · have hm0 : q0 ≤ 1048576 := by omega
    have HP0 := Lib.hid hp0
    clear hp0
    have l0 : x0.length ≤ 1048576 := by have := HP0.out; omega
    go_wp2_with fail
    refine (toTasks G0.out l0 hw1).mono ?_
    rintro e w2 ⟨u, rfl, hu2, hb2⟩
    have hs2 : Bw w1 w2 := hb2
    have hz2 := hb2.size
    have hw2 : Bw w w2 := (bw_trans hw1 hs2)
    have S0 := Lib.hid hu2
    clear hu2
    go_wp2_with fail
    refine (leave_spec (S0.out.st.bw (Bw.refl _)) x1).mono ?_
    rintro e w3 ⟨aW, cW, rfl, ho, hb3⟩
    have hs3 : Bw w2 w3 := hb3
    have hz3 := hb3.size
    have hw3 : Bw w w3 := (bw_trans hw2 hs3)
    have OW := Lib.hid ho
    clear ho
    go_wp2_with fail
    refine (toTasks G0.out l0 hw3).mono ?_
    rintro e w4 ⟨u, rfl, hu4, hb4⟩
    have hs4 : Bw w3 w4 := hb4
    have hz4 := hb4.size
    have hw4 : Bw w w4 := (bw_trans hw3 hs4)
    have X0 := Lib.hid hu4
    clear hu4
    have eu0 := X0.out.form
    subst eu0
    have hx0 := X0.out.lt
    go_wp2_with fail
    refine (leave_impl (X0.out.st.bw (Bw.refl _)) x1).mono ?_
    rintro e w5 ⟨aGr, cGr, rfl, ho, hb5⟩
    have hs5 : Bw w4 w5 := hb5
    have hz5 := hb5.size
    have hw5 : Bw w w5 := (bw_trans hw4 hs5)
    have OGr := Lib.hid ho
    clear ho
    have LEN := Lib.hid (show ((leaveT x0 x1).1).length ≤ 1048576 from Nat.le_trans (leaveT_len _ _) (by omega))
    go_wp2_with fail
    refine (eqTaskS_any _ _ _ _ _ _ _ OGr.out.rt (OW.out.bw (bw_trans hs4 hs5)).rt LEN.out LEN.out).mono ?_
    rw [decide_eq_true rfl]
    rintro e w6 ⟨rfl, hb6⟩
    have hs6 : Bw w5 w6 := hb6
    have hz6 := hb6.size
    have hw6 : Bw w w6 := (bw_trans hw5 hs6)
    go_wp2_with fail
    refine (toTasks G0.out l0 hw6).mono ?_
    rintro e w7 ⟨u, rfl, hu7, hb7⟩
    have hs7 : Bw w6 w7 := hb7
    have hz7 := hb7.size
    have hw7 : Bw w w7 := (bw_trans hw6 hs7)
    obtain ⟨⟨ae, ce, eu, he, _⟩, _⟩ := hu7.st
    clear hu7
    subst eu
    obtain ⟨⟨af, cf, ef, hf, _⟩, _⟩ := (X0.out.st.bw (bw_trans (bw_trans hs5 hs6) hs7))
    simp only [Value.slice.injEq] at ef
    obtain ⟨rfl, _, rfl⟩ := ef
    have HE := Lib.hid he
    have HF := Lib.hid hf
    clear he hf
    go_wp2_with fail
    refine (eqTaskS_any _ _ _ _ _ _ _ HF.out HE.out l0 l0).mono ?_
    rw [decide_eq_true rfl]
    rintro e w8 ⟨rfl, hb8⟩
    have hs8 : Bw w7 w8 := hb8
    have hz8 := hb8.size
    have hw8 : Bw w w8 := (bw_trans hw7 hs8)
    clear HE HF
    go_wp2_with fail
    refine (markTasks (NT.bw' hs8 (NT.bw' hs7 (NT.bw' hs6 (NT.bw' hs5 X0.out)))) _ (by omega) (by omega)).mono ?_
    rintro e w9 ⟨rfl, t9⟩
    have hz9 := t9.size
    have hw9 : Bw w w9 := (bw_hit hw8 t9 (by omega))
    have OG2 := Lib.hid (show Own w9 _ 73 aGr _ from (Own.hit' t9 (Own.bw' hs8 (Own.bw' hs7 (Own.bw' hs6 OGr.out))) (by omega)))
    go_wp2_with fail
    refine (eqTaskS_any _ _ _ _ _ _ _ OG2.out.rt (OW.out.bw (bw_hit (bw_trans (bw_trans (bw_trans (bw_trans hs4 hs5) hs6) hs7) hs8) t9 (by omega))).rt LEN.out LEN.out).mono ?_
    rw [decide_eq_true rfl]
    rintro e w10 ⟨rfl, hb10⟩
    have hs10 : Bw w9 w10 := hb10
    have hz10 := hb10.size
    have hw10 : Bw w w10 := (bw_trans hw9 hs10)
    go_wp2_with fail
    refine (markTks (OG2.out.bw hs10) LEN.out _ (by omega) (by omega)).mono ?_
    rintro e w11 ⟨rfl, t11, hm11⟩
    have hz11 := t11.size
    have hw11 : Bw w w11 := (bw_hit hw10 t11 (by omega))
    have HM := Lib.hid hm11
    clear hm11
    go_wp2_with fail
    refine (heldTaskS_any aGr _ cGr 1 _ LEN.out (by omega) (by omega) (HM.out.bw (Bw.refl _)).rt).mono ?_
    rintro e w12 ⟨rfl, hb12⟩
    have hs12 : Bw w11 w12 := hb12
    have hz12 := hb12.size
    have hw12 : Bw w w12 := (bw_trans hw11 hs12)
    go_wp2_with fail
    refine (toTasks G0.out l0 hw12).mono ?_
    rintro e w13 ⟨u, rfl, hu13, hb13⟩
    have hs13 : Bw w12 w13 := hb13
    have hz13 := hb13.size
    have hw13 : Bw w w13 := (bw_trans hw12 hs13)
    have Y0 := Lib.hid hu13
    clear hu13
    go_wp2_with fail
    refine (leave_impl (Y0.out.st.bw (Bw.refl _)) x1).mono ?_
    rintro e w14 ⟨aHr, cHr, rfl, ho, hb14⟩
    have hs14 : Bw w13 w14 := hb14
    have hz14 := hb14.size
    have hw14 : Bw w w14 := (bw_trans hw13 hs14)
    have OHr := Lib.hid ho
    clear ho
    go_wp2_with fail
    refine (eqTaskS_any _ _ _ _ _ _ _ OHr.out.rt (OW.out.bw (bw_trans (bw_trans (bw_trans (bw_hit (bw_trans (bw_hit (bw_trans (bw_trans (bw_trans (bw_trans hs4 hs5) hs6) hs7) hs8) t9 (by omega)) hs10) t11 (by omega)) hs12) hs13) hs14)).rt LEN.out LEN.out).mono ?_
    rw [decide_eq_true rfl]
    rintro e w15 ⟨rfl, hb15⟩
    have hs15 : Bw w14 w15 := hb15
    have hz15 := hb15.size
    have hw15 : Bw w w15 := (bw_trans hw14 hs15)
    go_wp2_with fail
    refine (heldTaskS_any aGr _ cGr 1 _ LEN.out (by omega) (by omega) (HM.out.bw (bw_trans (bw_trans (bw_trans hs12 hs13) hs14) hs15)).rt).mono ?_
    rintro e w16 ⟨rfl, hb16⟩
    have hs16 : Bw w15 w16 := hb16
    have hz16 := hb16.size
    have hw16 : Bw w w16 := (bw_trans hw15 hs16)
    go_wp2
    go_ret
    exact ⟨rfl, hw16⟩
end Go.Proofs.Ytfjcpnkiddpdcaa
