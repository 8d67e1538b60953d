/-
  The walk of the law FnExactJobsValid: it returns true and writes nothing that was there. No condition.
-/
import Derived.Test.YtfjcpnkiddpdcaaJv
import Derived.Deep.RegionHeld3
namespace Go.Proofs.Ytfjcpnkiddpdcaa
open Go.RowKit
set_option maxRecDepth 100000 in
set_option maxHeartbeats 8000000 in
theorem law_FnExactJobsValid (v0 : Value) (x0 : List Tk) (v1 : Value) (x1 : List Jb) (w : World) (g0 : RawT w v0 x0) (g1 : RawJ w v1 x1) :
    Calls Try.prog 10 #[v0, v1] w fun e w' => e = .returned (.bool true) ∧ Bw w w' := by
  have G0 := Lib.hid g0
  obtain ⟨⟨a0, c0, rfl, _⟩, n0, _⟩ := g0
  have G1 := Lib.hid g1
  obtain ⟨⟨a1, c1, rfl, _⟩, n1, _⟩ := g1
  go_enter Try.func10, Try.ntmps10
  go_wp2_with fail
  refine (szTaskE _ _ _ _ _ n0 (by omega) (by omega)).mono ?_
  rintro e w1 ⟨q0, rfl, hb1, hq0⟩
  have hs1 : Bw w w1 := hb1
  have hz1 := hb1.size
  have hw1 : Bw w w1 := hs1
  rcases hq0 with hq0 | ⟨hq0, hp0⟩
  · go_wp2
    go_ret
    exact ⟨rfl, hw1⟩
  · have hm0 : q0 ≤ 1048576 := by omega
    have HP0 := Lib.hid hp0
    clear hp0
    go_wp2_with fail
    refine (szJobE _ _ _ _ _ n1 (by omega) (by omega)).mono ?_
    rintro e w2 ⟨q1, rfl, hb2, hq1⟩
    have hs2 : Bw w1 w2 := hb2
    have hz2 := hb2.size
    have hw2 : Bw w w2 := (bw_trans hw1 hs2)
    rcases hq1 with hq1 | ⟨hq1, hp1⟩
    · go_wp2
      go_ret
      exact ⟨rfl, hw2⟩
    · have hm1 : q1 ≤ 1048576 := by omega
      have HP1 := Lib.hid hp1
      clear hp1
      have l0 : x0.length ≤ 1048576 := by have := HP0.out; omega
      have l1 : x1.length ≤ 1048576 := by have := HP1.out; omega
      go_wp2_with fail
      refine (toTasks G0.out l0 hw2).mono ?_
      rintro e w3 ⟨u, rfl, hu3, hb3⟩
      have hs3 : Bw w2 w3 := hb3
      have hz3 := hb3.size
      have hw3 : Bw w w3 := (bw_trans hw2 hs3)
      have S0 := Lib.hid hu3
      clear hu3
      go_wp2_with fail
      refine (toJobs G1.out l1 hw3).mono ?_
      rintro e w4 ⟨u, rfl, hu4, hb4⟩
      have hs4 : Bw w3 w4 := hb4
      have hz4 := hb4.size
      have hw4 : Bw w w4 := (bw_trans hw3 hs4)
      have S1 := Lib.hid hu4
      clear hu4
      go_wp2_with fail
      refine (jobsvalid_spec (S0.out.st.bw hs4) (S1.out.st.bw (Bw.refl _))).mono ?_
      rintro e w5 ⟨rfl, hb5⟩
      have hs5 : Bw w4 w5 := hb5
      have hz5 := hb5.size
      have hw5 : Bw w w5 := (bw_trans hw4 hs5)
      go_wp2_with fail
      refine (toTasks G0.out l0 hw5).mono ?_
      rintro e w6 ⟨u, rfl, hu6, hb6⟩
      have hs6 : Bw w5 w6 := hb6
      have hz6 := hb6.size
      have hw6 : Bw w w6 := (bw_trans hw5 hs6)
      have X0 := Lib.hid hu6
      clear hu6
      have eu0 := X0.out.form
      subst eu0
      have hx0 := X0.out.lt
      go_wp2_with fail
      refine (toJobs G1.out l1 hw6).mono ?_
      rintro e w7 ⟨u, rfl, hu7, hb7⟩
      have hs7 : Bw w6 w7 := hb7
      have hz7 := hb7.size
      have hw7 : Bw w w7 := (bw_trans hw6 hs7)
      have X1 := Lib.hid hu7
      clear hu7
      have eu1 := X1.out.form
      subst eu1
      have hx1 := X1.out.lt
      go_wp2_with fail
      refine (jobsvalid_impl (X0.out.st.bw hs7) (X1.out.st.bw (Bw.refl _))).mono ?_
      rintro e w8 ⟨rfl, hb8⟩
      have hs8 : Bw w7 w8 := hb8
      have hz8 := hb8.size
      have hw8 : Bw w w8 := (bw_trans hw7 hs8)
      go_wp2_with fail
      refine (toTasks G0.out l0 hw8).mono ?_
      rintro e w9 ⟨u, rfl, hu9, hb9⟩
      have hs9 : Bw w8 w9 := hb9
      have hz9 := hb9.size
      have hw9 : Bw w w9 := (bw_trans hw8 hs9)
      obtain ⟨⟨ae, ce, eu, he, _⟩, _⟩ := hu9.st
      clear hu9
      subst eu
      obtain ⟨⟨af, cf, ef, hf, _⟩, _⟩ := (X0.out.st.bw (bw_trans (bw_trans hs7 hs8) hs9))
      simp only [Value.slice.injEq] at ef
      obtain ⟨rfl, _, rfl⟩ := ef
      have HE := Lib.hid he
      have HF := Lib.hid hf
      clear he hf
      go_wp2_with fail
      refine (eqTaskS_any _ _ _ _ _ _ _ HF.out HE.out l0 l0).mono ?_
      rw [decide_eq_true rfl]
      rintro e w10 ⟨rfl, hb10⟩
      have hs10 : Bw w9 w10 := hb10
      have hz10 := hb10.size
      have hw10 : Bw w w10 := (bw_trans hw9 hs10)
      clear HE HF
      go_wp2_with fail
      refine (toJobs G1.out l1 hw10).mono ?_
      rintro e w11 ⟨u, rfl, hu11, hb11⟩
      have hs11 : Bw w10 w11 := hb11
      have hz11 := hb11.size
      have hw11 : Bw w w11 := (bw_trans hw10 hs11)
      obtain ⟨⟨ae, ce, eu, he, _⟩, _⟩ := hu11.st
      clear hu11
      subst eu
      obtain ⟨⟨af, cf, ef, hf, _⟩, _⟩ := (X1.out.st.bw (bw_trans (bw_trans (bw_trans hs8 hs9) hs10) hs11))
      simp only [Value.slice.injEq] at ef
      obtain ⟨rfl, _, rfl⟩ := ef
      have HE := Lib.hid he
      have HF := Lib.hid hf
      clear he hf
      go_wp2_with fail
      refine (eqJobS_any _ _ _ _ _ _ _ HF.out HE.out l1 l1).mono ?_
      rw [decide_eq_true rfl]
      rintro e w12 ⟨rfl, hb12⟩
      have hs12 : Bw w11 w12 := hb12
      have hz12 := hb12.size
      have hw12 : Bw w w12 := (bw_trans hw11 hs12)
      clear HE HF
      go_wp2
      go_ret
      exact ⟨rfl, hw12⟩
end Go.Proofs.Ytfjcpnkiddpdcaa
