/-
  The walk of the law FnExactFormatJobs: it returns true and writes nothing that was there. No condition.
-/
import Derived.Test.YtaadlgpglfpmpaaDoorFs
import Derived.Deep.RegionHeld3

namespace Go.Proofs.YtaadlgpglfpmpaaDoor
open Go.RowKit
set_option maxRecDepth 100000 in
set_option maxHeartbeats 8000000 in
theorem law_FnExactFormatJobs (v0 : Value) (x0 : List Jb) (w : World) (g0 : RawJ w v0 x0) (hp : Pow10 w) :
    Calls Tryd.prog 8 #[v0] w fun e w' => e = .returned (.bool true) ∧ Bw w w' := by
  have G0 := Lib.hid g0
  have HP := Lib.hid hp
  clear hp
  obtain ⟨⟨a0, c0, rfl, _⟩, n0, _⟩ := g0
  go_enter Tryd.func8, Tryd.ntmps8
  go_wp2_with fail
  refine (szJobE _ _ _ _ _ n0 (by omega) (by omega)).mono ?_
  rintro e w1 ⟨q0, rfl, hb1, hq0⟩
  have hs1 : Bw w w1 := hb1
  have hz1 := hb1.size
  have hw1 : Bw w w1 := hs1
  rcases hq0 with hq0 | ⟨hq0, hp0⟩
  · go_wp2
    go_ret
    exact ⟨rfl, hw1⟩
  · have hm0 : q0 ≤ 1048576 := by omega
    have HP0 := Lib.hid hp0
    clear hp0
    have l0 : x0.length ≤ 1048576 := by have := HP0.out; omega
    go_wp2_with fail
    refine (toJobs G0.out l0 hw1).mono ?_
    rintro e w2 ⟨u, rfl, hu2, hb2⟩
    have hs2 : Bw w1 w2 := hb2
    have hz2 := hb2.size
    have hw2 : Bw w w2 := (bw_trans hw1 hs2)
    have S0 := Lib.hid hu2
    clear hu2
    go_wp2_with fail
    refine (fj_spec (S0.out.st.bw (Bw.refl _))).mono ?_
    rintro e w3 ⟨rfl, hb3⟩
    have hs3 : Bw w2 w3 := hb3
    have hz3 := hb3.size
    have hw3 : Bw w w3 := (bw_trans hw2 hs3)
    go_wp2_with fail
    refine (toJobs G0.out l0 hw3).mono ?_
    rintro e w4 ⟨u, rfl, hu4, hb4⟩
    have hs4 : Bw w3 w4 := hb4
    have hz4 := hb4.size
    have hw4 : Bw w w4 := (bw_trans hw3 hs4)
    have X0 := Lib.hid hu4
    clear hu4
    have eu0 := X0.out.form
    subst eu0
    have hx0 := X0.out.lt
    go_wp2_with fail
    refine (fj_impl (X0.out.st.bw (Bw.refl _)) (pow_bw HP.out hw4)).mono ?_
    rintro e w5 ⟨rfl, hb5⟩
    have hs5 : Bw w4 w5 := hb5
    have hz5 := hb5.size
    have hw5 : Bw w w5 := (bw_trans hw4 hs5)
    go_wp2_with fail
    refine (toJobs G0.out l0 hw5).mono ?_
    rintro e w6 ⟨u, rfl, hu6, hb6⟩
    have hs6 : Bw w5 w6 := hb6
    have hz6 := hb6.size
    have hw6 : Bw w w6 := (bw_trans hw5 hs6)
    obtain ⟨⟨ae, ce, eu, he, _⟩, _⟩ := hu6.st
    clear hu6
    subst eu
    obtain ⟨⟨af, cf, ef, hf, _⟩, _⟩ := (X0.out.st.bw (bw_trans hs5 hs6))
    simp only [Value.slice.injEq] at ef
    obtain ⟨rfl, _, rfl⟩ := ef
    have HE := Lib.hid he
    have HF := Lib.hid hf
    clear he hf
    go_wp2_with fail
    refine (eqJobS_any _ _ _ _ _ _ _ HF.out HE.out l0 l0).mono ?_
    rw [decide_eq_true rfl]
    rintro e w7 ⟨rfl, hb7⟩
    have hs7 : Bw w6 w7 := hb7
    have hz7 := hb7.size
    have hw7 : Bw w w7 := (bw_trans hw6 hs7)
    clear HE HF
    go_wp2
    go_ret
    exact ⟨rfl, hw7⟩
end Go.Proofs.YtaadlgpglfpmpaaDoor
