/-
  The walk of the law FnRunSame.
-/
import Derived.Test.YtaadlgpglfpmpaaDoorFt
import Derived.Test.YtaadlgpglfpmpaaDoorDrS
import Derived.Test.YtaadlgpglfpmpaaDoorGJ
import Derived.Lib.QuietBelow
import Derived.BigQuiet
import Derived.BigGuardPart





namespace Go.Proofs.YtaadlgpglfpmpaaDoor
open Go.RowKit

theorem eqR_symm (a b : Rn) : eqR a b = eqR b a := by
  have h : ∀ x y : Bool, (x == y) = (y == x) := by decide
  simp only [eqR, eqI_iff, h a.high b.high, eq_comm (a := a.ended), eq_comm (a := a.trace), eq_comm (a := a.switches)]
theorem eqR_trace {a b : Rn} (h : eqR a b = true) : a.trace = b.trace := by
  simp only [eqR, eqI_iff, Bool.and_eq_true, decide_eq_true_eq] at h
  exact h.1.1.2
theorem rr_mk3 {w : World} {a1 a2 a3 : Option Addr} {c1 c2 c3 : Nat} {r : Rn} (h1 : RI w a1 r.ended) (h2 : RI w a2 r.trace) (h3 : RI w a3 r.switches) (hb : RunB3 r) : RR w (rnVal a1 r.ended.length c1 a2 r.trace.length c2 a3 r.switches.length c3 r.high) r :=
  ⟨⟨a1, c1, a2, c2, a3, c3, rfl, h1, h2, h3⟩, hb.1, hb.2.1, hb.2.2.1, hb.2.2.2⟩
set_option maxRecDepth 100000 in
set_option maxHeartbeats 3200000 in
theorem law_FnRunSame (v : Value) (w : World) (hv : RawB w v) : Calls Tryd.prog 5 #[v] w fun e w' => e = .returned (.bool true) ∧ Bw w w' := by
  have HV := Lib.hid hv
  obtain ⟨⟨bo, n, cc, rfl, hc, hm, _⟩⟩ := hv
  unfold maxLen at hm
  by_cases hn : 1048576 < n
  · go_enter Tryd.func5, Tryd.ntmps5
    go_wp2
    go_ret
    exact ⟨rfl, Bw.refl _⟩
  have hnd : decide (1048576 < (n : Int)) = false := decide_eq_false (by omega)
  go_enter Tryd.func5, Tryd.ntmps5
  go_wp2_with fail
  refine (DrawRunSame_any HV.out (Bw.refl _)).mono ?_
  clear hnd
  rintro e w1 ⟨R, T, a1, c1, a2, c2, a3, c3, d1, k1, d2, k2, d3, k3, rfl, o1, o2, o3, p1, p2, p3, hR, hT, hb1⟩
  have HRR := Lib.hid (rr_mk3 (c1 := c1) (c2 := c2) (c3 := c3) o1.ri o2.ri o3.ri hR)
  have HRT := Lib.hid (rr_mk3 (c1 := k1) (c2 := k2) (c3 := k3) p1.ri p2.ri p3.ri hT)
  clear o1 o2 o3 p1 p2 p3 hR hT
  have hbA := bw_alloc w1 (.cells #[.slice a1 R.ended.length c1, .slice a2 R.trace.length c2, .slice a3 R.switches.length c3, .bool R.high] 25)
  have HB := Lib.hid (heap_alloc_new w1 (.cells #[.slice a1 R.ended.length c1, .slice a2 R.trace.length c2, .slice a3 R.switches.length c3, .bool R.high] 25))
  have hbB := bw_alloc (w1.alloc (.cells #[.slice a1 R.ended.length c1, .slice a2 R.trace.length c2, .slice a3 R.switches.length c3, .bool R.high] 25)) (.cells #[.slice d1 T.ended.length k1, .slice d2 T.trace.length k2, .slice d3 T.switches.length k3, .bool T.high] 25)
  have hsame := same_impl (HRR.out.bw (bw_trans hbA hbB)) (HRT.out.bw (bw_trans hbA hbB))
  obtain ⟨S, hS⟩ : ∃ S, eqR R T = S := ⟨_, rfl⟩
  rw [hS] at hsame
  have HSM := Lib.hid hsame
  clear hsame
  go_wp2_with fail
  refine (HSM.out).mono ?_
  rintro e w2 ⟨rfl, hb2⟩
  have hb12 := bw_trans (bw_trans hbA hbB) hb2
  have hw2 := bw_trans hb1 hb12
  have HX := Lib.hid (blk_bw (bw_trans hbB hb2) HB.out)
  have HY := Lib.hid (box_last hb2)
  simp only [World.size_alloc] at HY
  have HR2 := Lib.hid (HRR.out.bw hb12)
  have HT2 := Lib.hid (HRT.out.bw hb12)
  have ca : ∀ W, Bw w2 W → Calls Tryd.prog 22 #[rnVal a1 R.ended.length c1 a2 R.trace.length c2 a3 R.switches.length c3 R.high, rnVal d1 T.ended.length k1 d2 T.trace.length k2 d3 T.switches.length k3 T.high] W fun e w' => e = .returned (.bool S) ∧ Bw W w' := fun W hW => by
    have := same_spec (HR2.out.bw hW) (HT2.out.bw hW)
    rw [hS] at this; exact this
  have cb : ∀ W, Bw w2 W → Calls Tryd.prog 21 #[rnVal d1 T.ended.length k1 d2 T.trace.length k2 d3 T.switches.length k3 T.high, rnVal a1 R.ended.length c1 a2 R.trace.length c2 a3 R.switches.length c3 R.high] W fun e w' => e = .returned (.bool S) ∧ Bw W w' := fun W hW => by
    have := same_impl (HT2.out.bw hW) (HR2.out.bw hW)
    rw [eqR_symm, hS] at this; exact this
  have cc : ∀ W, Bw w2 W → Calls Tryd.prog 21 #[rnVal a1 R.ended.length c1 a2 R.trace.length c2 a3 R.switches.length c3 R.high, rnVal a1 R.ended.length c1 a2 R.trace.length c2 a3 R.switches.length c3 R.high] W fun e w' => e = .returned (.bool true) ∧ Bw W w' := fun W hW => by
    have := same_impl (HR2.out.bw hW) (HR2.out.bw hW)
    rw [eqR_refl] at this; exact this
  obtain ⟨B, hB⟩ : ∃ B, ftB R.trace = B := ⟨_, rfl⟩
  have cd : ∀ W, Bw w2 W → Calls Tryd.prog 17 #[rnVal a1 R.ended.length c1 a2 R.trace.length c2 a3 R.switches.length c3 R.high] W fun e w' => e = .returned (sB B) ∧ Bw W w' := fun W hW => by
    have := ft_impl (HR2.out.bw hW)
    rw [hB] at this; exact this
  have ce : S = true → ∀ W, Bw w2 W → Calls Tryd.prog 17 #[rnVal d1 T.ended.length k1 d2 T.trace.length k2 d3 T.switches.length k3 T.high] W fun e w' => e = .returned (sB B) ∧ Bw W w' := fun hs W hW => by
    have he : ftB T.trace = B := by rw [← eqR_trace (hS.trans hs)]; exact hB
    have := ft_impl (HT2.out.bw hW)
    rw [he] at this; exact this
  have CA := Lib.hid ca
  have CB := Lib.hid cb
  have CC := Lib.hid cc
  have CD := Lib.hid cd
  have CE := Lib.hid ce
  clear ca cb cc cd ce hS hB
  obtain ⟨q0, q1, q2, q3⟩ := box4 HX.out
  obtain ⟨x0, x1, x2, x3⟩ := box4 HY.out
  have s0 := fun d os => cell_regrown q0 d os
  have s1 := fun d os => cell_regrown q1 d os
  have s2 := fun d os => cell_regrown q2 d os
  have s3 := fun d os => cell_regrown q3 d os
  have t0 := fun d os => cell_regrown x0 d os
  have t1 := fun d os => cell_regrown x1 d os
  have t2 := fun d os => cell_regrown x2 d os
  have t3 := fun d os => cell_regrown x3 d os
  clear q0 q1 q2 q3 x0 x1 x2 x3
  go_wp2_with fail
  cases S with
  | false =>
    refine wp_region_quiet_below (by kernel_rfl) (by kernel_rfl) ?_
    repeat (go_big_quiet_step ((first | (go_at_call 22; with_reducible exact Calls.regrown_of (CA.out _ (below_regrown _ _ _))) | (go_at_call 21; first | with_reducible exact Calls.regrown_of (CB.out _ (below_regrown _ _ _)) | with_reducible exact Calls.regrown_of (CC.out _ (below_regrown _ _ _))))))
    refine wpQuiet_nil ?_
    intro wq hw'
    have hbq := bw_of_ex hw'
    clear hw'
    go_wp2
    go_ret
    exact ⟨rfl, bw_trans hw2 hbq⟩
  | true =>
    have CE2 := Lib.hid (CE.out rfl)
    refine wp_region_quiet_below (by kernel_rfl) (by kernel_rfl) ?_
    repeat (go_big_quiet_step ((first | (go_at_call 22; with_reducible exact Calls.regrown_of (CA.out _ (below_regrown _ _ _))) | (go_at_call 21; first | with_reducible exact Calls.regrown_of (CB.out _ (below_regrown _ _ _)) | with_reducible exact Calls.regrown_of (CC.out _ (below_regrown _ _ _))) | (go_at_call 17; first | with_reducible exact Calls.regrown_of (CD.out _ (below_regrown _ _ _)) | with_reducible exact Calls.regrown_of (CE2.out _ (below_regrown _ _ _))))))
    refine wpQuiet_nil ?_
    intro wq hw'
    have hbq := bw_of_ex hw'
    clear hw'
    go_wp2
    go_ret
    exact ⟨rfl, bw_trans hw2 hbq⟩
end Go.Proofs.YtaadlgpglfpmpaaDoor
