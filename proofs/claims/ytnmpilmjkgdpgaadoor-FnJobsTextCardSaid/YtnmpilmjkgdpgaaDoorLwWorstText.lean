/-
  The walk of the law FnWorstText.
-/
import Derived.Test.YtnmpilmjkgdpgaaDoorLwWorstHigh
import Derived.Test.YtnmpilmjkgdpgaaDoorPlD
import Derived.Test.YtnmpilmjkgdpgaaDoorPi
import Derived.Test.YtnmpilmjkgdpgaaDoorPsp
import Derived.Test.YtnmpilmjkgdpgaaDoorDm




namespace Go.Proofs.YtnmpilmjkgdpgaaDoor
open Go.RowKit

theorem told_of_jobs {l : List Tk} {js : List Jb} (h : jobsOk l js = true) : toldB js = true := by
  obtain ⟨hso, hj60, hall, _⟩ := (jobsOk_iff l js).1 h
  have hl5 := setOk_len hso
  simp only [toldB, Bool.and_eq_true, List.all_eq_true, decide_eq_true_eq]
  refine ⟨fun j hj => ?_, hj60⟩
  obtain ⟨_, h0, h1, h2, h3, h4, t, ht, h5⟩ := jobIn_spec (hall j hj)
  have := (Tk.ok_iff t).1 (setOk_at hso ht)
  simp only [tellB, decide_eq_true_eq]
  omega
theorem fj_small {js : List Jb} (h : ∀ j ∈ js, tellB j = true) (hl : js.length ≤ 60) : (Lib.join (js.map jobT) [32]).length ≤ 1048576 := by
  have hL := lens_le 65 (js.map jobT) (fun x hx => by obtain ⟨j, hj, rfl⟩ := List.mem_map.1 hx; exact jobT_len (h j hj))
  rw [List.length_map] at hL
  cases hq : js.map jobT with
  | nil => simp [Lib.join_nil]
  | cons x r =>
    have hr : (x :: r).length = js.length := by rw [← hq]; simp
    rw [hq] at hL
    rw [Lib.join_length]
    simp at hr hL ⊢
    omega
set_option maxRecDepth 100000 in
set_option maxHeartbeats 3200000 in
theorem law_FnWorstText (v : Value) (w : World) (hv : RawB w v) (hE : Env w) : Calls Tryd.prog 4 #[v] w fun e w' => e = .returned (.bool true) ∧ Bw w w' := by
  have HE := Lib.hid hE
  clear hE
  have HV := Lib.hid hv
  obtain ⟨⟨bo, n, cc, rfl, hc, hm, _⟩⟩ := hv
  unfold maxLen at hm
  by_cases hn : 1048576 < n
  · go_enter Tryd.func4, Tryd.ntmps4
    go_wp2
    go_ret
    exact ⟨rfl, Bw.refl _⟩
  have hnd : decide (1048576 < (n : Int)) = false := decide_eq_false (by omega)
  go_enter Tryd.func4, Tryd.ntmps4
  go_wp2_with fail
  refine (DrawWorstJobs_any HV.out (Bw.refl _)).mono ?_
  clear hnd
  rintro e w1 ⟨ao, c, l, t, h, rfl, ⟨hown, hl6, _, hb1⟩, _⟩
  have hl : l.length ≤ 1048576 := by omega
  have HS := Lib.hid (st_row hown hl)
  clear hown
  go_wp2_with fail
  refine (worst_implR HS.out t h).mono ?_
  rintro e w2 ⟨ax, cx, rfl, hx, hb2⟩
  have hlx : (worst l t h).1.length ≤ 1048576 := Nat.le_trans (worst_len _ _ _) (by omega)
  have HX := Lib.hid hx
  clear hx
  go_wp2_with fail
  refine (worst_specR (HS.out.bw hb2) t h).mono ?_
  rintro e w3 ⟨aw, cw, rfl, hw, hb3⟩
  have HW := Lib.hid (Own.ofRow hw)
  clear hw
  go_wp2_with fail
  refine (dmJobs_any _ _ _ _ _ _ _ (Own.ofRow (row_bw HX.out hb3)).rj HW.out.rj hlx hlx).mono ?_
  rw [decide_eq_true rfl]
  rintro e w4 ⟨rfl, hb4⟩
  obtain ⟨o, HQ⟩ : ∃ o, Hid ((worst l t h).2 = o) := ⟨_, rfl⟩
  rw [HQ.out]
  have hw4 := bw_trans (bw_trans (bw_trans hb1 hb2) hb3) hb4
  have h14 := bw_trans (bw_trans hb2 hb3) hb4
  cases o with
  | false =>
    go_wp2_with fail
    refine (dmJobs_any _ _ _ _ _ _ _ (Own.ofRow (row_bw HX.out (bw_trans hb3 hb4))).rj (HW.out.bw hb4).rj hlx hlx).mono ?_
    rw [decide_eq_true rfl]
    rintro e w5 ⟨rfl, hb5⟩
    go_wp2
    go_ret
    exact ⟨rfl, bw_trans hw4 hb5⟩
  | true =>
    obtain ⟨js, hjs, hok, _⟩ := worst_plain HQ.out
    have HX2 := Lib.hid (row_bw HX.out (bw_trans hb3 hb4))
    rw [hjs] at HX2 hlx ⊢
    dsimp only at HX2 hlx ⊢
    have ht := told_of_jobs hok
    have hip := ip_fj ht
    have hj60 := told_len ht
    have HJ := Lib.hid (sj_row HX2.out hlx)
    have HE4 := Lib.hid (env_bw HE.out hw4)
    have HIP := Lib.hid hip
    have HT := Lib.hid ht
    have HOK := Lib.hid hok
    have HJS := Lib.hid hjs
    clear hip ht hok hjs
    go_wp2_with fail
    refine (fj_impl HJ.out HE4.out.1).mono ?_
    obtain ⟨B, hB⟩ : ∃ B, fjB js = B := ⟨_, rfl⟩
    have hBl : B.length ≤ 1048576 := by
      rw [← hB, fjB, if_pos HT.out]
      exact fj_small (told_all HT.out) hj60
    have HIP2 := Lib.hid (show ipB B = some js by rw [← hB]; exact HIP.out)
    rw [hB]
    clear hB
    rintro e w5 ⟨rfl, hb5⟩
    go_wp2_with fail
    refine (parse_impl B hBl _ (env_bw HE4.out hb5)).mono ?_
    rw [HIP2.out]
    dsimp only [optJ]
    rintro e w6 ⟨ap, cp, rfl, hp, hb6⟩
    have h46 := bw_trans hb5 hb6
    go_wp2_with fail
    refine (dmJobs_any _ _ _ _ _ _ _ (Own.ofRow hp).rj (Own.ofRow (row_bw HX2.out h46)).rj hlx hlx).mono ?_
    rw [decide_eq_true rfl]
    rintro e w7 ⟨rfl, hb7⟩
    go_wp2
    go_ret
    exact ⟨rfl, bw_trans hw4 (bw_trans h46 hb7)⟩
end Go.Proofs.YtnmpilmjkgdpgaaDoor
