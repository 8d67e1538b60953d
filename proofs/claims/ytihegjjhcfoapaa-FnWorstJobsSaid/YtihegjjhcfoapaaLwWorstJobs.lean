/-
  The walk of the law FnWorstJobs.
-/
import Derived.Test.YtihegjjhcfoapaaLwWorstHigh
import Derived.Test.YtihegjjhcfoapaaPlD
namespace Go.Proofs.Ytihegjjhcfoapaa
open Go.RowKit

set_option maxHeartbeats 800000 in
theorem demand_any (a b c d : Int) (q : Bool) (n : Nat) (hi : Bool) (w : World) (hn : n ≤ 1000000) (h1 : 1 ≤ d) (h2 : d ≤ 20) (h3 : 0 ≤ a) (h4 : a ≤ 20) (h5 : 0 ≤ b) (h6 : b ≤ 20) :
    Calls Try.prog 54 #[tkVal ⟨a, b, c, d, q⟩, .int .i64 n, .bool hi] w fun e w' => e = .returned (.int .i64 (dem ⟨a, b, c, d, q⟩ n hi)) ∧ Bw w w' := by
  have hb := ce_bd n (e := d) h1
  have hd : ((n : Int) + d - 1).tdiv d = ce n d := rfl
  have hw1 := IntWalk.i64_in ((n : Int) + d) (by omega)
  have hw2 := IntWalk.i64_in ((n : Int) + d - 1) (by omega)
  have hd0 : ¬ d = 0 := by omega
  have hdn : dem ⟨a, b, c, d, q⟩ n hi = ce n d * selW hi ⟨a, b, c, d, q⟩ := rfl
  obtain ⟨C, hC⟩ : ∃ C, ce n d = C := ⟨_, rfl⟩
  obtain ⟨R, hR⟩ : ∃ R, dem ⟨a, b, c, d, q⟩ n hi = R := ⟨_, rfl⟩
  rw [hC] at hb hd hdn
  rw [hR] at hdn
  rw [hR]
  have hd2 : ((n : Int) + d - 1) / d = C := by rw [← hd, Int.tdiv_eq_ediv_of_nonneg (by omega)]
  have hwd := IntWalk.i64_in C (by omega)
  have hbd : ∀ s : Int, 0 ≤ s → s ≤ 20 → 0 ≤ C * s ∧ C * s ≤ 20000000 := fun s h0 h1 => ⟨Int.mul_nonneg hb.1 h0, by
    have := Int.mul_le_mul_of_nonneg_left h1 hb.1; omega⟩
  have w3 := IntWalk.i64_in (C * a) (by have := hbd a h3 h4; omega)
  have w4 := IntWalk.i64_in (C * b) (by have := hbd b h5 h6; omega)
  clear hC hR
  cases hi with
  | true =>
    have hf : C * b = R := by rw [hdn]; rfl
    have hwR := IntWalk.i64_in R (by have := hbd b h5 h6; omega)
    have HDN := Lib.hid hdn
    clear hdn
    clear hbd
    go_enter Try.func54, Try.ntmps54
    go_wp2
    go_ret
    exact ⟨rfl, bw_alloc _ _⟩
  | false =>
    have hf : C * a = R := by rw [hdn]; rfl
    have hwR := IntWalk.i64_in R (by have := hbd a h3 h4; omega)
    have HDN := Lib.hid hdn
    clear hdn
    clear hbd
    go_enter Try.func54, Try.ntmps54
    go_wp2
    go_ret
    exact ⟨rfl, bw_alloc _ _⟩

set_option maxHeartbeats 800000 in
theorem DemandOf_any (a b c d : Int) (q : Bool) (n : Nat) (hi : Bool) (w : World) (hn : n ≤ 1000000) (hok : isOk a b c d q = true) :
    Calls Try.prog 34 #[tkVal ⟨a, b, c, d, q⟩, .int .i64 n, .bool hi] w fun e w' => e = .returned (.tuple #[.int .i64 (dem ⟨a, b, c, d, q⟩ n hi), .bool true]) ∧ Bw w w' := by
  have hk := (Tk.ok_iff ⟨a, b, c, d, q⟩).1 hok
  dsimp only at hk
  go_enter Try.func34, Try.ntmps34
  go_wp2_with fail
  refine (impl.TaskValid_walk a b c d q _).mono ?_
  rw [hok]
  rintro e w1 ⟨rfl, hb1⟩
  have B1 := Lib.hid (box_last hb1)
  have p0 := blk_cell B1.out 0 rfl
  have p1 := blk_cell B1.out 1 rfl
  have p2 := blk_cell B1.out 2 rfl
  have p3 := blk_cell B1.out 3 rfl
  have p4 := blk_cell B1.out 4 rfl
  have d1 : decide ((n : Int) < 0) = false := decide_eq_false (by omega)
  have d2 : decide (1000000 < (n : Int)) = false := decide_eq_false (by omega)
  go_wp2_with fail
  refine (demand_any a b c d q n hi _ hn (by omega) (by omega) (by omega) (by omega) (by omega) (by omega)).mono ?_
  rintro e w2 ⟨rfl, hb2⟩
  go_wp2
  go_ret2
  exact ⟨rfl, bw_trans (bw_trans (bw_alloc _ _) hb1) hb2⟩

set_option maxRecDepth 100000 in
set_option maxHeartbeats 3200000 in
theorem law_FnWorstJobs (v : Value) (w : World) (hv : RawB w v) : Calls Try.prog 9 #[v] w fun e w' => e = .returned (.bool true) ∧ Bw w w' := by
  have HV := Lib.hid hv
  obtain ⟨⟨bo, n, cc, rfl, hc, hm, _⟩⟩ := hv
  unfold maxLen at hm
  by_cases hn : 1048576 < n
  · go_enter Try.func9, Try.ntmps9
    go_wp2
    go_ret
    exact ⟨rfl, Bw.refl _⟩
  have hnd : decide (1048576 < (n : Int)) = false := decide_eq_false (by omega)
  go_enter Try.func9, Try.ntmps9
  go_wp2_with fail
  refine (DrawWorstJobs_any HV.out (Bw.refl _)).mono ?_
  clear hnd
  rintro e w1 ⟨ao, c, l, t, h, rfl, ⟨hown, hl6, _, hb1⟩, _⟩
  have hl : l.length ≤ 1048576 := by omega
  have HS := Lib.hid (st_row hown hl)
  clear hown
  go_wp2_with fail
  refine (worst_implR HS.out t h).mono ?_
  rintro e w2 ⟨ax, cx, rfl, hx, hb2⟩
  have hlx : (worst l t h).1.length ≤ 1048576 := Nat.le_trans (worst_len _ _ _) (by omega)
  have HX := Lib.hid hx
  clear hx
  go_wp2_with fail
  refine (worst_specR (HS.out.bw hb2) t h).mono ?_
  rintro e w3 ⟨aw, cw, rfl, hw, hb3⟩
  have HW := Lib.hid (Own.ofRow hw)
  clear hw
  go_wp2_with fail
  refine (dmJobs_any _ _ _ _ _ _ _ (Own.ofRow (row_bw HX.out hb3)).rj HW.out.rj hlx hlx).mono ?_
  rw [decide_eq_true rfl]
  rintro e w4 ⟨rfl, hb4⟩
  obtain ⟨o, HQ⟩ : ∃ o, Hid ((worst l t h).2 = o) := ⟨_, rfl⟩
  rw [HQ.out]
  have hw4 := bw_trans (bw_trans (bw_trans hb1 hb2) hb3) hb4
  have h14 := bw_trans (bw_trans hb2 hb3) hb4
  cases o with
  | false =>
    go_wp2_with fail
    refine (dmJobs_any _ _ _ _ _ _ _ (Own.ofRow (row_bw HX.out (bw_trans hb3 hb4))).rj (HW.out.bw hb4).rj hlx hlx).mono ?_
    rw [decide_eq_true rfl]
    rintro e w5 ⟨rfl, hb5⟩
    go_wp2
    go_ret
    exact ⟨rfl, bw_trans hw4 hb5⟩
  | true =>
    obtain ⟨js, hjs, hok, hcnt, h0, h2, hneed⟩ := worst_plain HQ.out
    obtain ⟨n, rfl⟩ : ∃ n : Nat, t = n := ⟨t.toNat, by omega⟩
    have HX2 := Lib.hid (row_bw HX.out (bw_trans hb3 hb4))
    rw [hjs] at HX2 hlx ⊢
    dsimp only at HX2 hlx ⊢
    have HJ := Lib.hid (sj_row HX2.out hlx)
    have HK := Lib.hid (Own.ofRow HX2.out).rj
    obtain ⟨hso, hj60, _⟩ := (jobsOk_iff l js).1 hok
    have hev : ∀ x ∈ l, 1 ≤ x.every := fun x hx => by have := (Tk.ok_iff x).1 (setOk_all hso x hx); omega
    have HSO := Lib.hid hso
    have HEV := Lib.hid hev
    have HOK := Lib.hid hok
    have HN := Lib.hid hneed
    have hl5 := setOk_len hso
    obtain ⟨⟨a2, c2, e2, hrt, _⟩, _⟩ := HS.out
    have HT := Lib.hid hrt
    simp only [Value.slice.injEq] at e2
    obtain ⟨rfl, _, rfl⟩ := e2
    clear hrt hjs hneed hok hev hso
    have HC := Lib.hid hcnt
    clear hcnt
    go_wp2
    go_loopw [10, 11] (fun u i wr => ∃ (k : Nat) (s : Int), k ≤ l.length ∧ i = .int .i64 k ∧ u = .int .i64 s ∧ Hid (s = sumCe n (l.take k)) ∧ 0 ≤ s ∧ s ≤ 200 * k ∧ Bw w4 wr) (fun _ i _ => l.length - (intOf i).toNat)
    case atStart => exact ⟨0, 0, Nat.zero_le _, rfl, rfl, by simp [Hid, sumCe], by omega, by omega, Bw.refl _⟩
    case round =>
      obtain ⟨k, s, hk, rfl, rfl, hs, hs0, hs1, hbw⟩ := hrel
      by_cases hlt : k < l.length
      · obtain ⟨⟨x0, x1, x2, x3, x4⟩, b, off, hxk, hao, hbs, c0, c1, c2, c3, c4⟩ := HT.out.get (bw_trans h14 hbw) hlt
        dsimp only at c0 c1 c2 c3 c4
        have hxo := setOk_at HSO.out hxk
        have hxe := (Tk.ok_iff _).1 hxo
        dsimp only at hxe
        have hcb := ce_bd n (e := x3) (by omega)
        have hsn := sumCe_snoc n l k _ hxk
        have hnd := HN.out k _ hxk
        dsimp only at hsn
        obtain ⟨C, hC⟩ : ∃ C, ce n x3 = C := ⟨_, rfl⟩
        have hd : ((n : Int) + x3 - 1).tdiv x3 = C := hC
        rw [hC] at hcb hsn
        have hd2 : ((n : Int) + x3 - 1) / x3 = C := by rw [← hd, Int.tdiv_eq_ediv_of_nonneg (by omega)]
        have hw1 := IntWalk.i64_in ((n : Int) + x3) (by omega)
        have hw2 := IntWalk.i64_in ((n : Int) + x3 - 1) (by omega)
        have hw3 := IntWalk.i64_in C (by omega)
        have hw4' := IntWalk.i64_in (s + C) (by omega)
        have hx30 : ¬ x3 = 0 := by omega
        subst hao
        have HXO := Lib.hid hxo
        have HSN := Lib.hid (show s + C = sumCe n (l.take (k + 1)) by rw [hsn, hs.out])
        have HND := Lib.hid hnd
        clear hxk hxo hxe hsn hnd hC
        go_wp2_with fail
        go_quiet (fail)
        go_wp2_with fail
        refine (DemandOf_any x0 x1 x2 x3 x4 n h _ (by omega) HXO.out).mono ?_
        rintro e w5 ⟨rfl, hb5⟩
        have h45 : Bw w4 w5 := bw_trans (blw_drewN hbw _) hb5
        go_wp2_with fail
        refine (NeedOf_impl _ _ _ js k hlx (HK.out.bw h45)).mono ?_
        rw [HND.out]
        rintro e w6 ⟨rfl, hb6⟩
        obtain ⟨D, hD⟩ : ∃ D, dem ⟨x0, x1, x2, x3, x4⟩ n h = D := ⟨_, rfl⟩
        rw [hD]
        have hDD : (D != D) = false := bne_self_eq_false _
        clear hD
        go_wp2
        go_roundw
        case rel => exact ⟨k + 1, s + C, by omega, by go_num, rfl, HSN.out, by omega, by omega, bw_trans h45 hb6⟩
        case measure => simp [intOf]; omega
      · have hse : ((js.length : Int) == s) = true := by
          have h1 := hs.out
          rw [take_end hlt, ← HC.out] at h1
          exact beq_iff_eq.2 h1.symm
        go_wp2_with fail
        refine (jobsvalid_impl (l := l) (js := js) (HS.out.bw (bw_trans h14 hbw)) (HJ.out.bw hbw)).mono ?_
        rw [HOK.out]
        rintro e w5 ⟨rfl, hb5⟩
        go_wp2
        go_ret
        exact ⟨rfl, bw_trans (bw_trans hw4 hbw) hb5⟩
end Go.Proofs.Ytihegjjhcfoapaa
