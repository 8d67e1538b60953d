/-
  The walk of HoldsVirtual.
-/
import Derived.Test.YtaadlgpglfpmpaaGF
import Derived.Test.YtaadlgpglfpmpaaEdfU
import Derived.Lib.QuietBelow
import Derived.BigQuiet
import Derived.BigGuardPart




namespace Go.Proofs.Ytaadlgpglfpmpaa
open Go.RowKit

set_option maxHeartbeats 800000 in
theorem times_big (a b : Fr) (w : World) (ha : 0 < a.q) (hb : 0 < b.q) (x1b : a.p * b.p ≤ 1000000000000000) (x3b : a.q * b.q ≤ 1000000000000000) :
    Calls Try.prog 31 #[frV a, frV b] w fun e w' => e = .returned (frV (mulF a b)) ∧ Bw w w' := by
  have hZ0 := Nat.mul_pos ha hb
  have hf : mulF a b = red (a.p * b.p) (a.q * b.q) := rfl
  obtain ⟨X, hX⟩ : ∃ X, a.p * b.p = X := ⟨_, rfl⟩
  obtain ⟨Z, hZ⟩ : ∃ Z, a.q * b.q = Z := ⟨_, rfl⟩
  have hXi : (a.p : Int) * (b.p : Int) = (X : Int) := by rw [← hX]; simp
  have hZi : (a.q : Int) * (b.q : Int) = (Z : Int) := by rw [← hZ]; simp
  rw [hX, hZ] at hf
  rw [hX] at x1b
  rw [hZ] at x3b hZ0
  have w1' := IntWalk.i64_in (X : Int) (by omega)
  have w3' := IntWalk.i64_in (Z : Int) (by omega)
  clear hX hZ
  have HF := Lib.hid hf
  clear hf
  go_enter Try.func31, Try.ntmps31
  go_wp2_with fail
  refine (reduced_any X Z _ _ rfl rfl _ hZ0 (by omega) (by omega)).mono ?_
  rintro e w1 ⟨rfl, hb1⟩
  obtain ⟨_, _, hbx⟩ := box_three hb1
  have B1 := Lib.hid hbx
  have hw1 := bw_trans (bw_trans (bw_trans (bw_alloc _ _) (bw_alloc _ _)) (bw_alloc _ _)) hb1
  clear hbx
  have s0 := blk_cell B1.out 0 rfl
  have s1 := blk_cell B1.out 1 rfl
  have fr := fun j => blk_free B1.out j
  go_wp2
  refine bodyPost_ret (v := frV (red X Z)) (by simp [results, Try.results31, go_sem, s0, s1]) rfl ?_
  exact ⟨by rw [HF.out], dr_set2 hw1 (by omega)⟩
set_option maxHeartbeats 800000 in
theorem plus_big (a b : Fr) (w : World) (ha : 0 < a.q) (hb : 0 < b.q) (x1b : a.p * b.q ≤ 1000000000000000) (x2b : b.p * a.q ≤ 1000000000000000) (x3b : a.q * b.q ≤ 1000000000000000) :
    Calls Try.prog 30 #[frV a, frV b] w fun e w' => e = .returned (frV (addF a b)) ∧ Bw w w' := by
  have hZ0 := Nat.mul_pos ha hb
  have hf : addF a b = red (a.p * b.q + b.p * a.q) (a.q * b.q) := rfl
  obtain ⟨X, hX⟩ : ∃ X, a.p * b.q = X := ⟨_, rfl⟩
  obtain ⟨Y, hY⟩ : ∃ Y, b.p * a.q = Y := ⟨_, rfl⟩
  obtain ⟨Z, hZ⟩ : ∃ Z, a.q * b.q = Z := ⟨_, rfl⟩
  have hXi : (a.p : Int) * (b.q : Int) = (X : Int) := by rw [← hX]; simp
  have hYi : (b.p : Int) * (a.q : Int) = (Y : Int) := by rw [← hY]; simp
  have hZi : (a.q : Int) * (b.q : Int) = (Z : Int) := by rw [← hZ]; simp
  rw [hX, hY, hZ] at hf
  rw [hX] at x1b
  rw [hY] at x2b
  rw [hZ] at x3b hZ0
  have w1' := IntWalk.i64_in (X : Int) (by omega)
  have w2' := IntWalk.i64_in (Y : Int) (by omega)
  have w3' := IntWalk.i64_in (Z : Int) (by omega)
  have w4' := IntWalk.i64_in ((X : Int) + (Y : Int)) (by omega)
  clear hX hY hZ
  have HF := Lib.hid hf
  clear hf
  go_enter Try.func30, Try.ntmps30
  go_wp2_with fail
  refine (reduced_any (X + Y) Z _ _ (by simp) rfl _ hZ0 (by omega) (by omega)).mono ?_
  rintro e w1 ⟨rfl, hb1⟩
  obtain ⟨_, _, hbx⟩ := box_three hb1
  have B1 := Lib.hid hbx
  have hw1 := bw_trans (bw_trans (bw_trans (bw_alloc _ _) (bw_alloc _ _)) (bw_alloc _ _)) hb1
  clear hbx
  have s0 := blk_cell B1.out 0 rfl
  have s1 := blk_cell B1.out 1 rfl
  have fr := fun j => blk_free B1.out j
  go_wp2
  refine bodyPost_ret (v := frV (red (X + Y) Z)) (by simp [results, Try.results30, go_sem, s0, s1]) rfl ?_
  exact ⟨by rw [HF.out], dr_set2 hw1 (by omega)⟩

theorem keepV {w5 W : World} {g : Nat} {v0 v1 : Value} (hb : Bw w5 W) (hs : w5.cell? ⟨g, 0, none⟩ = some v0 ∧ w5.cell? ⟨g, 1, none⟩ = some v1) : W.cell? ⟨g, 0, none⟩ = some v0 ∧ W.cell? ⟨g, 1, none⟩ = some v1 := ⟨cell_bw hb hs.1, cell_bw hb hs.2⟩
theorem factor_no_virt {l : List Tk} (h : (factor l).2 = false) : virtB l = false := by simp [virtB, h]
theorem factor_set {l : List Tk} (h : (factor l).2 = true) : setOk l = true := by
  cases hi : implB l with
  | true => simp only [implB, Bool.and_eq_true] at hi; exact hi.1
  | false => simp [factor, hi] at h
/-- The bounds of what HoldsVirtual reckons with. -/
theorem virt_bounds {l : List Tk} (hf : (factor l).2 = true) (hp : plainB l = false) : 0 < (factor l).1.q ∧ 0 < (share l false false).q ∧ 0 < (share l true true).q ∧ 0 < (mulF (factor l).1 (share l false false)).q ∧
    (factor l).1.p * (share l false false).p ≤ 1000000000000000 ∧ (factor l).1.q * (share l false false).q ≤ 1000000000000000 ∧
    (mulF (factor l).1 (share l false false)).p * (share l true true).q ≤ 1000000000000000 ∧ (share l true true).p * (mulF (factor l).1 (share l false false)).q ≤ 1000000000000000 ∧ (mulF (factor l).1 (share l false false)).q * (share l true true).q ≤ 1000000000000000 := by
  have hs := factor_set hf
  have himp : implB l = true := by
    cases hi : implB l with
    | true => rfl
    | false => simp [factor, hi] at hf
  obtain ⟨ga, _, pa⟩ := share_bd hs false false
  obtain ⟨gb, _, pb⟩ := share_bd hs true false
  obtain ⟨gh, _, ph⟩ := share_bd hs true true
  have jab := share_both hs false false
  have jah := share_both hs false true
  have hnot : ¬ (fitsF (addF (share l false false) (share l true false)) = false ∨ (share l false false).p = (share l false false).q) := fun h => by
    simp [factor, himp, hp, h] at hf
  have hx : (factor l).1 = red ((share l true false).p * (share l false false).q) ((share l true false).q * ((share l false false).q - (share l false false).p)) := by
    simp only [factor, himp, hp]
    rw [if_neg (by simp), if_neg (by simp), if_neg hnot]
  have hn1 : fitsF (addF (share l false false) (share l true false)) = true := by
    cases h : fitsF (addF (share l false false) (share l true false)) with
    | true => rfl
    | false => exact absurd (.inl h) hnot
  have hn2 : (share l false false).p ≠ (share l false false).q := fun h => hnot (.inr h)
  have hle : (share l false false).p ≤ (share l false false).q := by
    have h1 := red_fit (Nat.mul_pos ga.1 gb.1) hn1
    refine Nat.le_of_mul_le_mul_right (Nat.le_trans (Nat.le_add_right _ _) h1) gb.1
  generalize share l false false = a at *
  generalize share l true false = b at *
  generalize share l true true = h at *
  have hden : 0 < b.q * (a.q - a.p) := Nat.mul_pos gb.1 (by omega)
  have hxq := red_pos (p := b.p * a.q) hden
  have hxl := red_le (p := b.p * a.q) (q := b.q * (a.q - a.p))
  rw [hx]
  generalize red (b.p * a.q) (b.q * (a.q - a.p)) = x at *
  have hmq := red_pos (p := x.p * a.p) (Nat.mul_pos hxq ga.1)
  have hml := red_le (p := x.p * a.p) (q := x.q * a.q)
  have em : mulF x a = red (x.p * a.p) (x.q * a.q) := rfl
  rw [em]
  generalize red (x.p * a.p) (x.q * a.q) = m at *
  -- a.q * b.q and a.q * h.q are small
  have x1 : x.p ≤ 5 * (a.q * b.q) := by
    refine Nat.le_trans hxl.1 ?_
    rw [show 5 * (a.q * b.q) = (5 * b.q) * a.q by ac_rfl]
    exact Nat.mul_le_mul_right _ pb
  have x2 : x.q ≤ a.q * b.q := by
    refine Nat.le_trans hxl.2 ?_
    rw [Nat.mul_comm a.q]
    exact Nat.mul_le_mul_left _ (Nat.sub_le _ _)
  have x3 : x.p ≤ 16000000 := by omega
  have x4 : x.q ≤ 3200000 := by omega
  have aq : a.q ≤ 3200000 := Nat.le_trans (Nat.le_mul_of_pos_right _ gb.1) jab
  have y1 : x.p * a.p ≤ 16000000 * 3200000 := Nat.mul_le_mul x3 (by omega)
  have y2 : x.q * a.q ≤ 3200000 * 3200000 := Nat.mul_le_mul x4 aq
  have z1 : m.p * h.q ≤ 16000000 * 3200000 := by
    calc m.p * h.q ≤ (x.p * a.p) * h.q := Nat.mul_le_mul_right _ hml.1
      _ ≤ (x.p * a.q) * h.q := Nat.mul_le_mul_right _ (Nat.mul_le_mul_left _ hle)
      _ = x.p * (a.q * h.q) := by ac_rfl
      _ ≤ 16000000 * 3200000 := Nat.mul_le_mul x3 jah
  have z2 : m.q * h.q ≤ 3200000 * 3200000 := by
    calc m.q * h.q ≤ (x.q * a.q) * h.q := Nat.mul_le_mul_right _ hml.2
      _ = x.q * (a.q * h.q) := by ac_rfl
      _ ≤ 3200000 * 3200000 := Nat.mul_le_mul x4 jah
  have z3 : h.p * m.q ≤ 5 * (3200000 * 3200000) := by
    calc h.p * m.q ≤ (5 * h.q) * m.q := Nat.mul_le_mul_right _ ph
      _ = 5 * (m.q * h.q) := by ac_rfl
      _ ≤ 5 * (3200000 * 3200000) := Nat.mul_le_mul_left _ z2
  exact ⟨hxq, ga.1, gh.1, hmq, by omega, by omega, by omega, by omega, by omega⟩
set_option maxRecDepth 100000 in
set_option maxHeartbeats 1600000 in
theorem HoldsVirtual_impl (ao : Option Addr) (c : Nat) (w : World) (l : List Tk) (hl : l.length ≤ 1048576) (hr : RT w ao l) :
    Calls Try.prog 11 #[.slice ao l.length c] w fun e w' => e = .returned (.bool (virtB l)) ∧ Bw w w' := by
  have HR := Lib.hid hr
  clear hr
  go_enter Try.func11, Try.ntmps11
  go_wp2_with fail
  refine (FactorOf_impl _ _ _ l hl HR.out).mono ?_
  have hvb := fun hf hp => virt_bounds (l := l) hf hp
  have hno := factor_no_virt (l := l)
  have hset := factor_set (l := l)
  have hvd : virtB l = ((factor l).2 && (plainB l || fitsF (addF (mulF (factor l).1 (share l false false)) (share l true true)))) := rfl
  obtain ⟨x, hx⟩ : ∃ x, (factor l).1 = x := ⟨_, rfl⟩
  obtain ⟨o, ho⟩ : ∃ o, (factor l).2 = o := ⟨_, rfl⟩
  rw [hx, ho] at hvd
  rw [hx] at hvb
  rw [ho] at hno hset hvb
  rw [hx, ho]
  have HX := Lib.hid hx
  have HO := Lib.hid ho
  have HNO := Lib.hid hno
  have HSET := Lib.hid hset
  have HVB := Lib.hid hvb
  have HVD := Lib.hid hvd
  clear hx ho hno hset hvb hvd
  rintro e w1 ⟨rfl, hb1⟩
  have hb2 := bw_trans hb1 (bw_alloc w1 (.cells #[.int .i64 (x.p : Int), .int .i64 (x.q : Int)] 45))
  have B1 := Lib.hid (heap_alloc_new w1 (.cells #[.int .i64 (x.p : Int), .int .i64 (x.q : Int)] 45))
  have HS := Lib.hid (And.intro (blk_cell B1.out 0 rfl) (blk_cell B1.out 1 rfl))
  have HPC := Lib.hid (fun (W : World) (hW : Bw w W) => HoldsPlain_impl ao c W l hl (HR.out.bw hW))
  have hl1 := blk_lt B1.out
  cases o with
  | false =>
    have hres := HNO.out rfl
    have HRES := Lib.hid hres
    clear hres
    go_wp2_with fail
    go_quiet (fail)
    go_wp2
    go_ret
    exact ⟨ret_b HRES.out.symm, bw_trans hb2 (bw_drewN _ _)⟩
  | true =>
    obtain ⟨p, HP⟩ : ∃ p, Hid (plainB l = p) := ⟨_, rfl⟩
    have HV : Hid (virtB l = (true && (p || fitsF (addF (mulF x (share l false false)) (share l true true))))) := by show _ = _; rw [HVD.out, HP.out]
    have s0 := HS.out.1
    have s1 := HS.out.2
    have r0 := fun d os => cell_regrown s0 d os
    have r1 := fun d os => cell_regrown s1 d os
    have HPD := Lib.hid (show ∀ W : World, Bw (w1.alloc (.cells #[.int .i64 (x.p : Int), .int .i64 (x.q : Int)] 45)) W → Calls Try.prog 28 #[.slice ao l.length c] W (fun e w' => e = .returned (.bool p) ∧ Bw W w') from fun W hW => by have hcc := HPC.out W (bw_trans hb2 hW); rw [HP.out] at hcc; exact hcc)
    cases p with
    | true =>
      have hres : virtB l = true := by rw [HV.out]; rfl
      have HRES := Lib.hid hres
      clear hres
      go_wp2_with fail
      refine wp_region_quiet_below (by kernel_rfl) (by kernel_rfl) ?_
      repeat (go_big_quiet_step ((first | (go_at_call 28; exact Calls.regrown_of (HPD.out _ (below_regrown _ _ _))))))
      refine wpQuiet_nil ?_
      intro wq hw'
      have hbq := bw_of_ex hw'
      clear hw'
      clear r0 r1 s0 s1
      go_wp2
      go_ret
      exact ⟨ret_b HRES.out.symm, bw_trans hb2 hbq⟩
    | false =>
      obtain ⟨v1, v2, v3, v4, v5, v6, v7, v8, v9⟩ := HVB.out rfl HP.out
      have hso := HSET.out rfl
      have hres : virtB l = fitsF (addF (mulF x (share l false false)) (share l true true)) := by rw [HV.out]; rfl
      obtain ⟨a, eA⟩ : ∃ a, share l false false = a := ⟨_, rfl⟩
      obtain ⟨h, eH⟩ : ∃ h, share l true true = h := ⟨_, rfl⟩
      have cA := fun (W : World) (hW : Bw w W) => LowShare_impl_false ao c W l hl (HR.out.bw hW) hso
      have cH := fun (W : World) (hW : Bw w W) => HighShare_impl_true ao c W l hl (HR.out.bw hW) hso
      rw [eA] at v2 v4 v5 v6 v7 v8 v9 hres cA
      rw [eH] at v3 v7 v8 v9 hres cH
      have cT := fun (W : World) => times_big x a W v1 v2 v5 v6
      have cP := fun (W : World) => plus_big (mulF x a) h W v4 v3 v7 v8 v9
      have HSO := Lib.hid hso
      have EA := Lib.hid eA
      have EH := Lib.hid eH
      have CA := Lib.hid cA
      have CH := Lib.hid cH
      have HRES := Lib.hid hres
      have CT := Lib.hid cT
      have CP := Lib.hid cP
      clear hso eA eH cA cH hres cT cP
      clear v1 v2 v3 v4 v5 v6 v7 v8 v9
      go_wp2_with fail
      refine wp_region_quiet_below (by kernel_rfl) (by kernel_rfl) ?_
      repeat (go_big_quiet_step ((first | (go_at_call 28; exact Calls.regrown_of (HPD.out _ (below_regrown _ _ _))) | (go_at_call 32; exact Calls.regrown_of (CA.out _ (bw_trans hb2 (below_regrown _ _ _)))) | (go_at_call 31; exact Calls.regrown_of (CT.out _)) | (go_at_call 33; exact Calls.regrown_of (CH.out _ (bw_trans hb2 (below_regrown _ _ _)))) | (go_at_call 30; exact Calls.regrown_of (CP.out _)) | (go_at_call 29; exact Calls.regrown_of (fits_any _ _)))))
      refine wpQuiet_nil ?_
      intro wq hw'
      have hbq := bw_of_ex hw'
      clear hw'
      clear r0 r1 s0 s1
      go_wp2
      go_ret
      exact ⟨ret_b HRES.out.symm, bw_trans hb2 hbq⟩
end Go.Proofs.Ytaadlgpglfpmpaa
