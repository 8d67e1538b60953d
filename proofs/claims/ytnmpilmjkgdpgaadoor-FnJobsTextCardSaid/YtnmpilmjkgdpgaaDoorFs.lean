/-
  The walks of the specification's decimal text and of its FormatJobs.
-/
import Derived.Test.YtnmpilmjkgdpgaaDoorFj
import Derived.Lib.QuietBelow
import Derived.BigQuiet
import Derived.BigGuardPart



namespace Go.Proofs.YtnmpilmjkgdpgaaDoor
open Go.RowKit

theorem conv_new {w : World} {b : UInt8} {fr : Nat × Nat} {g : Nat} (h : w.heap[g]? = some (.cells #[.int .u8 (b.toNat : Int)] 5 fr)) : (convert 28 9 (.slice (some ⟨g, 0, none⟩) 1 1)).run Tryd.prog w = .ok (sB [b]) w :=
  run_convert_bytes_back w _ _ 5 ⟨g, 0, none⟩ 1 [b] Tryd.underlying28 Tryd.underlying5 Tryd.underlying9 (fun j hj => by
    obtain rfl : j = 0 := by simp at hj; omega
    exact blk_cell h 0 rfl)
theorem dg_nat {r : Nat} (h : r < 10) : (((UInt8.ofNat (48 + r)).toNat : Nat) : Int) = 48 + (r : Int) := by
  rw [UInt8.toNat_ofNat']; omega
theorem dig_step {m : Nat} (h : ¬ m < 10) : Lib.decDigits m = Lib.decDigits (m / 10) ++ [UInt8.ofNat (48 + m % 10)] := by
  rw [Lib.decDigits, dif_neg h]
set_option maxRecDepth 100000 in
set_option maxHeartbeats 1600000 in
theorem dec_any (n : Nat) (hn : n ≤ 900) (w : World) : Calls Tryd.prog 36 #[.int .i64 (n : Int)] w fun e w' => e = .returned (sB (Lib.itoa n)) ∧ Bw w w' := by
  have hi : Lib.itoa (n : Int) = Lib.decDigits n := Lib.itoa_nonneg n
  have h0 : decide ((n : Int) < -9223372036854775807) = false := decide_eq_false (by omega)
  have h1 : decide ((n : Int) < 0) = false := decide_eq_false (by omega)
  have HI := Lib.hid hi
  clear hi
  go_enter Tryd.func36, Tryd.ntmps36
  go_wp2
  go_loopw [0, 3] (fun x o wr => ∃ (m : Nat) (O : List UInt8), x = .int .i64 (m : Int) ∧ o = sB O ∧ O.length + m ≤ n ∧ Hid (Lib.decDigits n = Lib.decDigits m ++ O) ∧ Bw w wr) (fun x _ _ => (intOf x).toNat)
  case atStart => exact ⟨n, [], rfl, rfl, by simp, by show _ = _; simp, Bw.refl _⟩
  case round =>
    obtain ⟨m, O, rfl, rfl, hOl, hx, hbw⟩ := hrel
    clear h0 h1
    by_cases hm : m < 10
    · have hge : decide (9 < (m : Int)) = false := decide_eq_false (by omega)
      have hfin : Lib.itoa (n : Int) = [UInt8.ofNat (48 + m)] ++ O := by rw [HI.out, hx.out, Lib.decDigits_one hm]
      have hby := dg_nat (r := m) (by omega)
      have hcv := conv_new (b := UInt8.ofNat (48 + m)) (heap_alloc_new wr (.cells #[.int .u8 (((UInt8.ofNat (48 + m)).toNat : Nat) : Int)] 5))
      rw [hby] at hcv
      have hadd := str_add Tryd.prog [UInt8.ofNat (48 + m)] O (by simp) (by omega)
      have hw1 := IntWalk.i64_in (48 + ((m : Nat) : Int)) (by omega)
      have hw2 : IntKind.u8.wrap (48 + ((m : Nat) : Int)) = 48 + ((m : Nat) : Int) := IntWalk.u8_in _ (by omega)
      obtain ⟨b, hb⟩ : ∃ b, UInt8.ofNat (48 + m) = b := ⟨_, rfl⟩
      rw [hb] at hcv hadd hfin
      obtain ⟨Z, hZ⟩ : ∃ Z, [b] ++ O = Z := ⟨_, rfl⟩
      rw [hZ] at hadd hfin
      have HFIN := Lib.hid hfin
      have HBY := Lib.hid hby
      have HB := Lib.hid hb
      have HZ := Lib.hid hZ
      clear hfin hby hb hZ
      go_wp2
      go_ret
      exact ⟨by rw [HFIN.out]; rfl, bw_trans hbw (bw_alloc _ _)⟩
    · have hge : decide (9 < (m : Int)) = true := decide_eq_true (by omega)
      obtain ⟨r, hr⟩ : ∃ r : Nat, m % 10 = r := ⟨_, rfl⟩
      obtain ⟨q, hq⟩ : ∃ q : Nat, m / 10 = q := ⟨_, rfl⟩
      have hr0 : ((m : Int)).tmod 10 = (r : Int) := by rw [← hr]; exact (Int.ofNat_tmod m 10).symm
      have hr1 : ((m : Int)) % 10 = (r : Int) := by rw [← hr]; simp
      have hq0 : ((m : Int)).tdiv 10 = (q : Int) := by rw [← hq]; exact (Int.ofNat_tdiv m 10).symm
      have hq1 : ((m : Int)) / 10 = (q : Int) := by rw [← hq]; simp
      have hst : Lib.decDigits n = Lib.decDigits q ++ ([UInt8.ofNat (48 + r)] ++ O) := by rw [hx.out, dig_step hm, hr, hq]; simp
      have hby := dg_nat (r := r) (by omega)
      have hcv := conv_new (b := UInt8.ofNat (48 + r)) (heap_alloc_new wr (.cells #[.int .u8 (((UInt8.ofNat (48 + r)).toNat : Nat) : Int)] 5))
      rw [hby] at hcv
      have hadd := str_add Tryd.prog [UInt8.ofNat (48 + r)] O (by simp) (by omega)
      have hw1 := IntWalk.i64_in (48 + ((r : Nat) : Int)) (by omega)
      have hw2 : IntKind.u8.wrap (48 + ((r : Nat) : Int)) = 48 + ((r : Nat) : Int) := IntWalk.u8_in _ (by omega)
      obtain ⟨b, hb⟩ : ∃ b, UInt8.ofNat (48 + r) = b := ⟨_, rfl⟩
      rw [hb] at hcv hadd hst
      have hZl : ([b] ++ O).length + q ≤ n := by simp; omega
      obtain ⟨Z, hZ⟩ : ∃ Z, [b] ++ O = Z := ⟨_, rfl⟩
      rw [hZ] at hadd hst hZl
      have hqm : q < m := by omega
      have HST := Lib.hid hst
      have HBY := Lib.hid hby
      have HB := Lib.hid hb
      have HZ := Lib.hid hZ
      have HR := Lib.hid hr
      have HQ := Lib.hid hq
      have HZL := Lib.hid hZl
      clear hst hby hb hZ hr hq hZl
      go_wp2
      go_roundw
      case rel => exact ⟨q, Z, rfl, rfl, HZL.out, HST.out, bw_trans hbw (bw_alloc _ _)⟩
      case measure => simp [intOf]; omega
theorem join_snoc (l : List (List UInt8)) (x sep : List UInt8) : Lib.join (l ++ [x]) sep = if l = [] then x else Lib.join l sep ++ sep ++ x := by
  cases l with
  | nil => simp [Lib.join_one]
  | cons a r =>
    rw [List.cons_append, Lib.join_cons, Lib.join_cons, if_neg (by simp)]
    simp [Lib.joinTail]
theorem str_addL (P : Program) (a b : List UInt8) (ha : a.length ≤ 100000) (hb : b.length ≤ 100000) (W : World) : (Op.stringOp .add ⟨a.toArray⟩ ⟨b.toArray⟩).run P W = .ok (.string ⟨(a ++ b).toArray⟩) W := run_string_add_lists W a b (by omega) (by omega)
set_option maxRecDepth 100000 in
set_option maxHeartbeats 3200000 in
theorem fj_spec {w : World} {v : Value} {js : List Jb} (hj : SJ w v js) : Calls Tryd.prog 17 #[v] w fun e w' => e = .returned (sB (fjB js)) ∧ Bw w w' := by
  obtain ⟨⟨ao, c, rfl, hjr, _⟩, hjn⟩ := hj
  have HJR := Lib.hid hjr
  clear hjr
  go_enter Tryd.func17, Tryd.ntmps17
  go_wp2
  go_loopw [3, 4] (fun o i wr => ∃ (k : Nat) (O : List UInt8), k ≤ js.length ∧ k ≤ 60 ∧ i = .int .i64 k ∧ o = sB O ∧ O.length ≤ 70 * k ∧ Hid (O = Lib.join ((js.map jobT).take k) [32]) ∧ Hid (∀ j ∈ js.take k, tellB j = true) ∧ Hid (60 < js.length → k = 0) ∧ Bw w wr) (fun _ i _ => js.length - (intOf i).toNat)
  case atStart => exact ⟨0, [], Nat.zero_le _, Nat.zero_le _, rfl, rfl, Nat.zero_le _, by show _ = _; simp [Lib.join_nil], fun j hj => by simp at hj, fun _ => rfl, Bw.refl _⟩
  case round =>
    obtain ⟨k, O, hk, hk60, rfl, rfl, hOl, hO, hg, h60, hbw⟩ := hrel
    by_cases hlt : k < js.length
    · have hd1 : decide ((k : Int) < (js.length : Int)) = true := decide_eq_true (by omega)
      by_cases hl : js.length ≤ 60
      · have hd2 : decide ((js.length : Int) ≤ 60) = true := decide_eq_true (by omega)
        obtain ⟨⟨x, y, z⟩, b, off, hjk, hao, hbs, c0, c1, c2⟩ := HJR.out.get hbw hlt
        subst hao
        dsimp only at c0 c1 c2
        go_wp2_with fail
        refine (l6Text_any x y z _).mono ?_
        rintro e w5 ⟨rfl, hb5⟩
        have hbw5 := bw_trans hbw hb5
        cases htl : tellB ⟨x, y, z⟩ with
        | false =>
          have hbad : fjB js = [] := by rw [fjB, told_no hjk htl]; rfl
          have HBAD := Lib.hid hbad
          have HJK := Lib.hid hjk
          clear hbad hjk
          go_wp2
          go_ret
          exact ⟨by rw [HBAD.out]; rfl, hbw5⟩
        | true =>
          have hgn : ∀ j ∈ js.take (k + 1), tellB j = true := fun j hj => by
            rw [List.take_add_one, hjk] at hj
            rcases List.mem_append.1 hj with hj | hj
            · exact hg.out j hj
            · simp at hj; subst hj; exact htl
          have hjt : (js.map jobT).take (k + 1) = (js.map jobT).take k ++ [Lib.itoa x ++ [64] ++ Lib.itoa y ++ [58] ++ Lib.itoa z] := by rw [List.take_add_one, List.getElem?_map, hjk]; rfl
          have hjo : Lib.join ((js.map jobT).take (k + 1)) [32] = if (js.map jobT).take k = [] then Lib.itoa x ++ [64] ++ Lib.itoa y ++ [58] ++ Lib.itoa z else Lib.join ((js.map jobT).take k) [32] ++ [32] ++ (Lib.itoa x ++ [64] ++ Lib.itoa y ++ [58] ++ Lib.itoa z) := by rw [hjt, join_snoc]
          rw [← hO.out] at hjo
          simp only [tellB, decide_eq_true_eq] at htl
          have hX := Lib.itoa_length_le x (by omega) (by omega)
          have hY := Lib.itoa_length_le y (by omega) (by omega)
          have hZ := Lib.itoa_length_le z (by omega) (by omega)
          obtain ⟨x', rfl⟩ := Int.eq_ofNat_of_zero_le (show 0 ≤ x by omega)
          obtain ⟨y', rfl⟩ := Int.eq_ofNat_of_zero_le (show 0 ≤ y by omega)
          obtain ⟨z', rfl⟩ := Int.eq_ofNat_of_zero_le (show 0 ≤ z by omega)
          have ca := dec_any x' (by omega)
          have cb := dec_any y' (by omega)
          have cc := dec_any z' (by omega)
          obtain ⟨X, eX⟩ : ∃ X, Lib.itoa (x' : Int) = X := ⟨_, rfl⟩
          obtain ⟨Y, eY⟩ : ∃ Y, Lib.itoa (y' : Int) = Y := ⟨_, rfl⟩
          obtain ⟨Z, eZ⟩ : ∃ Z, Lib.itoa (z' : Int) = Z := ⟨_, rfl⟩
          rw [eX] at hX ca hjo
          rw [eY] at hY cb hjo
          rw [eZ] at hZ cc hjo
          have CA := Lib.hid ca
          have CB := Lib.hid cb
          have CC := Lib.hid cc
          have q0 := cell_bw hb5 c0
          have q1 := cell_bw hb5 c1
          have q2 := cell_bw hb5 c2
          have k0 := fun d os => cell_regrown q0 d os
          have k1 := fun d os => cell_regrown q1 d os
          have k2 := fun d os => cell_regrown q2 d os
          have HGN := Lib.hid hgn
          have HJO := Lib.hid hjo
          have HTL := Lib.hid htl
          have HJK := Lib.hid hjk
          clear hgn hjo htl hjk
          clear ca cb cc hjt eX eY eZ c0 c1 c2 q0 q1 q2
          by_cases hk0 : k = 0
          · have d3 : decide (0 < (k : Int)) = false := decide_eq_false (by omega)
            have d3n : ¬ (0 < k) := by omega
            have d3m : decide (0 < k) = false := decide_eq_false d3n
            have hO0 : O = [] := by rw [hO.out, hk0]; simp [Lib.join_nil]
            have hPl : O.length ≤ 70 * k + 1 := by omega
            have add1 := str_addL Tryd.prog O X (by omega) (by omega)
            have l1 : (O ++ X).length ≤ 70 * k + 22 := by simp; omega
            obtain ⟨T1, e1⟩ : ∃ T, O ++ X = T := ⟨_, rfl⟩
            rw [e1] at add1 l1
            have add2 := str_addL Tryd.prog T1 [64] (by omega) (by simp)
            have l2 : (T1 ++ [64]).length ≤ 70 * k + 23 := by simp; omega
            obtain ⟨T2, e2⟩ : ∃ T, T1 ++ [64] = T := ⟨_, rfl⟩
            rw [e2] at add2 l2
            have add3 := str_addL Tryd.prog T2 Y (by omega) (by omega)
            have l3 : (T2 ++ Y).length ≤ 70 * k + 44 := by simp; omega
            obtain ⟨T3, e3⟩ : ∃ T, T2 ++ Y = T := ⟨_, rfl⟩
            rw [e3] at add3 l3
            have add4 := str_addL Tryd.prog T3 [58] (by omega) (by simp)
            have l4 : (T3 ++ [58]).length ≤ 70 * k + 45 := by simp; omega
            obtain ⟨T4, e4⟩ : ∃ T, T3 ++ [58] = T := ⟨_, rfl⟩
            rw [e4] at add4 l4
            have add5 := str_addL Tryd.prog T4 Z (by omega) (by omega)
            have l5 : (T4 ++ Z).length ≤ 70 * k + 66 := by simp; omega
            obtain ⟨T5, e5⟩ : ∃ T, T4 ++ Z = T := ⟨_, rfl⟩
            rw [e5] at add5 l5
            have hT5 : T5 = O ++ (X ++ [64] ++ Y ++ [58] ++ Z) := by rw [← e5, ← e4, ← e3, ← e2, ← e1]; simp
            have L1 := Lib.hid l1
            have L2 := Lib.hid l2
            have L3 := Lib.hid l3
            have L4 := Lib.hid l4
            have L5 := Lib.hid l5
            have E1 := Lib.hid e1
            have E2 := Lib.hid e2
            have E3 := Lib.hid e3
            have E4 := Lib.hid e4
            have E5 := Lib.hid e5
            have HT5 := Lib.hid hT5
            clear l1 l2 l3 l4 l5 e1 e2 e3 e4 e5 hT5
            have hnew : T5 = Lib.join ((js.map jobT).take (k + 1)) [32] := by rw [HT5.out, HJO.out, if_pos (by rw [hk0]; rfl), hO0]; simp
            have HNEW := Lib.hid hnew
            have HO0 := Lib.hid hO0
            have HPL := Lib.hid hPl
            have HK0 := Lib.hid hk0
            clear hnew hO0 hPl hk0
            go_wp2_with fail
            refine wp_region_quiet_below (by kernel_rfl) (by kernel_rfl) ?_
            repeat (go_big_quiet_step ((go_at_call 36; first | with_reducible exact Calls.regrown_of (CA.out _) | with_reducible exact Calls.regrown_of (CB.out _) | with_reducible exact Calls.regrown_of (CC.out _))))
            refine wpQuiet_nil ?_
            intro wq hw'
            have hbq := bw_of_ex hw'
            clear hw'
            go_wp2
            go_roundw
            case rel => exact ⟨k + 1, T5, by omega, by omega, by go_num, rfl, by have := L5.out; omega, HNEW.out, HGN.out, by show _ → _; intro h; omega, bw_trans hbw5 hbq⟩
            case measure => simp [intOf]; omega
          · have d3 : decide (0 < (k : Int)) = true := decide_eq_true (by omega)
            have d3n : 0 < k := by omega
            have d3m : decide (0 < k) = true := decide_eq_true d3n
            have add0 := str_addL Tryd.prog O [32] (by omega) (by simp)
            have hPl : (O ++ [32]).length ≤ 70 * k + 1 := by simp; omega
            have hPe : O ++ [32] = O ++ [32] := rfl
            obtain ⟨P, eP⟩ : ∃ P, O ++ [32] = P := ⟨_, rfl⟩
            rw [eP] at add0 hPl
            have hne : ¬ (js.map jobT).take k = [] := fun h => by
              have := congrArg List.length h
              rw [List.length_take, List.length_map, List.length_nil] at this
              omega
            have add1 := str_addL Tryd.prog P X (by omega) (by omega)
            have l1 : (P ++ X).length ≤ 70 * k + 22 := by simp; omega
            obtain ⟨T1, e1⟩ : ∃ T, P ++ X = T := ⟨_, rfl⟩
            rw [e1] at add1 l1
            have add2 := str_addL Tryd.prog T1 [64] (by omega) (by simp)
            have l2 : (T1 ++ [64]).length ≤ 70 * k + 23 := by simp; omega
            obtain ⟨T2, e2⟩ : ∃ T, T1 ++ [64] = T := ⟨_, rfl⟩
            rw [e2] at add2 l2
            have add3 := str_addL Tryd.prog T2 Y (by omega) (by omega)
            have l3 : (T2 ++ Y).length ≤ 70 * k + 44 := by simp; omega
            obtain ⟨T3, e3⟩ : ∃ T, T2 ++ Y = T := ⟨_, rfl⟩
            rw [e3] at add3 l3
            have add4 := str_addL Tryd.prog T3 [58] (by omega) (by simp)
            have l4 : (T3 ++ [58]).length ≤ 70 * k + 45 := by simp; omega
            obtain ⟨T4, e4⟩ : ∃ T, T3 ++ [58] = T := ⟨_, rfl⟩
            rw [e4] at add4 l4
            have add5 := str_addL Tryd.prog T4 Z (by omega) (by omega)
            have l5 : (T4 ++ Z).length ≤ 70 * k + 66 := by simp; omega
            obtain ⟨T5, e5⟩ : ∃ T, T4 ++ Z = T := ⟨_, rfl⟩
            rw [e5] at add5 l5
            have hT5 : T5 = P ++ (X ++ [64] ++ Y ++ [58] ++ Z) := by rw [← e5, ← e4, ← e3, ← e2, ← e1]; simp
            have L1 := Lib.hid l1
            have L2 := Lib.hid l2
            have L3 := Lib.hid l3
            have L4 := Lib.hid l4
            have L5 := Lib.hid l5
            have E1 := Lib.hid e1
            have E2 := Lib.hid e2
            have E3 := Lib.hid e3
            have E4 := Lib.hid e4
            have E5 := Lib.hid e5
            have HT5 := Lib.hid hT5
            clear l1 l2 l3 l4 l5 e1 e2 e3 e4 e5 hT5
            have hnew : T5 = Lib.join ((js.map jobT).take (k + 1)) [32] := by rw [HT5.out, HJO.out, if_neg hne, eP]
            have HNEW := Lib.hid hnew
            have HNE := Lib.hid hne
            have EP := Lib.hid eP
            have HPL := Lib.hid hPl
            have HPE := Lib.hid hPe
            clear hnew hne eP hPl hPe
            go_wp2_with fail
            refine wp_region_quiet_below (by kernel_rfl) (by kernel_rfl) ?_
            repeat (go_big_quiet_step ((go_at_call 36; first | with_reducible exact Calls.regrown_of (CA.out _) | with_reducible exact Calls.regrown_of (CB.out _) | with_reducible exact Calls.regrown_of (CC.out _))))
            refine wpQuiet_nil ?_
            intro wq hw'
            have hbq := bw_of_ex hw'
            clear hw'
            go_wp2
            go_roundw
            case rel => exact ⟨k + 1, T5, by omega, by omega, by go_num, rfl, by have := L5.out; omega, HNEW.out, HGN.out, by show _ → _; intro h; omega, bw_trans hbw5 hbq⟩
            case measure => simp [intOf]; omega
      · have hd2 : decide ((js.length : Int) ≤ 60) = false := decide_eq_false (by omega)
        obtain rfl : k = 0 := h60.out (by omega)
        have hO0 : O = [] := by rw [hO.out]; simp [Lib.join_nil]
        have hbad : fjB js = [] := by
          rw [fjB, if_neg]
          intro h
          exact hl (told_len h)
        subst hO0
        have HBAD := Lib.hid hbad
        have HL := Lib.hid hl
        clear hbad hl
        go_wp2
        go_ret
        exact ⟨by rw [HBAD.out]; rfl, hbw⟩
    · have hge : decide ((k : Int) < (js.length : Int)) = false := decide_eq_false (by omega)
      have hkl : k = js.length := by omega
      have hto : toldB js = true := by
        simp only [toldB, Bool.and_eq_true, List.all_eq_true, decide_eq_true_eq]
        refine ⟨fun j hj => hg.out j ?_, by omega⟩
        rw [List.take_of_length_le (by omega)]; exact hj
      have hgo : fjB js = O := by rw [fjB, if_pos hto, hO.out, List.take_of_length_le (by simp; omega)]
      have HGO := Lib.hid hgo
      have HTO := Lib.hid hto
      clear hgo hto
      go_wp2
      go_ret
      exact ⟨by rw [HGO.out]; rfl, hbw⟩
end Go.Proofs.YtnmpilmjkgdpgaaDoor
