/-
  The walk of the specification's l11Num.
-/
import Derived.Test.YtnmpilmjkgdpgaaDoorPc
namespace Go.Proofs.YtnmpilmjkgdpgaaDoor
open Go.RowKit

theorem str_tail (b : UInt8) (R : List UInt8) (W : World) : (Instr.slice 9 (.string ⟨(b :: R).toArray⟩) (some (.int .i64 1)) none none).run Tryd.prog W = .ok (sB R) W := by
  have hs : (⟨(b :: R).toArray⟩ : ByteArray).size = R.length + 1 := by show (b :: R).toArray.size = _; simp
  rw [run_slice_string_from_if _ _ _ _ _ Tryd.underlying9, if_pos (by omega), hs, Lib.extract_eq]
  simp
theorem from_none (N : Nat) (b : UInt8) (r : List UInt8) (h : b.toNat < 48 ∨ 57 < b.toNat) : Lib.decFrom N (b :: r) = none := by
  have : Lib.digitVal b = none := by unfold Lib.digitVal; rw [if_neg (by omega)]
  simp [Lib.decFrom, this]
theorem from_dig (N d : Nat) (b : UInt8) (r : List UInt8) (h : b.toNat = 48 + d) (hd : d ≤ 9) : Lib.decFrom N (b :: r) = Lib.decFrom (N * 10 + d) r := by
  have : Lib.digitVal b = some d := by unfold Lib.digitVal; rw [if_pos (by omega), h]; congr 1; omega
  simp [Lib.decFrom, this]
theorem numS_bad {s : List UInt8} {neg : Bool} (h : s = [] ∨ 17 < s.length ∨ (s.head? = some 48 ∧ (1 < s.length ∨ neg = true))) : numS s neg = (0, false) := by rw [numS, if_pos h]
theorem numS_none {s : List UInt8} {neg : Bool} (hd : Lib.decFrom 0 s = none) : numS s neg = (0, false) := by
  unfold numS
  split
  · rfl
  · rw [hd]
theorem numS_some {s : List UInt8} {neg : Bool} (h : ¬ (s = [] ∨ 17 < s.length ∨ (s.head? = some 48 ∧ (1 < s.length ∨ neg = true)))) {n : Nat} (hd : Lib.decFrom 0 s = some n) : numS s neg = (if neg then -(n : Int) else n, true) := by
  rw [numS, if_neg h, hd]
def numOk (s : List UInt8) (neg : Bool) : Prop := ¬ (s = [] ∨ 17 < s.length ∨ (s.head? = some 48 ∧ (1 < s.length ∨ neg = true)))
theorem numS_ok {s : List UInt8} {neg : Bool} (h : numOk s neg) {n : Nat} (hd : Lib.decFrom 0 s = some n) : numS s neg = (if neg then -(n : Int) else n, true) := numS_some h hd
/-- What l11Num hands back. -/
def NumR (w : World) (r : Int × Bool) (e : Ending) (w' : World) : Prop := e = .returned (.tuple #[.int .i64 r.1, .bool r.2]) ∧ Bw w w'
set_option maxRecDepth 100000 in
set_option maxHeartbeats 3200000 in
theorem l11Num_any (B : List UInt8) (w : World) : Calls Tryd.prog 38 #[sB B] w (NumR w (numB B)) := by
  cases hB : B with
  | nil =>
    go_enter Tryd.func38, Tryd.ntmps38
    go_wp2
    go_ret2
    exact ⟨rfl, Bw.refl _⟩
  | cons b R =>
    have hb : B[0]? = some b := by rw [hB]; rfl
    have hsz : (⟨B.toArray⟩ : ByteArray).size = R.length + 1 := by rw [hB]; show (b :: R).toArray.size = _; simp
    have hi0 : ∀ W, (Instr.index 9 (.string ⟨B.toArray⟩) (.int .i64 0)).run Tryd.prog W = .ok (.int .u8 (b.toNat : Int)) W := str_idxP hb
    by_cases h45 : b = 45
    · have e0 : ((b.toNat : Int) == 45) = true := by rw [h45]; rfl
      have htl : ∀ W, (Instr.slice 9 (.string ⟨B.toArray⟩) (some (.int .i64 1)) none none).run Tryd.prog W = .ok (sB R) W := by rw [hB]; exact str_tail b R
      obtain ⟨S, hS⟩ : ∃ S, R = S := ⟨_, rfl⟩
      have hs0 := sB_size S
      have hs1 : S.toArray.size = S.length := by simp
      have HQ := Lib.hid (show numB (b :: R) = numS S true by rw [h45, numB_neg, hS])
      rw [hS] at htl hsz
      rw [← hB] at HQ ⊢
      have HB := Lib.hid hb
      have HB := Lib.hid hB
      have H45 := Lib.hid h45
      have HS := Lib.hid hS
      clear hb hB h45 hS
      go_enter Tryd.func38, Tryd.ntmps38
      have hl0 : (S.length : Int) = 0 ∨ 1 ≤ S.length := by omega
      by_cases h17 : 17 < S.length
      · have d1 : ((S.length : Int) == 0) = false := by rw [beq_eq_false_iff_ne]; omega
        have d2 : decide (17 < (S.length : Int)) = true := decide_eq_true (by omega)
        have HR := Lib.hid (show numS S true = (0, false) from numS_bad (.inr (.inl h17)))
        clear hl0
        go_wp2
        go_ret2
        exact ⟨by rw [HQ.out, HR.out]; rfl, Bw.refl _⟩
      · have d2 : decide (17 < (S.length : Int)) = false := decide_eq_false (by omega)
        clear hl0
        by_cases hSn : S = []
        · subst hSn
          have HR := Lib.hid (show numS [] true = (0, false) from rfl)
          go_wp2
          go_ret2
          exact ⟨by rw [HQ.out, HR.out]; rfl, Bw.refl _⟩
        · obtain ⟨h0, S0, hS⟩ := List.exists_cons_of_ne_nil hSn
          have hh : S[0]? = some h0 := by rw [hS]; rfl
          have hhd : S.head? = some h0 := by rw [hS]; rfl
          skip
          have hSl : 1 ≤ S.length := by rw [hS]; simp
          have d1 : ((S.length : Int) == 0) = false := by rw [beq_eq_false_iff_ne]; omega
          have hi0 : ∀ W, (Instr.index 9 (.string ⟨S.toArray⟩) (.int .i64 0)).run Tryd.prog W = .ok (.int .u8 (h0.toNat : Int)) W := str_idxP hh
          by_cases h48 : h0 = 48
          · have e3 : ((h0.toNat : Int) == 48) = true := by rw [h48]; rfl
            by_cases hlo : 1 < S.length ∨ true = true
            · have HR := Lib.hid (show numS S true = (0, false) from numS_bad (.inr (.inr ⟨by rw [hhd, h48], hlo⟩)))
              skip
              have HH := Lib.hid hh
              have HHD := Lib.hid hhd
              have HS := Lib.hid hS
              have H48 := Lib.hid h48
              have HLO := Lib.hid hlo
              clear hh hhd hS h48 hlo
              clear hSn
              go_wp2
              all_goals
                go_ret2
                exact ⟨by rw [HQ.out, HR.out]; rfl, Bw.refl _⟩
            · exact absurd (.inr rfl) hlo
          · have e3 : ((h0.toNat : Int) == 48) = false := by
              rw [beq_eq_false_iff_ne]
              intro h
              exact h48 (UInt8.toNat_inj.1 (by rw [show (48 : UInt8).toNat = 48 from rfl]; omega))
            have hgo : numOk S true := by
              rintro (h1 | h1 | ⟨h1, _⟩)
              · exact hSn h1
              · exact h17 h1
              · rw [hhd] at h1; exact h48 (Option.some.inj h1)
            have HGO := Lib.hid hgo
            have HH := Lib.hid hh
            have HHD := Lib.hid hhd
            have HS := Lib.hid hS
            have H48 := Lib.hid h48
            clear hgo hh hhd hS h48
            clear hSn
            go_wp2
            go_loopw [5, 6] (fun n i wr => ∃ (k N : Nat), k ≤ S.length ∧ i = .int .i64 k ∧ n = .int .i64 (N : Int) ∧ Hid (N < 10 ^ k) ∧ Hid (Lib.decFrom 0 S = Lib.decFrom N (S.drop k)) ∧ Bw w wr) (fun _ i _ => S.length - (intOf i).toNat)
            case atStart => exact ⟨0, 0, Nat.zero_le _, rfl, rfl, by show 0 < 10 ^ 0; decide, by show _ = _; simp, Bw.refl _⟩
            case round =>
              obtain ⟨k, N, hk, rfl, rfl, hN, hx, hbw⟩ := hrel
              clear d1 d2
              have hN17 := pow_le17 hN.out (by omega)
              by_cases hlt : k < S.length
              · obtain ⟨b, hb⟩ := getSome hlt
                have hix := str_idxP hb
                have hst : Lib.decFrom 0 S = Lib.decFrom N (b :: S.drop (k + 1)) := by rw [hx.out, drop_cons hb]
                by_cases hb0 : b.toNat < 48
                · have e1 : decide ((b.toNat : Int) < 48) = true := decide_eq_true (by omega)
                  have HR := Lib.hid (show numS S true = (0, false) from numS_none (by rw [hst, from_none _ _ _ (by omega)]))
                  have HST := Lib.hid hst
                  have HB := Lib.hid hb
                  clear hst hb
                  go_wp2
                  go_ret2
                  exact ⟨by rw [HQ.out, HR.out]; rfl, hbw⟩
                · by_cases hb9 : 57 < b.toNat
                  · have e1 : decide ((b.toNat : Int) < 48) = false := decide_eq_false (by omega)
                    have e2 : decide (57 < (b.toNat : Int)) = true := decide_eq_true (by omega)
                    have HR := Lib.hid (show numS S true = (0, false) from numS_none (by rw [hst, from_none _ _ _ (by omega)]))
                    have HST := Lib.hid hst
                    have HB := Lib.hid hb
                    clear hst hb
                    go_wp2
                    go_ret2
                    exact ⟨by rw [HQ.out, HR.out]; rfl, hbw⟩
                  · obtain ⟨d, hd⟩ : ∃ d : Nat, b.toNat = 48 + d := ⟨b.toNat - 48, by omega⟩
                    have hd9 : d ≤ 9 := by omega
                    have hby : (b.toNat : Int) = 48 + (d : Int) := by omega
                    rw [hby] at hix
                    have e1 : decide (48 + (d : Int) < 48) = false := decide_eq_false (by omega)
                    have e2 : decide (57 < 48 + (d : Int)) = false := decide_eq_false (by omega)
                    have hwa : IntKind.u8.wrap (48 + (d : Int) - 48) = (d : Int) := by rw [IntWalk.u8_in _ (by omega)]; omega
                    have hwb : IntKind.u8.wrap (d : Int) = (d : Int) := IntWalk.u8_in _ (by omega)
                    have hwc : IntKind.i64.wrap (d : Int) = (d : Int) := IntWalk.i64_in _ (by omega)
                    have hwm : IntKind.i64.wrap ((N : Int) * 10) = (N : Int) * 10 := IntWalk.i64_in _ (by omega)
                    have hws : IntKind.i64.wrap ((N : Int) * 10 + (d : Int)) = (N : Int) * 10 + (d : Int) := IntWalk.i64_in _ (by omega)
                    have HN2 := Lib.hid (pow_step hN.out d hd9)
                    have HX2 := Lib.hid (show Lib.decFrom 0 S = Lib.decFrom (N * 10 + d) (S.drop (k + 1)) by rw [hst, from_dig _ _ _ _ hd hd9])
                    have HST := Lib.hid hst
                    have HB := Lib.hid hb
                    have HBY := Lib.hid hby
                    have HD := Lib.hid hd
                    clear hst hb hby hd
                    clear hb0 hb9
                    go_wp2
                    go_roundw
                    case rel => exact ⟨k + 1, N * 10 + d, by omega, by go_num, by go_num, HN2.out, HX2.out, hbw⟩
                    case measure => simp [intOf]; omega
              · have hge : decide ((k : Int) < (S.length : Int)) = false := decide_eq_false (by omega)
                have hfin : Lib.decFrom 0 S = some N := by rw [hx.out, drop_end hlt]; rfl
                have HR := Lib.hid (show numS S true = (-(N : Int), true) from numS_ok HGO.out hfin)
                have hwn : IntKind.i64.wrap (-(N : Int)) = -(N : Int) := IntWalk.i64_in _ (by omega)
                have HFIN := Lib.hid hfin
                clear hfin
                go_wp2
                go_ret2
                exact ⟨by rw [HQ.out, HR.out]; rfl, hbw⟩
    · have e0 : ((b.toNat : Int) == 45) = false := by
        rw [beq_eq_false_iff_ne]
        intro h
        exact h45 (UInt8.toNat_inj.1 (by rw [show (45 : UInt8).toNat = 45 from rfl]; omega))
      have HQ := Lib.hid (show numB B = numS B false from numB_pos (by rw [hB]; intro h; exact h45 (Option.some.inj h)))
      rw [← hB]
      obtain ⟨S, hS⟩ : ∃ S, B = S := ⟨_, rfl⟩
      have HBS := Lib.hid (show S[0]? = some b by rw [← hS]; exact hb)
      have hs0 := sB_size S
      have hs1 : S.toArray.size = S.length := by simp
      have hS1 : 1 ≤ S.length := by rw [← hS, hB]; simp
      have d0 : decide (0 < (S.length : Int)) = true := decide_eq_true (by omega)
      have d0n : 0 < S.length := by omega
      have d0m : decide (0 < S.length) = true := decide_eq_true d0n
      clear hsz
      rw [hS] at HQ hi0 ⊢
      have HB := Lib.hid hb
      have HB := Lib.hid hB
      have H45 := Lib.hid h45
      have HS := Lib.hid hS
      clear hb hB h45 hS
      go_enter Tryd.func38, Tryd.ntmps38
      have hl0 : (S.length : Int) = 0 ∨ 1 ≤ S.length := by omega
      by_cases h17 : 17 < S.length
      · have d1 : ((S.length : Int) == 0) = false := by rw [beq_eq_false_iff_ne]; omega
        have d2 : decide (17 < (S.length : Int)) = true := decide_eq_true (by omega)
        have HR := Lib.hid (show numS S false = (0, false) from numS_bad (.inr (.inl h17)))
        clear hl0
        go_wp2
        go_ret2
        exact ⟨by rw [HQ.out, HR.out]; rfl, Bw.refl _⟩
      · have d2 : decide (17 < (S.length : Int)) = false := decide_eq_false (by omega)
        clear hl0
        by_cases hSn : S = []
        · rw [hSn] at hS1
          simp at hS1
        · obtain ⟨h0, S0, hS⟩ := List.exists_cons_of_ne_nil hSn
          have hh : S[0]? = some h0 := by rw [hS]; rfl
          have hhd : S.head? = some h0 := by rw [hS]; rfl
          have hbe : b = h0 := by have h := HBS.out; rw [hh] at h; exact (Option.some.inj h).symm
          rw [hbe] at e0
          clear hi0 hbe
          have hSl : 1 ≤ S.length := by rw [hS]; simp
          have d1 : ((S.length : Int) == 0) = false := by rw [beq_eq_false_iff_ne]; omega
          have hi0 : ∀ W, (Instr.index 9 (.string ⟨S.toArray⟩) (.int .i64 0)).run Tryd.prog W = .ok (.int .u8 (h0.toNat : Int)) W := str_idxP hh
          by_cases h48 : h0 = 48
          · have e3 : ((h0.toNat : Int) == 48) = true := by rw [h48]; rfl
            by_cases hlo : 1 < S.length ∨ false = true
            · have HR := Lib.hid (show numS S false = (0, false) from numS_bad (.inr (.inr ⟨by rw [hhd, h48], hlo⟩)))
              have e4 : decide (1 < (S.length : Int)) = true := decide_eq_true (by simp at hlo; omega); have e4n : 1 < S.length := (by simp at hlo; omega); have e4m : decide (1 < S.length) = true := decide_eq_true e4n
              have HH := Lib.hid hh
              have HHD := Lib.hid hhd
              have HS := Lib.hid hS
              have H48 := Lib.hid h48
              have HLO := Lib.hid hlo
              clear hh hhd hS h48 hlo
              clear hSn
              go_wp2
              all_goals
                go_ret2
                exact ⟨by rw [HQ.out, HR.out]; rfl, Bw.refl _⟩
            · have hgo : numOk S false := by
                rintro (h1 | h1 | ⟨_, h1⟩)
                · exact hSn h1
                · exact h17 h1
                · exact hlo h1
              have e4 : decide (1 < (S.length : Int)) = false := decide_eq_false (by omega)
              have e4n : ¬ 1 < S.length := by omega
              have e4m : decide (1 < S.length) = false := decide_eq_false e4n
              have HGO := Lib.hid hgo
              have HH := Lib.hid hh
              have HHD := Lib.hid hhd
              have HS := Lib.hid hS
              have H48 := Lib.hid h48
              have HLO := Lib.hid hlo
              clear hgo hh hhd hS h48 hlo
              clear hSn
              go_wp2
              go_loopw [5, 6] (fun n i wr => ∃ (k N : Nat), k ≤ S.length ∧ i = .int .i64 k ∧ n = .int .i64 (N : Int) ∧ Hid (N < 10 ^ k) ∧ Hid (Lib.decFrom 0 S = Lib.decFrom N (S.drop k)) ∧ Bw w wr) (fun _ i _ => S.length - (intOf i).toNat)
              case atStart => exact ⟨0, 0, Nat.zero_le _, rfl, rfl, by show 0 < 10 ^ 0; decide, by show _ = _; simp, Bw.refl _⟩
              case round =>
                obtain ⟨k, N, hk, rfl, rfl, hN, hx, hbw⟩ := hrel
                clear d1 d2
                have hN17 := pow_le17 hN.out (by omega)
                by_cases hlt : k < S.length
                · obtain ⟨b, hb⟩ := getSome hlt
                  have hix := str_idxP hb
                  have hst : Lib.decFrom 0 S = Lib.decFrom N (b :: S.drop (k + 1)) := by rw [hx.out, drop_cons hb]
                  by_cases hb0 : b.toNat < 48
                  · have e1 : decide ((b.toNat : Int) < 48) = true := decide_eq_true (by omega)
                    have HR := Lib.hid (show numS S false = (0, false) from numS_none (by rw [hst, from_none _ _ _ (by omega)]))
                    have HST := Lib.hid hst
                    have HB := Lib.hid hb
                    clear hst hb
                    go_wp2
                    go_ret2
                    exact ⟨by rw [HQ.out, HR.out]; rfl, hbw⟩
                  · by_cases hb9 : 57 < b.toNat
                    · have e1 : decide ((b.toNat : Int) < 48) = false := decide_eq_false (by omega)
                      have e2 : decide (57 < (b.toNat : Int)) = true := decide_eq_true (by omega)
                      have HR := Lib.hid (show numS S false = (0, false) from numS_none (by rw [hst, from_none _ _ _ (by omega)]))
                      have HST := Lib.hid hst
                      have HB := Lib.hid hb
                      clear hst hb
                      go_wp2
                      go_ret2
                      exact ⟨by rw [HQ.out, HR.out]; rfl, hbw⟩
                    · obtain ⟨d, hd⟩ : ∃ d : Nat, b.toNat = 48 + d := ⟨b.toNat - 48, by omega⟩
                      have hd9 : d ≤ 9 := by omega
                      have hby : (b.toNat : Int) = 48 + (d : Int) := by omega
                      rw [hby] at hix
                      have e1 : decide (48 + (d : Int) < 48) = false := decide_eq_false (by omega)
                      have e2 : decide (57 < 48 + (d : Int)) = false := decide_eq_false (by omega)
                      have hwa : IntKind.u8.wrap (48 + (d : Int) - 48) = (d : Int) := by rw [IntWalk.u8_in _ (by omega)]; omega
                      have hwb : IntKind.u8.wrap (d : Int) = (d : Int) := IntWalk.u8_in _ (by omega)
                      have hwc : IntKind.i64.wrap (d : Int) = (d : Int) := IntWalk.i64_in _ (by omega)
                      have hwm : IntKind.i64.wrap ((N : Int) * 10) = (N : Int) * 10 := IntWalk.i64_in _ (by omega)
                      have hws : IntKind.i64.wrap ((N : Int) * 10 + (d : Int)) = (N : Int) * 10 + (d : Int) := IntWalk.i64_in _ (by omega)
                      have HN2 := Lib.hid (pow_step hN.out d hd9)
                      have HX2 := Lib.hid (show Lib.decFrom 0 S = Lib.decFrom (N * 10 + d) (S.drop (k + 1)) by rw [hst, from_dig _ _ _ _ hd hd9])
                      have HST := Lib.hid hst
                      have HB := Lib.hid hb
                      have HBY := Lib.hid hby
                      have HD := Lib.hid hd
                      clear hst hb hby hd
                      clear hb0 hb9
                      go_wp2
                      go_roundw
                      case rel => exact ⟨k + 1, N * 10 + d, by omega, by go_num, by go_num, HN2.out, HX2.out, hbw⟩
                      case measure => simp [intOf]; omega
                · have hge : decide ((k : Int) < (S.length : Int)) = false := decide_eq_false (by omega)
                  have hfin : Lib.decFrom 0 S = some N := by rw [hx.out, drop_end hlt]; rfl
                  have HR := Lib.hid (show numS S false = ((N : Int), true) from numS_ok HGO.out hfin)
                  have hwn : IntKind.i64.wrap (-(N : Int)) = -(N : Int) := IntWalk.i64_in _ (by omega)
                  have HFIN := Lib.hid hfin
                  clear hfin
                  go_wp2
                  go_ret2
                  exact ⟨by rw [HQ.out, HR.out]; rfl, hbw⟩
          · have e3 : ((h0.toNat : Int) == 48) = false := by
              rw [beq_eq_false_iff_ne]
              intro h
              exact h48 (UInt8.toNat_inj.1 (by rw [show (48 : UInt8).toNat = 48 from rfl]; omega))
            have hgo : numOk S false := by
              rintro (h1 | h1 | ⟨h1, _⟩)
              · exact hSn h1
              · exact h17 h1
              · rw [hhd] at h1; exact h48 (Option.some.inj h1)
            have HGO := Lib.hid hgo
            have HH := Lib.hid hh
            have HHD := Lib.hid hhd
            have HS := Lib.hid hS
            have H48 := Lib.hid h48
            clear hgo hh hhd hS h48
            clear hSn
            go_wp2
            go_loopw [5, 6] (fun n i wr => ∃ (k N : Nat), k ≤ S.length ∧ i = .int .i64 k ∧ n = .int .i64 (N : Int) ∧ Hid (N < 10 ^ k) ∧ Hid (Lib.decFrom 0 S = Lib.decFrom N (S.drop k)) ∧ Bw w wr) (fun _ i _ => S.length - (intOf i).toNat)
            case atStart => exact ⟨0, 0, Nat.zero_le _, rfl, rfl, by show 0 < 10 ^ 0; decide, by show _ = _; simp, Bw.refl _⟩
            case round =>
              obtain ⟨k, N, hk, rfl, rfl, hN, hx, hbw⟩ := hrel
              clear d1 d2
              have hN17 := pow_le17 hN.out (by omega)
              by_cases hlt : k < S.length
              · obtain ⟨b, hb⟩ := getSome hlt
                have hix := str_idxP hb
                have hst : Lib.decFrom 0 S = Lib.decFrom N (b :: S.drop (k + 1)) := by rw [hx.out, drop_cons hb]
                by_cases hb0 : b.toNat < 48
                · have e1 : decide ((b.toNat : Int) < 48) = true := decide_eq_true (by omega)
                  have HR := Lib.hid (show numS S false = (0, false) from numS_none (by rw [hst, from_none _ _ _ (by omega)]))
                  have HST := Lib.hid hst
                  have HB := Lib.hid hb
                  clear hst hb
                  go_wp2
                  go_ret2
                  exact ⟨by rw [HQ.out, HR.out]; rfl, hbw⟩
                · by_cases hb9 : 57 < b.toNat
                  · have e1 : decide ((b.toNat : Int) < 48) = false := decide_eq_false (by omega)
                    have e2 : decide (57 < (b.toNat : Int)) = true := decide_eq_true (by omega)
                    have HR := Lib.hid (show numS S false = (0, false) from numS_none (by rw [hst, from_none _ _ _ (by omega)]))
                    have HST := Lib.hid hst
                    have HB := Lib.hid hb
                    clear hst hb
                    go_wp2
                    go_ret2
                    exact ⟨by rw [HQ.out, HR.out]; rfl, hbw⟩
                  · obtain ⟨d, hd⟩ : ∃ d : Nat, b.toNat = 48 + d := ⟨b.toNat - 48, by omega⟩
                    have hd9 : d ≤ 9 := by omega
                    have hby : (b.toNat : Int) = 48 + (d : Int) := by omega
                    rw [hby] at hix
                    have e1 : decide (48 + (d : Int) < 48) = false := decide_eq_false (by omega)
                    have e2 : decide (57 < 48 + (d : Int)) = false := decide_eq_false (by omega)
                    have hwa : IntKind.u8.wrap (48 + (d : Int) - 48) = (d : Int) := by rw [IntWalk.u8_in _ (by omega)]; omega
                    have hwb : IntKind.u8.wrap (d : Int) = (d : Int) := IntWalk.u8_in _ (by omega)
                    have hwc : IntKind.i64.wrap (d : Int) = (d : Int) := IntWalk.i64_in _ (by omega)
                    have hwm : IntKind.i64.wrap ((N : Int) * 10) = (N : Int) * 10 := IntWalk.i64_in _ (by omega)
                    have hws : IntKind.i64.wrap ((N : Int) * 10 + (d : Int)) = (N : Int) * 10 + (d : Int) := IntWalk.i64_in _ (by omega)
                    have HN2 := Lib.hid (pow_step hN.out d hd9)
                    have HX2 := Lib.hid (show Lib.decFrom 0 S = Lib.decFrom (N * 10 + d) (S.drop (k + 1)) by rw [hst, from_dig _ _ _ _ hd hd9])
                    have HST := Lib.hid hst
                    have HB := Lib.hid hb
                    have HBY := Lib.hid hby
                    have HD := Lib.hid hd
                    clear hst hb hby hd
                    clear hb0 hb9
                    go_wp2
                    go_roundw
                    case rel => exact ⟨k + 1, N * 10 + d, by omega, by go_num, by go_num, HN2.out, HX2.out, hbw⟩
                    case measure => simp [intOf]; omega
              · have hge : decide ((k : Int) < (S.length : Int)) = false := decide_eq_false (by omega)
                have hfin : Lib.decFrom 0 S = some N := by rw [hx.out, drop_end hlt]; rfl
                have HR := Lib.hid (show numS S false = ((N : Int), true) from numS_ok HGO.out hfin)
                have hwn : IntKind.i64.wrap (-(N : Int)) = -(N : Int) := IntWalk.i64_in _ (by omega)
                have HFIN := Lib.hid hfin
                clear hfin
                go_wp2
                go_ret2
                exact ⟨by rw [HQ.out, HR.out]; rfl, hbw⟩
end Go.Proofs.YtnmpilmjkgdpgaaDoor
