import Derived.Test.YtaadlgpglfpmpaaDoorGA
import Derived.Test.YtaadlgpglfpmpaaDoorGC
import Derived.Test.YtaadlgpglfpmpaaDoorGB
import Derived.BigRegion
import Derived.Test.YtaadlgpglfpmpaaDoorRaise
import Derived.Test.YtaadlgpglfpmpaaDoorDm
import Derived.Deep.DeepCutAuto

/-
  The walks of the program's shares: the greatest common divisor, reduced fractions, sums, and the factor of virtual deadlines. Sets of at most 2^20 tasks.
-/




namespace Go.Proofs.YtaadlgpglfpmpaaDoor
open Go.RowKit

abbrev frV (a : Fr) : Value := .agg #[.int .i64 (a.p : Int), .int .i64 (a.q : Int)]
theorem tdivN (a b : Nat) : (a : Int).tdiv b = ((a / b : Nat) : Int) := (Int.ofNat_tdiv a b).symm
theorem edivN (a b : Nat) : (a : Int) / b = ((a / b : Nat) : Int) := by simp
theorem dr_set2 {w w' : World} {g : Nat} {a b : Value} (h : Bw w w') (hg : w.heap.size ≤ g) : Bw w ((w'.setCell ⟨g, 0, none⟩ a).setCell ⟨g, 1, none⟩ b) := bw_set (bw_set h hg _ _) hg _ _
theorem dr_set2d {w w' : World} {g : Nat} {a b : Value} (h : Bw w w') (hg : w.heap.size ≤ g) : Bw w ((w'.setCell ⟨g, 0, none⟩ a).setCell ⟨g, 1, none⟩ b).drew := bw_trans (dr_set2 h hg) (bw_drew _)
abbrev box2 : Obj := .cells #[.int .i64 0, .int .i64 0] 71

set_option maxHeartbeats 800000 in
theorem gcd_impl (P Q : Nat) (p q : Int) (hp : p = P) (hq : q = Q) (w : World) (hP : P ≤ 1000000000000000000) (hQ : Q ≤ 1000000000000000000) :
    Calls Tryd.prog 94 #[.int .i64 p, .int .i64 q] w fun e w' => e = .returned (.int .i64 (Nat.gcd P Q : Nat)) ∧ Bw w w' := by
  subst hp; subst hq
  go_enter Tryd.func94, Tryd.ntmps94
  go_wp2
  go_loopw [0, 1] (fun x y wr => ∃ m n : Nat, x = .int .i64 m ∧ y = .int .i64 n ∧ Hid (Nat.gcd m n = Nat.gcd P Q) ∧ m ≤ 1000000000000000000 ∧ n ≤ 1000000000000000000 ∧ Bw w wr) (fun _ y _ => (intOf y).toNat)
  case atStart => exact ⟨P, Q, rfl, rfl, rfl, hP, hQ, Bw.refl _⟩
  case round =>
    obtain ⟨m, n, rfl, rfl, hg, hm, hn, hbw⟩ := hrel
    rcases Nat.eq_zero_or_pos n with h0 | h0
    · subst h0
      have HF : Hid (m = Nat.gcd P Q) := by show _ = _; rw [← hg.out, Nat.gcd_zero_right]
      have hz : ((0 : Int) != 0) = false := rfl
      go_wp2
      go_ret
      exact ⟨ret_n HF.out, hbw⟩
    · have hne : ((n : Int) != 0) = true := by simp; omega
      have hnz : ¬ (n : Int) = 0 := by omega
      have hnz2 : ¬ n = 0 := by omega
      have k1 : (m : Int).tmod n = ((m % n : Nat) : Int) := (Int.ofNat_tmod m n).symm
      have k2 : (m : Int) % n = ((m % n : Nat) : Int) := by simp
      have hst : Nat.gcd n (m % n) = Nat.gcd P Q := by rw [← hg.out, Nat.gcd_comm m n, Nat.gcd_rec n m]; exact Nat.gcd_comm _ _
      have hlt := Nat.mod_lt m h0
      obtain ⟨r, hr⟩ : ∃ r, m % n = r := ⟨_, rfl⟩
      rw [hr] at k1 k2 hst hlt
      have hwr := IntWalk.i64_in (r : Int) (by omega)
      have HST := Lib.hid hst
      have HR := Lib.hid hr
      clear hst hr
      go_wp2_with fail
      go_quiet (fail)
      go_wp2
      go_roundw
      case rel => exact ⟨n, r, rfl, rfl, HST.out, by omega, by omega, blw_drewN hbw _⟩
      case measure => simp [intOf]; omega
set_option maxHeartbeats 800000 in
theorem gcd_spec (P Q : Nat) (p q : Int) (hp : p = P) (hq : q = Q) (w : World) (hP : P ≤ 1000000000000000000) (hQ : Q ≤ 1000000000000000000) :
    Calls Tryd.prog 102 #[.int .i64 p, .int .i64 q] w fun e w' => e = .returned (.int .i64 (Nat.gcd P Q : Nat)) ∧ Bw w w' := by
  subst hp; subst hq
  go_enter Tryd.func102, Tryd.ntmps102
  go_wp2
  go_loopw [0, 1] (fun x y wr => ∃ m n : Nat, x = .int .i64 m ∧ y = .int .i64 n ∧ Hid (Nat.gcd m n = Nat.gcd P Q) ∧ m ≤ 1000000000000000000 ∧ n ≤ 1000000000000000000 ∧ Bw w wr) (fun _ y _ => (intOf y).toNat)
  case atStart => exact ⟨P, Q, rfl, rfl, rfl, hP, hQ, Bw.refl _⟩
  case round =>
    obtain ⟨m, n, rfl, rfl, hg, hm, hn, hbw⟩ := hrel
    rcases Nat.eq_zero_or_pos n with h0 | h0
    · subst h0
      have HF : Hid (m = Nat.gcd P Q) := by show _ = _; rw [← hg.out, Nat.gcd_zero_right]
      have hz : ((0 : Int) != 0) = false := rfl
      go_wp2
      go_ret
      exact ⟨ret_n HF.out, hbw⟩
    · have hne : ((n : Int) != 0) = true := by simp; omega
      have hnz : ¬ (n : Int) = 0 := by omega
      have hnz2 : ¬ n = 0 := by omega
      have k1 : (m : Int).tmod n = ((m % n : Nat) : Int) := (Int.ofNat_tmod m n).symm
      have k2 : (m : Int) % n = ((m % n : Nat) : Int) := by simp
      have hst : Nat.gcd n (m % n) = Nat.gcd P Q := by rw [← hg.out, Nat.gcd_comm m n, Nat.gcd_rec n m]; exact Nat.gcd_comm _ _
      have hlt := Nat.mod_lt m h0
      obtain ⟨r, hr⟩ : ∃ r, m % n = r := ⟨_, rfl⟩
      rw [hr] at k1 k2 hst hlt
      have hwr := IntWalk.i64_in (r : Int) (by omega)
      have HST := Lib.hid hst
      have HR := Lib.hid hr
      clear hst hr
      go_wp2_with fail
      skip
      go_wp2
      go_roundw
      case rel => exact ⟨n, r, rfl, rfl, HST.out, by omega, by omega, hbw⟩
      case measure => simp [intOf]; omega

set_option maxHeartbeats 800000 in
theorem reduced_any (P Q : Nat) (p q : Int) (hp : p = P) (hq : q = Q) (w : World) (hQ0 : 0 < Q) (hP : P ≤ 1000000000000000000) (hQ : Q ≤ 1000000000000000000) :
    Calls Tryd.prog 73 #[.int .i64 p, .int .i64 q] w fun e w' => e = .returned (frV (red P Q)) ∧ Bw w w' := by
  subst hp; subst hq
  go_enter Tryd.func73, Tryd.ntmps73
  go_wp2_with fail
  refine (gcd_impl P Q P Q rfl rfl _ hP hQ).mono ?_
  rintro e w1 ⟨rfl, hb1⟩
  have hg := Nat.gcd_pos_of_pos_right P hQ0
  have q1 := tdivN P (Nat.gcd P Q)
  have q2 := tdivN Q (Nat.gcd P Q)
  have q3 := edivN P (Nat.gcd P Q)
  have q4 := edivN Q (Nat.gcd P Q)
  have hred : red P Q = ⟨P / Nat.gcd P Q, Q / Nat.gcd P Q⟩ := rfl
  have l1 := Nat.div_le_self P (Nat.gcd P Q)
  have l2 := Nat.div_le_self Q (Nat.gcd P Q)
  obtain ⟨A, hA⟩ : ∃ A, P / Nat.gcd P Q = A := ⟨_, rfl⟩
  obtain ⟨B, hB⟩ : ∃ B, Q / Nat.gcd P Q = B := ⟨_, rfl⟩
  rw [hA] at q1 q3 hred l1
  rw [hB] at q2 q4 hred l2
  clear hA hB
  obtain ⟨g, hG⟩ : ∃ g, Nat.gcd P Q = g := ⟨_, rfl⟩
  rw [hG] at q1 q2 q3 q4 hg
  rw [hG]
  have hgz : ¬ (g : Int) = 0 := by omega
  have hgz2 : ¬ g = 0 := by omega
  have w1' := IntWalk.i64_in (A : Int) (by omega)
  have w2' := IntWalk.i64_in (B : Int) (by omega)
  have B1 := Lib.hid (box_last hb1)
  have s0 := blk_cell B1.out 0 rfl
  have s1 := blk_cell B1.out 1 rfl
  have fr := fun j => blk_free B1.out j
  have hw1 := bw_trans (bw_alloc w _) hb1
  have HRED := Lib.hid hred
  have HG := Lib.hid hG
  clear hred hG
  go_wp2_with fail
  go_region
  go_wp2
  refine bodyPost_ret (v := .agg #[.int .i64 (A : Int), .int .i64 (B : Int)]) (by simp [results, Tryd.results73, go_sem, s0, s1]) rfl ?_
  refine ⟨by rw [HRED.out], ?_⟩
  first
    | exact dr_set2 hw1 (Nat.le_refl _)
    | exact dr_set2d hw1 (Nat.le_refl _)
    | exact dr_set2 (bw_trans hw1 (bw_drew _)) (Nat.le_refl _)
end Go.Proofs.YtaadlgpglfpmpaaDoor

/-
  The walks of the program's shares of sets, and of the factor of virtual deadlines.
-/

namespace Go.Proofs.YtaadlgpglfpmpaaDoor
open Go.RowKit

theorem step_bd {a : Fr} {k n E : Nat} (hg : Good a) (hq : a.q ≤ 20 ^ k) (hp : a.p ≤ k * a.q) (h1 : 1 ≤ E) (h2 : E ≤ 20) (hn : n ≤ E) :
    Good (red (a.p * E + n * a.q) (a.q * E)) ∧ (red (a.p * E + n * a.q) (a.q * E)).q ≤ 20 ^ (k + 1) ∧ (red (a.p * E + n * a.q) (a.q * E)).p ≤ (k + 1) * (red (a.p * E + n * a.q) (a.q * E)).q := by
  have h := sumF_bd (fun _ => some n) [⟨1, E, E, E, true⟩] a k (fun t ht => by
    simp at ht; subst ht
    refine ⟨(Tk.ok_iff _).2 ?_, fun m hm => ?_⟩
    · dsimp only; exact ⟨by omega, by omega, by omega, by omega, by omega, .inl rfl⟩
    · simp at hm; subst hm; dsimp only; omega) hg hp
  have e : sumF (fun _ => some n) [⟨1, E, E, E, true⟩] a = red (a.p * E + n * a.q) (a.q * E) := by simp [sumF]
  rw [e] at h
  refine ⟨h.1, Nat.le_trans h.2.1 ?_, h.2.2⟩
  simp only [cntF, Option.isSome_some, if_true, Nat.add_zero]
  rw [Nat.pow_succ]
  exact Nat.mul_le_mul_right 20 hq
theorem pow20 {k : Nat} (h : k ≤ 5) : 20 ^ k ≤ 3200000 := by
  have : 20 ^ k ≤ 20 ^ 5 := Nat.pow_le_pow_right (by omega) h
  omega

set_option maxRecDepth 100000 in
set_option maxHeartbeats 1600000 in
theorem sumOf_false_false (ao : Option Addr) (c : Nat) (w : World) (l : List Tk) (hl : l.length ≤ 1048576) (hr : RT w ao l) (hso : setOk l = true) :
    Calls Tryd.prog 93 #[.slice ao l.length c, .bool false, .bool false] w fun e w' => e = .returned (frV (share l false false)) ∧ Bw w w' := by
  have hl5 := setOk_len hso
  have HSO := Lib.hid hso
  have HR := Lib.hid hr
  clear hr
  go_enter Tryd.func93, Tryd.ntmps93
  go_wp2_with fail
  refine (impl.SetValid_walk _ _ _ l hl (HR.out.bw (bw_alloc _ _))).mono ?_
  rw [hso]
  rintro e w1 ⟨rfl, hb1⟩
  have B1 := Lib.hid (box_last hb1)
  have hz1 := hb1.size
  simp only [World.size_alloc] at hz1
  have hw1 := bw_trans (bw_alloc w _) hb1
  clear hso
  go_wp2
  go_loopw [18] (fun i wr => ∃ (k : Nat) (a : Fr), k ≤ l.length ∧ i = .int .i64 k ∧ Hid (share l false false = sumF (needF false false) (l.drop k) a) ∧ Hid (wr.heap[w1.heap.size]? = some (.cells #[.int .i64 (a.p : Int), .int .i64 (a.q : Int)] 71 (0, 0))) ∧ Hid (wr.heap[w.heap.size]? = some box2) ∧ Hid (Good a) ∧ a.q ≤ 20 ^ k ∧ a.p ≤ k * a.q ∧ Bw w wr) (fun i _ => l.length - (intOf i).toNat)
  case atStart => exact ⟨0, ⟨0, 1⟩, Nat.zero_le _, rfl, rfl, heap_alloc_new w1 _, blk_bw (bw_alloc _ _) B1.out, ⟨by show 0 < 1; omega, by simp⟩, by simp, by simp, bw_trans hw1 (bw_alloc _ _)⟩
  case round =>
    obtain ⟨k, a, hk, rfl, hsh, hbx, hrs, hgo, hq, hp, hbw⟩ := hrel
    have hz := hbw.size
    have hbl := blk_lt hbx.out
    by_cases hlt : k < l.length
    · obtain ⟨⟨x0, x1, x2, x3, x4⟩, b, off, htk, hao, hbs, c0, c1, c2, c3, c4⟩ := HR.out.get hbw hlt
      have hok := (Tk.ok_iff _).1 (setOk_at HSO.out htk)
      dsimp only at c0 c1 c2 c3 c4 hok
      subst hao
      have hst : sumF (needF false false) (l.drop k) a = match needF false false ⟨x0, x1, x2, x3, x4⟩ with | none => sumF (needF false false) (l.drop (k + 1)) a | some n => sumF (needF false false) (l.drop (k + 1)) (red (a.p * x3.toNat + n * a.q) (a.q * x3.toNat)) := by rw [drop_cons htk]; rfl
      have HST := Lib.hid hst
      clear hst htk
      by_cases hc : x4 = false
      · subst hc
        obtain ⟨E, rfl⟩ : ∃ E : Nat, x3 = E := ⟨x3.toNat, by omega⟩
        obtain ⟨n, hn⟩ : ∃ n : Nat, x0 = n := ⟨(x0).toNat, by omega⟩
        obtain ⟨u1, u2, u3⟩ := step_bd (n := n) (E := E) hgo.out hq hp (by omega) (by omega) (by omega)
        have hpw := pow20 (show k ≤ 5 by omega)
        have hq2 : a.q ≤ 3200000 := Nat.le_trans hq hpw
        have hp2 : a.p ≤ 16000000 := Nat.le_trans hp (by
          have := Nat.mul_le_mul (show k ≤ 5 by omega) hq2; omega)
        have x1b := Nat.mul_le_mul hp2 (show E ≤ 20 by omega)
        have x2b := Nat.mul_le_mul (show n ≤ 20 by omega) hq2
        have x3b := Nat.mul_le_mul hq2 (show E ≤ 20 by omega)
        have hnx : share l false false = sumF (needF false false) (l.drop (k + 1)) (red (a.p * E + n * a.q) (a.q * E)) := by
          rw [hsh.out, HST.out]
          have : needF false false ⟨x0, x1, x2, (E : Int), false⟩ = some n := by simp [needF, hn]
          rw [this]; simp
        obtain ⟨X, hX⟩ : ∃ X, a.p * E = X := ⟨_, rfl⟩
        obtain ⟨Y, hY⟩ : ∃ Y, n * a.q = Y := ⟨_, rfl⟩
        obtain ⟨Z, hZ⟩ : ∃ Z, a.q * E = Z := ⟨_, rfl⟩
        have hXi : (a.p : Int) * (E : Int) = (X : Int) := by rw [← hX]; simp
        have hYi : (n : Int) * (a.q : Int) = (Y : Int) := by rw [← hY]; simp
        have hZi : (a.q : Int) * (E : Int) = (Z : Int) := by rw [← hZ]; simp
        have hZ0 : 0 < Z := by rw [← hZ]; exact Nat.mul_pos hgo.out.1 (by omega)
        rw [hX, hY, hZ] at hnx u1 u2 u3
        rw [hX] at x1b
        rw [hY] at x2b
        rw [hZ] at x3b
        have p0 := blk_cell hbx.out 0 rfl
        have p1 := blk_cell hbx.out 1 rfl
        have w1' := IntWalk.i64_in (X : Int) (by omega)
        have w2' := IntWalk.i64_in (Y : Int) (by omega)
        have w3' := IntWalk.i64_in (Z : Int) (by omega)
        have w4' := IntWalk.i64_in ((X : Int) + (Y : Int)) (by omega)
        have hne : (false != false) = false := rfl
        have HNX := Lib.hid hnx
        have U1 := Lib.hid u1
        have hqk := Lib.hid hq
        have hpk := Lib.hid hp
        simp only [hn] at c0 c1 hok
        clear hnx u1 hX hY hZ hsh HST hgo hq hp
        go_wp2_with fail
        refine (reduced_any (X + Y) Z _ _ (by simp) rfl _ hZ0 (by omega) (by omega)).mono ?_
        rintro e w2 ⟨rfl, hb2⟩
        have hbx2 := blk_bw (bw_trans (bw_alloc wr _) hb2) hbx.out
        have hrs2 := blk_bw (bw_trans (bw_alloc wr _) hb2) hrs.out
        have e0 := blk_cell hbx2 0 rfl
        have e1 := blk_cell hbx2 1 rfl
        have fr := fun j => blk_free hbx2 j
        have HBX := Lib.hid hbx2
        have HRS := Lib.hid hrs2
        have hbw2 := bw_trans hbw (bw_trans (bw_alloc wr _) hb2)
        clear hbx2 hrs2 p0 p1 c0 c1 c2 c3 c4
        go_wp2
        go_roundw
        case rel => exact ⟨k + 1, red (X + Y) Z, by omega, by go_num, HNX.out, by show _ = _; simpa using blk_set (blk_set HBX.out 0 (.int .i64 ((red (X + Y) Z).p : Int))) 1 (.int .i64 ((red (X + Y) Z).q : Int)), blk_oth (blk_oth HRS.out (by omega) _ _) (by omega) _ _, U1.out, u2, u3, dr_set2 hbw2 (by omega)⟩
        case measure => simp [intOf]; omega
      · have hx4 : x4 = !false := by cases x4 <;> simp_all
        have hne : ((!false) != false) = true := rfl
        subst hx4
        first | simp only [Bool.not_true] at hne c4 | simp only [Bool.not_false] at hne c4
        have hnx : share l false false = sumF (needF false false) (l.drop (k + 1)) a := by
          rw [hsh.out, HST.out]
          have : needF false false ⟨x0, x1, x2, x3, !false⟩ = none := by simp [needF]
          rw [this]
        have HNX := Lib.hid hnx
        have HC := Lib.hid hc
        have hq2 : a.q ≤ 20 ^ (k + 1) := Nat.le_trans hq (Nat.pow_le_pow_right (by omega) (by omega))
        have hp2 : a.p ≤ (k + 1) * a.q := Nat.le_trans hp (Nat.mul_le_mul_right _ (by omega))
        clear hnx hsh HST hc
        go_wp2
        go_roundw
        case rel => exact ⟨k + 1, a, by omega, by go_num, HNX.out, blk_bw (bw_alloc _ _) hbx.out, blk_bw (bw_alloc _ _) hrs.out, hgo.out, hq2, hp2, bw_trans hbw (bw_alloc _ _)⟩
        case measure => simp [intOf]; omega
    · have HF : Hid (share l false false = a) := by show _ = _; rw [hsh.out, drop_end hlt]; rfl
      have p0 := blk_cell hbx.out 0 rfl
      have p1 := blk_cell hbx.out 1 rfl
      have s0 := blk_cell hrs.out 0 rfl
      have s1 := blk_cell hrs.out 1 rfl
      have fr := fun j => blk_free hrs.out j
      go_wp2
      refine bodyPost_ret (v := .agg #[.int .i64 (a.p : Int), .int .i64 (a.q : Int)]) (by simp [results, Tryd.results93, go_sem, s0, s1]) rfl ?_
      exact ⟨by rw [HF.out], dr_set2 hbw (Nat.le_refl _)⟩
set_option maxRecDepth 100000 in
set_option maxHeartbeats 1600000 in
theorem sumOf_true_false (ao : Option Addr) (c : Nat) (w : World) (l : List Tk) (hl : l.length ≤ 1048576) (hr : RT w ao l) (hso : setOk l = true) :
    Calls Tryd.prog 93 #[.slice ao l.length c, .bool true, .bool false] w fun e w' => e = .returned (frV (share l true false)) ∧ Bw w w' := by
  have hl5 := setOk_len hso
  have HSO := Lib.hid hso
  have HR := Lib.hid hr
  clear hr
  go_enter Tryd.func93, Tryd.ntmps93
  go_wp2_with fail
  refine (impl.SetValid_walk _ _ _ l hl (HR.out.bw (bw_alloc _ _))).mono ?_
  rw [hso]
  rintro e w1 ⟨rfl, hb1⟩
  have B1 := Lib.hid (box_last hb1)
  have hz1 := hb1.size
  simp only [World.size_alloc] at hz1
  have hw1 := bw_trans (bw_alloc w _) hb1
  clear hso
  go_wp2
  go_loopw [18] (fun i wr => ∃ (k : Nat) (a : Fr), k ≤ l.length ∧ i = .int .i64 k ∧ Hid (share l true false = sumF (needF true false) (l.drop k) a) ∧ Hid (wr.heap[w1.heap.size]? = some (.cells #[.int .i64 (a.p : Int), .int .i64 (a.q : Int)] 71 (0, 0))) ∧ Hid (wr.heap[w.heap.size]? = some box2) ∧ Hid (Good a) ∧ a.q ≤ 20 ^ k ∧ a.p ≤ k * a.q ∧ Bw w wr) (fun i _ => l.length - (intOf i).toNat)
  case atStart => exact ⟨0, ⟨0, 1⟩, Nat.zero_le _, rfl, rfl, heap_alloc_new w1 _, blk_bw (bw_alloc _ _) B1.out, ⟨by show 0 < 1; omega, by simp⟩, by simp, by simp, bw_trans hw1 (bw_alloc _ _)⟩
  case round =>
    obtain ⟨k, a, hk, rfl, hsh, hbx, hrs, hgo, hq, hp, hbw⟩ := hrel
    have hz := hbw.size
    have hbl := blk_lt hbx.out
    by_cases hlt : k < l.length
    · obtain ⟨⟨x0, x1, x2, x3, x4⟩, b, off, htk, hao, hbs, c0, c1, c2, c3, c4⟩ := HR.out.get hbw hlt
      have hok := (Tk.ok_iff _).1 (setOk_at HSO.out htk)
      dsimp only at c0 c1 c2 c3 c4 hok
      subst hao
      have hst : sumF (needF true false) (l.drop k) a = match needF true false ⟨x0, x1, x2, x3, x4⟩ with | none => sumF (needF true false) (l.drop (k + 1)) a | some n => sumF (needF true false) (l.drop (k + 1)) (red (a.p * x3.toNat + n * a.q) (a.q * x3.toNat)) := by rw [drop_cons htk]; rfl
      have HST := Lib.hid hst
      clear hst htk
      by_cases hc : x4 = true
      · subst hc
        obtain ⟨E, rfl⟩ : ∃ E : Nat, x3 = E := ⟨x3.toNat, by omega⟩
        obtain ⟨n, hn⟩ : ∃ n : Nat, x0 = n := ⟨(x0).toNat, by omega⟩
        obtain ⟨u1, u2, u3⟩ := step_bd (n := n) (E := E) hgo.out hq hp (by omega) (by omega) (by omega)
        have hpw := pow20 (show k ≤ 5 by omega)
        have hq2 : a.q ≤ 3200000 := Nat.le_trans hq hpw
        have hp2 : a.p ≤ 16000000 := Nat.le_trans hp (by
          have := Nat.mul_le_mul (show k ≤ 5 by omega) hq2; omega)
        have x1b := Nat.mul_le_mul hp2 (show E ≤ 20 by omega)
        have x2b := Nat.mul_le_mul (show n ≤ 20 by omega) hq2
        have x3b := Nat.mul_le_mul hq2 (show E ≤ 20 by omega)
        have hnx : share l true false = sumF (needF true false) (l.drop (k + 1)) (red (a.p * E + n * a.q) (a.q * E)) := by
          rw [hsh.out, HST.out]
          have : needF true false ⟨x0, x1, x2, (E : Int), true⟩ = some n := by simp [needF, hn]
          rw [this]; simp
        obtain ⟨X, hX⟩ : ∃ X, a.p * E = X := ⟨_, rfl⟩
        obtain ⟨Y, hY⟩ : ∃ Y, n * a.q = Y := ⟨_, rfl⟩
        obtain ⟨Z, hZ⟩ : ∃ Z, a.q * E = Z := ⟨_, rfl⟩
        have hXi : (a.p : Int) * (E : Int) = (X : Int) := by rw [← hX]; simp
        have hYi : (n : Int) * (a.q : Int) = (Y : Int) := by rw [← hY]; simp
        have hZi : (a.q : Int) * (E : Int) = (Z : Int) := by rw [← hZ]; simp
        have hZ0 : 0 < Z := by rw [← hZ]; exact Nat.mul_pos hgo.out.1 (by omega)
        rw [hX, hY, hZ] at hnx u1 u2 u3
        rw [hX] at x1b
        rw [hY] at x2b
        rw [hZ] at x3b
        have p0 := blk_cell hbx.out 0 rfl
        have p1 := blk_cell hbx.out 1 rfl
        have w1' := IntWalk.i64_in (X : Int) (by omega)
        have w2' := IntWalk.i64_in (Y : Int) (by omega)
        have w3' := IntWalk.i64_in (Z : Int) (by omega)
        have w4' := IntWalk.i64_in ((X : Int) + (Y : Int)) (by omega)
        have hne : (true != true) = false := rfl
        have HNX := Lib.hid hnx
        have U1 := Lib.hid u1
        have hqk := Lib.hid hq
        have hpk := Lib.hid hp
        simp only [hn] at c0 c1 hok
        clear hnx u1 hX hY hZ hsh HST hgo hq hp
        go_wp2_with fail
        refine (reduced_any (X + Y) Z _ _ (by simp) rfl _ hZ0 (by omega) (by omega)).mono ?_
        rintro e w2 ⟨rfl, hb2⟩
        have hbx2 := blk_bw (bw_trans (bw_alloc wr _) hb2) hbx.out
        have hrs2 := blk_bw (bw_trans (bw_alloc wr _) hb2) hrs.out
        have e0 := blk_cell hbx2 0 rfl
        have e1 := blk_cell hbx2 1 rfl
        have fr := fun j => blk_free hbx2 j
        have HBX := Lib.hid hbx2
        have HRS := Lib.hid hrs2
        have hbw2 := bw_trans hbw (bw_trans (bw_alloc wr _) hb2)
        clear hbx2 hrs2 p0 p1 c0 c1 c2 c3 c4
        go_wp2
        go_roundw
        case rel => exact ⟨k + 1, red (X + Y) Z, by omega, by go_num, HNX.out, by show _ = _; simpa using blk_set (blk_set HBX.out 0 (.int .i64 ((red (X + Y) Z).p : Int))) 1 (.int .i64 ((red (X + Y) Z).q : Int)), blk_oth (blk_oth HRS.out (by omega) _ _) (by omega) _ _, U1.out, u2, u3, dr_set2 hbw2 (by omega)⟩
        case measure => simp [intOf]; omega
      · have hx4 : x4 = !true := by cases x4 <;> simp_all
        have hne : ((!true) != true) = true := rfl
        subst hx4
        first | simp only [Bool.not_true] at hne c4 | simp only [Bool.not_false] at hne c4
        have hnx : share l true false = sumF (needF true false) (l.drop (k + 1)) a := by
          rw [hsh.out, HST.out]
          have : needF true false ⟨x0, x1, x2, x3, !true⟩ = none := by simp [needF]
          rw [this]
        have HNX := Lib.hid hnx
        have HC := Lib.hid hc
        have hq2 : a.q ≤ 20 ^ (k + 1) := Nat.le_trans hq (Nat.pow_le_pow_right (by omega) (by omega))
        have hp2 : a.p ≤ (k + 1) * a.q := Nat.le_trans hp (Nat.mul_le_mul_right _ (by omega))
        clear hnx hsh HST hc
        go_wp2
        go_roundw
        case rel => exact ⟨k + 1, a, by omega, by go_num, HNX.out, blk_bw (bw_alloc _ _) hbx.out, blk_bw (bw_alloc _ _) hrs.out, hgo.out, hq2, hp2, bw_trans hbw (bw_alloc _ _)⟩
        case measure => simp [intOf]; omega
    · have HF : Hid (share l true false = a) := by show _ = _; rw [hsh.out, drop_end hlt]; rfl
      have p0 := blk_cell hbx.out 0 rfl
      have p1 := blk_cell hbx.out 1 rfl
      have s0 := blk_cell hrs.out 0 rfl
      have s1 := blk_cell hrs.out 1 rfl
      have fr := fun j => blk_free hrs.out j
      go_wp2
      refine bodyPost_ret (v := .agg #[.int .i64 (a.p : Int), .int .i64 (a.q : Int)]) (by simp [results, Tryd.results93, go_sem, s0, s1]) rfl ?_
      exact ⟨by rw [HF.out], dr_set2 hbw (Nat.le_refl _)⟩
set_option maxRecDepth 100000 in
set_option maxHeartbeats 1600000 in
theorem sumOf_true_true (ao : Option Addr) (c : Nat) (w : World) (l : List Tk) (hl : l.length ≤ 1048576) (hr : RT w ao l) (hso : setOk l = true) :
    Calls Tryd.prog 93 #[.slice ao l.length c, .bool true, .bool true] w fun e w' => e = .returned (frV (share l true true)) ∧ Bw w w' := by
  have hl5 := setOk_len hso
  have HSO := Lib.hid hso
  have HR := Lib.hid hr
  clear hr
  go_enter Tryd.func93, Tryd.ntmps93
  go_wp2_with fail
  refine (impl.SetValid_walk _ _ _ l hl (HR.out.bw (bw_alloc _ _))).mono ?_
  rw [hso]
  rintro e w1 ⟨rfl, hb1⟩
  have B1 := Lib.hid (box_last hb1)
  have hz1 := hb1.size
  simp only [World.size_alloc] at hz1
  have hw1 := bw_trans (bw_alloc w _) hb1
  clear hso
  go_wp2
  go_loopw [18] (fun i wr => ∃ (k : Nat) (a : Fr), k ≤ l.length ∧ i = .int .i64 k ∧ Hid (share l true true = sumF (needF true true) (l.drop k) a) ∧ Hid (wr.heap[w1.heap.size]? = some (.cells #[.int .i64 (a.p : Int), .int .i64 (a.q : Int)] 71 (0, 0))) ∧ Hid (wr.heap[w.heap.size]? = some box2) ∧ Hid (Good a) ∧ a.q ≤ 20 ^ k ∧ a.p ≤ k * a.q ∧ Bw w wr) (fun i _ => l.length - (intOf i).toNat)
  case atStart => exact ⟨0, ⟨0, 1⟩, Nat.zero_le _, rfl, rfl, heap_alloc_new w1 _, blk_bw (bw_alloc _ _) B1.out, ⟨by show 0 < 1; omega, by simp⟩, by simp, by simp, bw_trans hw1 (bw_alloc _ _)⟩
  case round =>
    obtain ⟨k, a, hk, rfl, hsh, hbx, hrs, hgo, hq, hp, hbw⟩ := hrel
    have hz := hbw.size
    have hbl := blk_lt hbx.out
    by_cases hlt : k < l.length
    · obtain ⟨⟨x0, x1, x2, x3, x4⟩, b, off, htk, hao, hbs, c0, c1, c2, c3, c4⟩ := HR.out.get hbw hlt
      have hok := (Tk.ok_iff _).1 (setOk_at HSO.out htk)
      dsimp only at c0 c1 c2 c3 c4 hok
      subst hao
      have hst : sumF (needF true true) (l.drop k) a = match needF true true ⟨x0, x1, x2, x3, x4⟩ with | none => sumF (needF true true) (l.drop (k + 1)) a | some n => sumF (needF true true) (l.drop (k + 1)) (red (a.p * x3.toNat + n * a.q) (a.q * x3.toNat)) := by rw [drop_cons htk]; rfl
      have HST := Lib.hid hst
      clear hst htk
      by_cases hc : x4 = true
      · subst hc
        obtain ⟨E, rfl⟩ : ∃ E : Nat, x3 = E := ⟨x3.toNat, by omega⟩
        obtain ⟨n, hn⟩ : ∃ n : Nat, x1 = n := ⟨(x1).toNat, by omega⟩
        obtain ⟨u1, u2, u3⟩ := step_bd (n := n) (E := E) hgo.out hq hp (by omega) (by omega) (by omega)
        have hpw := pow20 (show k ≤ 5 by omega)
        have hq2 : a.q ≤ 3200000 := Nat.le_trans hq hpw
        have hp2 : a.p ≤ 16000000 := Nat.le_trans hp (by
          have := Nat.mul_le_mul (show k ≤ 5 by omega) hq2; omega)
        have x1b := Nat.mul_le_mul hp2 (show E ≤ 20 by omega)
        have x2b := Nat.mul_le_mul (show n ≤ 20 by omega) hq2
        have x3b := Nat.mul_le_mul hq2 (show E ≤ 20 by omega)
        have hnx : share l true true = sumF (needF true true) (l.drop (k + 1)) (red (a.p * E + n * a.q) (a.q * E)) := by
          rw [hsh.out, HST.out]
          have : needF true true ⟨x0, x1, x2, (E : Int), true⟩ = some n := by simp [needF, hn]
          rw [this]; simp
        obtain ⟨X, hX⟩ : ∃ X, a.p * E = X := ⟨_, rfl⟩
        obtain ⟨Y, hY⟩ : ∃ Y, n * a.q = Y := ⟨_, rfl⟩
        obtain ⟨Z, hZ⟩ : ∃ Z, a.q * E = Z := ⟨_, rfl⟩
        have hXi : (a.p : Int) * (E : Int) = (X : Int) := by rw [← hX]; simp
        have hYi : (n : Int) * (a.q : Int) = (Y : Int) := by rw [← hY]; simp
        have hZi : (a.q : Int) * (E : Int) = (Z : Int) := by rw [← hZ]; simp
        have hZ0 : 0 < Z := by rw [← hZ]; exact Nat.mul_pos hgo.out.1 (by omega)
        rw [hX, hY, hZ] at hnx u1 u2 u3
        rw [hX] at x1b
        rw [hY] at x2b
        rw [hZ] at x3b
        have p0 := blk_cell hbx.out 0 rfl
        have p1 := blk_cell hbx.out 1 rfl
        have w1' := IntWalk.i64_in (X : Int) (by omega)
        have w2' := IntWalk.i64_in (Y : Int) (by omega)
        have w3' := IntWalk.i64_in (Z : Int) (by omega)
        have w4' := IntWalk.i64_in ((X : Int) + (Y : Int)) (by omega)
        have hne : (true != true) = false := rfl
        have HNX := Lib.hid hnx
        have U1 := Lib.hid u1
        have hqk := Lib.hid hq
        have hpk := Lib.hid hp
        simp only [hn] at c0 c1 hok
        clear hnx u1 hX hY hZ hsh HST hgo hq hp
        go_wp2_with fail
        refine (reduced_any (X + Y) Z _ _ (by simp) rfl _ hZ0 (by omega) (by omega)).mono ?_
        rintro e w2 ⟨rfl, hb2⟩
        have hbx2 := blk_bw (bw_trans (bw_alloc wr _) hb2) hbx.out
        have hrs2 := blk_bw (bw_trans (bw_alloc wr _) hb2) hrs.out
        have e0 := blk_cell hbx2 0 rfl
        have e1 := blk_cell hbx2 1 rfl
        have fr := fun j => blk_free hbx2 j
        have HBX := Lib.hid hbx2
        have HRS := Lib.hid hrs2
        have hbw2 := bw_trans hbw (bw_trans (bw_alloc wr _) hb2)
        clear hbx2 hrs2 p0 p1 c0 c1 c2 c3 c4
        go_wp2
        go_roundw
        case rel => exact ⟨k + 1, red (X + Y) Z, by omega, by go_num, HNX.out, by show _ = _; simpa using blk_set (blk_set HBX.out 0 (.int .i64 ((red (X + Y) Z).p : Int))) 1 (.int .i64 ((red (X + Y) Z).q : Int)), blk_oth (blk_oth HRS.out (by omega) _ _) (by omega) _ _, U1.out, u2, u3, dr_set2 hbw2 (by omega)⟩
        case measure => simp [intOf]; omega
      · have hx4 : x4 = !true := by cases x4 <;> simp_all
        have hne : ((!true) != true) = true := rfl
        subst hx4
        first | simp only [Bool.not_true] at hne c4 | simp only [Bool.not_false] at hne c4
        have hnx : share l true true = sumF (needF true true) (l.drop (k + 1)) a := by
          rw [hsh.out, HST.out]
          have : needF true true ⟨x0, x1, x2, x3, !true⟩ = none := by simp [needF]
          rw [this]
        have HNX := Lib.hid hnx
        have HC := Lib.hid hc
        have hq2 : a.q ≤ 20 ^ (k + 1) := Nat.le_trans hq (Nat.pow_le_pow_right (by omega) (by omega))
        have hp2 : a.p ≤ (k + 1) * a.q := Nat.le_trans hp (Nat.mul_le_mul_right _ (by omega))
        clear hnx hsh HST hc
        go_wp2
        go_roundw
        case rel => exact ⟨k + 1, a, by omega, by go_num, HNX.out, blk_bw (bw_alloc _ _) hbx.out, blk_bw (bw_alloc _ _) hrs.out, hgo.out, hq2, hp2, bw_trans hbw (bw_alloc _ _)⟩
        case measure => simp [intOf]; omega
    · have HF : Hid (share l true true = a) := by show _ = _; rw [hsh.out, drop_end hlt]; rfl
      have p0 := blk_cell hbx.out 0 rfl
      have p1 := blk_cell hbx.out 1 rfl
      have s0 := blk_cell hrs.out 0 rfl
      have s1 := blk_cell hrs.out 1 rfl
      have fr := fun j => blk_free hrs.out j
      go_wp2
      refine bodyPost_ret (v := .agg #[.int .i64 (a.p : Int), .int .i64 (a.q : Int)]) (by simp [results, Tryd.results93, go_sem, s0, s1]) rfl ?_
      exact ⟨by rw [HF.out], dr_set2 hbw (Nat.le_refl _)⟩
end Go.Proofs.YtaadlgpglfpmpaaDoor

/-
  The walks of the program's FactorOf and of what it calls.
-/

namespace Go.Proofs.YtaadlgpglfpmpaaDoor
open Go.RowKit


set_option maxHeartbeats 400000 in
theorem LowShare_impl_false (ao : Option Addr) (c : Nat) (w : World) (l : List Tk) (hl : l.length ≤ 1048576) (hr : RT w ao l) (hso : setOk l = true) :
    Calls Tryd.prog 70 #[.slice ao l.length c,  .bool false] w fun e w' => e = .returned (frV (share l false false)) ∧ Bw w w' := by
  have HR := Lib.hid hr
  clear hr
  go_enter Tryd.func70, Tryd.ntmps70
  go_wp2_with fail
  refine (sumOf_false_false ao c _ l hl (HR.out.bw (bw_alloc _ _)) hso).mono ?_
  rintro e w1 ⟨rfl, hb1⟩
  have B1 := Lib.hid (box_last hb1)
  have s0 := blk_cell B1.out 0 rfl
  have s1 := blk_cell B1.out 1 rfl
  have fr := fun j => blk_free B1.out j
  go_wp2
  refine bodyPost_ret (v := frV (share l false false)) (by simp [results, Tryd.results70, go_sem, s0, s1]) rfl ?_
  exact ⟨rfl, dr_set2 (bw_trans (bw_alloc _ _) hb1) (Nat.le_refl _)⟩
set_option maxHeartbeats 400000 in
theorem LowShare_impl_true (ao : Option Addr) (c : Nat) (w : World) (l : List Tk) (hl : l.length ≤ 1048576) (hr : RT w ao l) (hso : setOk l = true) :
    Calls Tryd.prog 70 #[.slice ao l.length c,  .bool true] w fun e w' => e = .returned (frV (share l true false)) ∧ Bw w w' := by
  have HR := Lib.hid hr
  clear hr
  go_enter Tryd.func70, Tryd.ntmps70
  go_wp2_with fail
  refine (sumOf_true_false ao c _ l hl (HR.out.bw (bw_alloc _ _)) hso).mono ?_
  rintro e w1 ⟨rfl, hb1⟩
  have B1 := Lib.hid (box_last hb1)
  have s0 := blk_cell B1.out 0 rfl
  have s1 := blk_cell B1.out 1 rfl
  have fr := fun j => blk_free B1.out j
  go_wp2
  refine bodyPost_ret (v := frV (share l true false)) (by simp [results, Tryd.results70, go_sem, s0, s1]) rfl ?_
  exact ⟨rfl, dr_set2 (bw_trans (bw_alloc _ _) hb1) (Nat.le_refl _)⟩
set_option maxHeartbeats 400000 in
theorem HighShare_impl_true (ao : Option Addr) (c : Nat) (w : World) (l : List Tk) (hl : l.length ≤ 1048576) (hr : RT w ao l) (hso : setOk l = true) :
    Calls Tryd.prog 92 #[.slice ao l.length c] w fun e w' => e = .returned (frV (share l true true)) ∧ Bw w w' := by
  have HR := Lib.hid hr
  clear hr
  go_enter Tryd.func92, Tryd.ntmps92
  go_wp2_with fail
  refine (sumOf_true_true ao c _ l hl (HR.out.bw (bw_alloc _ _)) hso).mono ?_
  rintro e w1 ⟨rfl, hb1⟩
  have B1 := Lib.hid (box_last hb1)
  have s0 := blk_cell B1.out 0 rfl
  have s1 := blk_cell B1.out 1 rfl
  have fr := fun j => blk_free B1.out j
  go_wp2
  refine bodyPost_ret (v := frV (share l true true)) (by simp [results, Tryd.results92, go_sem, s0, s1]) rfl ?_
  exact ⟨rfl, dr_set2 (bw_trans (bw_alloc _ _) hb1) (Nat.le_refl _)⟩

set_option maxHeartbeats 800000 in
theorem plus_any (a b : Fr) (w : World) (ha : 0 < a.q) (hb : 0 < b.q) (ha1 : a.p ≤ 100000000) (ha2 : a.q ≤ 100000000) (hb1 : b.p ≤ 100000000) (hb2 : b.q ≤ 100000000) :
    Calls Tryd.prog 72 #[frV a, frV b] w fun e w' => e = .returned (frV (addF a b)) ∧ Bw w w' := by
  have x1b := Nat.mul_le_mul ha1 hb2
  have x2b := Nat.mul_le_mul hb1 ha2
  have x3b := Nat.mul_le_mul ha2 hb2
  have hZ0 := Nat.mul_pos ha hb
  have hf : addF a b = red (a.p * b.q + b.p * a.q) (a.q * b.q) := rfl
  obtain ⟨X, hX⟩ : ∃ X, a.p * b.q = X := ⟨_, rfl⟩
  obtain ⟨Y, hY⟩ : ∃ Y, b.p * a.q = Y := ⟨_, rfl⟩
  obtain ⟨Z, hZ⟩ : ∃ Z, a.q * b.q = Z := ⟨_, rfl⟩
  have hXi : (a.p : Int) * (b.q : Int) = (X : Int) := by rw [← hX]; simp
  have hYi : (b.p : Int) * (a.q : Int) = (Y : Int) := by rw [← hY]; simp
  have hZi : (a.q : Int) * (b.q : Int) = (Z : Int) := by rw [← hZ]; simp
  rw [hX, hY, hZ] at hf
  rw [hX] at x1b
  rw [hY] at x2b
  rw [hZ] at x3b hZ0
  have w1' := IntWalk.i64_in (X : Int) (by omega)
  have w2' := IntWalk.i64_in (Y : Int) (by omega)
  have w3' := IntWalk.i64_in (Z : Int) (by omega)
  have w4' := IntWalk.i64_in ((X : Int) + (Y : Int)) (by omega)
  clear hX hY hZ
  have HF := Lib.hid hf
  clear hf
  go_enter Tryd.func72, Tryd.ntmps72
  go_wp2_with fail
  refine (reduced_any (X + Y) Z _ _ (by simp) rfl _ hZ0 (by omega) (by omega)).mono ?_
  rintro e w1 ⟨rfl, hb1⟩
  obtain ⟨_, _, hbx⟩ := box_three hb1
  have B1 := Lib.hid hbx
  have hw1 := bw_trans (bw_trans (bw_trans (bw_alloc _ _) (bw_alloc _ _)) (bw_alloc _ _)) hb1
  clear hbx
  have s0 := blk_cell B1.out 0 rfl
  have s1 := blk_cell B1.out 1 rfl
  have fr := fun j => blk_free B1.out j
  go_wp2
  refine bodyPost_ret (v := frV (red (X + Y) Z)) (by simp [results, Tryd.results72, go_sem, s0, s1]) rfl ?_
  exact ⟨by rw [HF.out], dr_set2 hw1 (by omega)⟩

set_option maxHeartbeats 400000 in
theorem fits_any (a : Fr) (w : World) : Calls Tryd.prog 71 #[frV a] w fun e w' => e = .returned (.bool (fitsF a)) ∧ Bw w w' := by
  have hf : decide (a.p ≤ a.q) = fitsF a := rfl
  go_enter Tryd.func71, Tryd.ntmps71
  go_wp2
  go_ret
  exact ⟨ret_b hf, bw_alloc _ _⟩

def dueB (l : List Tk) : Bool := l.all fun t => decide (t.due = t.every)
theorem implB_eq (l : List Tk) : implB l = (setOk l && dueB l) := rfl
theorem dueB_step {l : List Tk} {k : Nat} {t : Tk} (h : l[k]? = some t) : dueB (l.drop k) = (decide (t.due = t.every) && dueB (l.drop (k + 1))) := by rw [drop_cons h]; rfl

set_option maxHeartbeats 800000 in
theorem Implicit_impl (ao : Option Addr) (c : Nat) (w : World) (l : List Tk) (hl : l.length ≤ 1048576) (hr : RT w ao l) :
    Calls Tryd.prog 68 #[.slice ao l.length c] w fun e w' => e = .returned (.bool (implB l)) ∧ Bw w w' := by
  have HR := Lib.hid hr
  clear hr
  go_enter Tryd.func68, Tryd.ntmps68
  go_wp2
  go_loopw [7] (fun i wr => ∃ k : Nat, k ≤ l.length ∧ i = .int .i64 k ∧ Hid (dueB l = dueB (l.drop k)) ∧ Bw w wr) (fun i _ => l.length - (intOf i).toNat)
  case atStart => exact ⟨0, Nat.zero_le _, rfl, rfl, Bw.refl _⟩
  case round =>
    obtain ⟨k, hk, rfl, hx, hbw⟩ := hrel
    by_cases hlt : k < l.length
    · obtain ⟨⟨x0, x1, x2, x3, x4⟩, b, off, htk, hao, hbs, c0, c1, c2, c3, c4⟩ := HR.out.get hbw hlt
      dsimp only at c0 c1 c2 c3 c4
      subst hao
      have hst := dueB_step htk
      have HST := Lib.hid hst
      have HTK := Lib.hid htk
      clear hst htk
      by_cases he : x2 = x3
      · have he' : (x2 != x3) = false := by simp [he]
        have HN : Hid (dueB l = dueB (l.drop (k + 1))) := by show _ = _; rw [hx.out, HST.out]; simp [he]
        have HE := Lib.hid he
        clear he
        go_wp2
        go_roundw
        case rel => exact ⟨k + 1, by omega, by go_num, HN.out, bw_trans hbw (bw_alloc _ _)⟩
        case measure => simp [intOf]; omega
      · have he' : (x2 != x3) = true := by simp [he]
        have HN : Hid (implB l = false) := by show _ = _; rw [implB_eq, hx.out, HST.out]; simp [he]
        have HE := Lib.hid he
        clear he
        go_wp2
        go_ret
        exact ⟨ret_b HN.out.symm, bw_trans hbw (bw_alloc _ _)⟩
    · have HN : Hid (implB l = setOk l) := by show _ = _; rw [implB_eq, hx.out, drop_end hlt]; simp [dueB]
      go_wp2_with fail
      refine (impl.SetValid_walk _ _ _ l hl (HR.out.bw hbw)).mono ?_
      rintro e w1 ⟨rfl, hb1⟩
      go_wp2
      go_ret
      exact ⟨ret_b HN.out.symm, bw_trans hbw hb1⟩

theorem share_le {l : List Tk} (h : setOk l = true) (C H : Bool) : 0 < (share l C H).q ∧ (share l C H).p ≤ 100000000 ∧ (share l C H).q ≤ 3200000 := by
  obtain ⟨h1, h2, h3⟩ := share_bd h C H
  have h5 := setOk_len h
  have hc : cntF (needF C H) l ≤ 5 := by
    have := cntF_both H H l
    cases C <;> omega
  have := pow20 hc
  exact ⟨h1.1, by omega, by omega⟩

set_option maxRecDepth 100000 in
set_option maxHeartbeats 800000 in
theorem HoldsPlain_impl (ao : Option Addr) (c : Nat) (w : World) (l : List Tk) (hl : l.length ≤ 1048576) (hr : RT w ao l) :
    Calls Tryd.prog 69 #[.slice ao l.length c] w fun e w' => e = .returned (.bool (plainB l)) ∧ Bw w w' := by
  have HR := Lib.hid hr
  clear hr
  go_enter Tryd.func69, Tryd.ntmps69
  go_wp2_with fail
  refine (Implicit_impl _ _ _ l hl HR.out).mono ?_
  obtain ⟨q, HQ⟩ : ∃ q, Hid (implB l = q) := ⟨_, rfl⟩
  rw [HQ.out]
  rintro e w1 ⟨rfl, hb1⟩
  cases q with
  | false =>
    have HF : Hid (plainB l = false) := by show _ = _; rw [plainB, HQ.out]; rfl
    go_wp2
    go_ret
    exact ⟨ret_b HF.out.symm, hb1⟩
  | true =>
    have hso : setOk l = true := by have h := HQ.out; rw [implB_eq] at h; simp at h; exact h.1
    obtain ⟨p1, p2, p3⟩ := share_le hso false false
    obtain ⟨q1, q2, q3⟩ := share_le hso true true
    go_wp2_with fail
    refine (LowShare_impl_false _ _ _ l hl (HR.out.bw hb1) hso).mono ?_
    rintro e w2 ⟨rfl, hb2⟩
    go_wp2_with fail
    refine (HighShare_impl_true _ _ _ l hl (HR.out.bw (bw_trans hb1 hb2)) hso).mono ?_
    rintro e w3 ⟨rfl, hb3⟩
    go_wp2_with fail
    refine (plus_any _ _ _ p1 q1 p2 (by omega) q2 (by omega)).mono ?_
    rintro e w4 ⟨rfl, hb4⟩
    go_wp2_with fail
    refine (fits_any _ _).mono ?_
    rintro e w5 ⟨rfl, hb5⟩
    have HF : Hid (plainB l = fitsF (addF (share l false false) (share l true true))) := by show _ = _; rw [plainB, HQ.out]; rfl
    go_wp2
    go_ret
    exact ⟨ret_b HF.out.symm, bw_trans (bw_trans (bw_trans (bw_trans hb1 hb2) hb3) hb4) hb5⟩

theorem factor_no {l : List Tk} (h : implB l = false) : factor l = (⟨0, 0⟩, false) := by rw [factor, if_pos h]
theorem factor_plain {l : List Tk} (h : implB l = true) (h2 : plainB l = true) : factor l = (⟨1, 1⟩, true) := by rw [factor, if_neg (by simp [h]), if_pos h2]
theorem factor_bad {l : List Tk} (h : implB l = true) (h2 : plainB l = false) (h3 : fitsF (addF (share l false false) (share l true false)) = false ∨ (share l false false).p = (share l false false).q) : factor l = (⟨0, 0⟩, false) := by
  rw [factor, if_neg (by simp [h]), if_neg (by simp [h2]), if_pos h3]
theorem factor_good {l : List Tk} (h : implB l = true) (h2 : plainB l = false) (h3 : ¬ (fitsF (addF (share l false false) (share l true false)) = false ∨ (share l false false).p = (share l false false).q)) :
    factor l = (red ((share l true false).p * (share l false false).q) ((share l true false).q * ((share l false false).q - (share l false false).p)), true) := by
  rw [factor, if_neg (by simp [h]), if_neg (by simp [h2]), if_neg h3]
/-- A sum of fractions that fits: neither is above 1. -/
theorem fits_sum {a b : Fr} (ha : 0 < a.q) (hb : 0 < b.q) (h : fitsF (addF a b) = true) : a.p ≤ a.q := by
  have h1 : (addF a b).p ≤ (addF a b).q := by simpa [fitsF] using h
  have hz := Nat.mul_pos ha hb
  have hc := red_cross (p := a.p * b.q + b.p * a.q) hz
  have hp := red_pos (p := a.p * b.q + b.p * a.q) hz
  have h2 : (a.p * b.q + b.p * a.q) * (addF a b).q ≤ a.q * b.q * (addF a b).q := by
    show (a.p * b.q + b.p * a.q) * (red _ _).q ≤ _
    rw [← hc, Nat.mul_comm]
    exact Nat.mul_le_mul_left _ h1
  have h3 := Nat.le_of_mul_le_mul_right h2 hp
  have h4 : a.p * b.q ≤ a.q * b.q := Nat.le_trans (Nat.le_add_right _ _) h3
  exact Nat.le_of_mul_le_mul_right h4 hb

set_option maxRecDepth 100000 in
set_option maxHeartbeats 1600000 in
theorem FactorOf_impl (ao : Option Addr) (c : Nat) (w : World) (l : List Tk) (hl : l.length ≤ 1048576) (hr : RT w ao l) :
    Calls Tryd.prog 47 #[.slice ao l.length c] w fun e w' => e = .returned (.tuple #[frV (factor l).1, .bool (factor l).2]) ∧ Bw w w' := by
  have HR := Lib.hid hr
  clear hr
  go_enter Tryd.func47, Tryd.ntmps47
  go_wp2_with fail
  refine (Implicit_impl _ _ _ l hl (HR.out.bw (bw_alloc _ _))).mono ?_
  obtain ⟨q, HQ⟩ : ∃ q, Hid (implB l = q) := ⟨_, rfl⟩
  rw [HQ.out]
  rintro e w1 ⟨rfl, hb1⟩
  have hw1 := bw_trans (bw_alloc w _) hb1
  have B1 := Lib.hid (box_last hb1)
  cases q with
  | false =>
    have s0 := blk_cell B1.out 0 rfl
    have s1 := blk_cell B1.out 1 rfl
    have fr := fun j => blk_free B1.out j
    have HF := Lib.hid (factor_no HQ.out)
    go_wp2
    refine bodyPost_ret (v := .tuple #[frV ⟨0, 0⟩, .bool false]) (by simp [results, Tryd.results47, go_sem, s0, s1]) rfl ?_
    exact ⟨by rw [HF.out], dr_set2 hw1 (Nat.le_refl _)⟩
  | true =>
    have hso : setOk l = true := by have h := HQ.out; rw [implB_eq] at h; simp at h; exact h.1
    go_wp2_with fail
    refine (HoldsPlain_impl _ _ _ l hl (HR.out.bw hw1)).mono ?_
    obtain ⟨p, HP⟩ : ∃ p, Hid (plainB l = p) := ⟨_, rfl⟩
    rw [HP.out]
    rintro e w2 ⟨rfl, hb2⟩
    have hw2 := bw_trans hw1 hb2
    have B2 := Lib.hid (blk_bw hb2 B1.out)
    cases p with
    | true =>
      have s0 := blk_cell B2.out 0 rfl
      have s1 := blk_cell B2.out 1 rfl
      have fr := fun j => blk_free B2.out j
      have HF := Lib.hid (factor_plain HQ.out HP.out)
      go_wp2
      refine bodyPost_ret (v := .tuple #[frV ⟨1, 1⟩, .bool true]) (by simp [results, Tryd.results47, go_sem, s0, s1]) rfl ?_
      exact ⟨by rw [HF.out], dr_set2 hw2 (Nat.le_refl _)⟩
    | false =>
      obtain ⟨p1, p2, p3⟩ := share_le hso false false
      obtain ⟨q1, q2, q3⟩ := share_le hso true false
      have hjb := share_both hso false false
      have hpq := (share_bd hso true false).2.2
      have hga := (share_bd hso false false).1
      obtain ⟨a, eA⟩ : ∃ a, share l false false = a := ⟨_, rfl⟩
      obtain ⟨b, eB⟩ : ∃ b, share l true false = b := ⟨_, rfl⟩
      have HSA := LowShare_impl_false ao c
      go_wp2_with fail
      refine (LowShare_impl_false _ _ _ l hl (HR.out.bw hw2) hso).mono ?_
      rintro e w3 ⟨rfl, hb3⟩
      go_wp2_with fail
      refine (LowShare_impl_true _ _ _ l hl (HR.out.bw (bw_trans hw2 hb3)) hso).mono ?_
      rintro e w4 ⟨rfl, hb4⟩
      have hw4 := bw_trans (bw_trans hw2 hb3) hb4
      have B4 := Lib.hid (blk_bw (bw_trans hb3 hb4) B2.out)
      have HFB := Lib.hid (fun h3 => factor_bad (l := l) HQ.out HP.out h3)
      have HFG := Lib.hid (fun h3 => factor_good (l := l) HQ.out HP.out h3)
      rw [eA] at p1 p2 p3 hjb HFB HFG hga
      rw [eB] at q1 q2 q3 hjb HFB HFG hpq
      rw [eB]
      clear HSA
      go_wp2_with fail
      refine (plus_any a b _ p1 q1 p2 (by omega) q2 (by omega)).mono ?_
      obtain ⟨f, HFT⟩ : ∃ f, Hid (fitsF (addF a b) = f) := ⟨_, rfl⟩
      rintro e w5 ⟨rfl, hb5⟩
      obtain ⟨hbA, hbB⟩ := box_two hb5
      have BA := Lib.hid hbA
      have BB := Lib.hid hbB
      have hw5 := bw_trans (bw_trans (bw_trans hw4 (bw_alloc _ _)) (bw_alloc _ _)) hb5
      have B5 := Lib.hid (blk_bw (bw_trans (bw_trans (bw_alloc _ _) (bw_alloc _ _)) hb5) B4.out)
      clear hbA hbB
      go_wp2_with fail
      refine (fits_any _ _).mono ?_
      rw [HFT.out]
      rintro e w6 ⟨rfl, hb6⟩
      have hw6 := bw_trans hw5 hb6
      have B6 := Lib.hid (blk_bw hb6 B5.out)
      have a0 := blk_cell (blk_bw hb6 BA.out) 0 rfl
      have a1 := blk_cell (blk_bw hb6 BA.out) 1 rfl
      have b0 := blk_cell (blk_bw hb6 BB.out) 0 rfl
      have b1 := blk_cell (blk_bw hb6 BB.out) 1 rfl
      cases f with
      | false =>
        have HF := Lib.hid (HFB.out (.inl HFT.out))
        have s0 := blk_cell B6.out 0 rfl
        have s1 := blk_cell B6.out 1 rfl
        have fr := fun j => blk_free B6.out j
        clear a0 a1 b0 b1
        go_wp2
        refine bodyPost_ret (v := .tuple #[frV ⟨0, 0⟩, .bool false]) (by simp [results, Tryd.results47, go_sem, s0, s1]) rfl ?_
        exact ⟨by rw [HF.out], dr_set2 hw6 (Nat.le_refl _)⟩
      | true =>
        by_cases he : a.p = a.q
        · have he' : ((a.p : Int) == (a.q : Int)) = true := beq_iff_eq.2 (by omega)
          have HF := Lib.hid (HFB.out (.inr he))
          have HE := Lib.hid he
          clear he
          have s0 := blk_cell B6.out 0 rfl
          have s1 := blk_cell B6.out 1 rfl
          have fr := fun j => blk_free B6.out j
          go_wp2
          refine bodyPost_ret (v := .tuple #[frV ⟨0, 0⟩, .bool false]) (by simp [results, Tryd.results47, go_sem, s0, s1]) rfl ?_
          exact ⟨by rw [HF.out], dr_set2 hw6 (Nat.le_refl _)⟩
        · have he' : ((a.p : Int) == (a.q : Int)) = false := beq_eq_false_iff_ne.2 (by omega)
          have HF := Lib.hid (HFG.out (by rw [HFT.out]; simp [he]))
          have hle := fits_sum p1 q1 HFT.out
          have hsub : (a.q : Int) - (a.p : Int) = ((a.q - a.p : Nat) : Int) := by omega
          obtain ⟨D, hD⟩ : ∃ D, a.q - a.p = D := ⟨_, rfl⟩
          have x1b := Nat.mul_le_mul q2 p3
          have x2b := Nat.mul_le_mul q3 (show D ≤ 3200000 by omega)
          have hY0 : 0 < b.q * D := Nat.mul_pos q1 (by omega)
          obtain ⟨X, hX⟩ : ∃ X, b.p * a.q = X := ⟨_, rfl⟩
          obtain ⟨Y, hY⟩ : ∃ Y, b.q * D = Y := ⟨_, rfl⟩
          rw [hD] at hsub HF
          have hXi : (b.p : Int) * (a.q : Int) = (X : Int) := by rw [← hX]; simp
          have hYi : (b.q : Int) * (D : Int) = (Y : Int) := by rw [← hY]; simp
          rw [hX, hY] at HF
          rw [hX] at x1b
          rw [hY] at x2b hY0
          have w1' := IntWalk.i64_in (X : Int) (by omega)
          have w2' := IntWalk.i64_in (Y : Int) (by omega)
          have w3' := IntWalk.i64_in (D : Int) (by omega)
          clear hX hY hD
          have HE := Lib.hid he
          clear he
          go_wp2_with fail
          refine (reduced_any X Y _ _ rfl rfl _ hY0 (by omega) (by omega)).mono ?_
          rintro e w7 ⟨rfl, hb7⟩
          have B7 := Lib.hid (blk_bw hb7 B6.out)
          have hw7 := bw_trans hw6 hb7
          clear a0 a1 b0 b1
          have s0 := blk_cell B7.out 0 rfl
          have s1 := blk_cell B7.out 1 rfl
          have fr := fun j => blk_free B7.out j
          go_wp2
          refine bodyPost_ret (v := .tuple #[frV (red X Y), .bool true]) (by simp [results, Tryd.results47, go_sem, s0, s1]) rfl ?_
          exact ⟨by rw [HF.out], dr_set2 hw7 (Nat.le_refl _)⟩
end Go.Proofs.YtaadlgpglfpmpaaDoor

/-
  The walks of the reference's shares and of its FactorOf.
-/



namespace Go.Proofs.YtaadlgpglfpmpaaDoor
open Go.RowKit

theorem fields2 {fs : List Field} {a b : Nat × Nat × Bool} (h : fs.map fld = [a, b]) : ∃ f0 f1, fs = [f0, f1] ∧ fld f0 = a ∧ fld f1 = b := by
  match fs, h with
  | [f0, f1], h => simp at h; exact ⟨f0, f1, rfl, h⟩
theorem eqlSh (x y : Int) (W : World) : (binOp .eql 71 (.agg #[.int .i64 x, .int .i64 y]) (.agg #[.int .i64 x, .int .i64 y])).run Tryd.prog W = .ok (.bool true) W := by
  have h1 : Tryd.prog.underlying 71 = some (.struct (Tryd.prog.fieldsOf 71)) := by kernel_rfl
  have h2 : Tryd.prog.stoodInHeld 71 = false := by kernel_rfl
  rw [run_eql_struct, run_equalIn_agg W _ _ _ _ h1 h2]
  obtain ⟨f0, f1, hf, e0, e1⟩ := fields2 (show (Tryd.prog.fieldsOf 71).toList.map fld = [(3, 0, false), (3, 1, false)] by kernel_rfl)
  obtain ⟨a0, b0, c0⟩ := fld_is e0
  obtain ⟨a1, b1, c1⟩ := fld_is e1
  rw [hf]
  simp [Op.eqFields, part, a0, b0, c0, a1, b1, c1, go_sem]


set_option maxHeartbeats 800000 in
theorem MakeShare_spec (P Q : Nat) (p q : Int) (hp : p = P) (hq : q = Q) (w : World) (hQ0 : 0 < Q) (hP : P ≤ 1000000000) (hQ : Q ≤ 1000000000) :
    Calls Tryd.prog 103 #[.int .i64 p, .int .i64 q] w fun e w' => e = .returned (.tuple #[frV (red P Q), .bool true]) ∧ Bw w w' := by
  subst hp; subst hq
  have d1 : decide ((P : Int) < 0) = false := decide_eq_false (by omega)
  have d2 : decide ((1000000000 : Int) < (P : Int)) = false := decide_eq_false (by omega)
  have d3 : decide ((Q : Int) < 1) = false := decide_eq_false (by omega)
  have d4 : decide ((1000000000 : Int) < (Q : Int)) = false := decide_eq_false (by omega)
  go_enter Tryd.func103, Tryd.ntmps103
  go_wp2_with fail
  refine (gcd_spec Q P Q P rfl rfl _ (by omega) (by omega)).mono ?_
  rintro e w1 ⟨rfl, hb1⟩
  rw [Nat.gcd_comm Q P]
  have hg := Nat.gcd_pos_of_pos_right P hQ0
  have q1 := tdivN P (Nat.gcd P Q)
  have q2 := tdivN Q (Nat.gcd P Q)
  have q3 := edivN P (Nat.gcd P Q)
  have q4 := edivN Q (Nat.gcd P Q)
  have hred : red P Q = ⟨P / Nat.gcd P Q, Q / Nat.gcd P Q⟩ := rfl
  have l1 := Nat.div_le_self P (Nat.gcd P Q)
  have l2 := Nat.div_le_self Q (Nat.gcd P Q)
  obtain ⟨A, hA⟩ : ∃ A, P / Nat.gcd P Q = A := ⟨_, rfl⟩
  obtain ⟨B, hB⟩ : ∃ B, Q / Nat.gcd P Q = B := ⟨_, rfl⟩
  rw [hA] at q1 q3 hred l1
  rw [hB] at q2 q4 hred l2
  clear hA hB
  obtain ⟨g, hG⟩ : ∃ g, Nat.gcd P Q = g := ⟨_, rfl⟩
  rw [hG] at q1 q2 q3 q4 hg
  rw [hG]
  have hgz : ¬ (g : Int) = 0 := by omega
  have hgz2 : ¬ g = 0 := by omega
  have w1' := IntWalk.i64_in (A : Int) (by omega)
  have w2' := IntWalk.i64_in (B : Int) (by omega)
  have B1 := Lib.hid (box_last hb1)
  have s0 := blk_cell B1.out 0 rfl
  have s1 := blk_cell B1.out 1 rfl
  have fr := fun j => blk_free B1.out j
  have hw1 := bw_trans (bw_alloc w _) hb1
  have HRED := Lib.hid hred
  have HG := Lib.hid hG
  clear hred hG
  go_wp2_with fail
  go_region
  go_wp2
  refine bodyPost_ret (v := .tuple #[.agg #[.int .i64 (A : Int), .int .i64 (B : Int)], .bool true]) (by simp [results, Tryd.results103, go_sem, s0, s1]) rfl ?_
  refine ⟨by rw [HRED.out], ?_⟩
  first
    | exact dr_set2 hw1 (Nat.le_refl _)
    | exact dr_set2d hw1 (Nat.le_refl _)
    | exact dr_set2 (bw_trans hw1 (bw_drew _)) (Nat.le_refl _)

/-- Reduced, and its numbers are small. -/
def Gd (a : Fr) : Prop := Good a ∧ a.p ≤ 1000000000 ∧ a.q ≤ 1000000000
set_option maxHeartbeats 800000 in
theorem ShareValid_spec (a : Fr) (w : World) (ha : Gd a) : Calls Tryd.prog 113 #[frV a] w fun e w' => e = .returned (.bool true) ∧ Bw w w' := by
  obtain ⟨hg, h1, h2⟩ := ha
  go_enter Tryd.func113, Tryd.ntmps113
  go_wp2_with fail
  refine (MakeShare_spec a.p a.q _ _ rfl rfl _ hg.1 h1 h2).mono ?_
  rw [good_red hg]
  rintro e w1 ⟨rfl, hb1⟩
  have B1 := Lib.hid (box_last hb1)
  have p0 := blk_cell B1.out 0 rfl
  have p1 := blk_cell B1.out 1 rfl
  have heq := fun W => eqlSh (a.p : Int) (a.q : Int) W
  have hbl := blk_lt B1.out
  go_wp2
  go_ret
  exact ⟨rfl, bw_trans (bw_trans (bw_alloc _ _) hb1) (bw_alloc _ _)⟩

set_option maxHeartbeats 400000 in
theorem l5One_any (w : World) : Calls Tryd.prog 76 #[] w fun e w' => e = .returned (frV ⟨1, 1⟩) ∧ Bw w w' := by
  go_enter Tryd.func76, Tryd.ntmps76
  go_wp2
  refine bodyPost_ret (v := frV ⟨1, 1⟩) (by simp [results, Tryd.results76, go_sem]) rfl ?_
  exact ⟨rfl, bw_alloc _ _⟩

def cmp1 (a : Fr) : Int := if a.p < a.q then -1 else if a.q < a.p then 1 else 0
theorem gd_one : Gd ⟨1, 1⟩ := ⟨⟨by show 0 < 1; omega, rfl⟩, by show 1 ≤ _; omega, by show 1 ≤ _; omega⟩
set_option maxHeartbeats 800000 in
theorem Compare_one (a : Fr) (w : World) (ha : Gd a) : Calls Tryd.prog 101 #[frV a, frV ⟨1, 1⟩] w fun e w' => e = .returned (.int .i64 (cmp1 a)) ∧ Bw w w' := by
  have h1 := ha.2.1
  have h2 := ha.2.2
  go_enter Tryd.func101, Tryd.ntmps101
  go_wp2_with fail
  refine (ShareValid_spec a _ ha).mono ?_
  rintro e w1 ⟨rfl, hb1⟩
  obtain ⟨hA, hB⟩ := box_two hb1
  have BA := Lib.hid hA
  have BB := Lib.hid hB
  clear hA hB
  have p0 := blk_cell BA.out 0 rfl
  have p1 := blk_cell BA.out 1 rfl
  have q0 := blk_cell BB.out 0 rfl
  have q1 := blk_cell BB.out 1 rfl
  go_wp2_with fail
  refine (ShareValid_spec ⟨1, 1⟩ _ gd_one).mono ?_
  rintro e w2 ⟨rfl, hb2⟩
  have hw2 := bw_trans (bw_trans (bw_trans (bw_alloc _ _) (bw_alloc _ _)) hb1) hb2
  clear p0 p1 q0 q1
  have p0 := blk_cell (blk_bw hb2 BA.out) 0 rfl
  have p1 := blk_cell (blk_bw hb2 BA.out) 1 rfl
  have q0 := blk_cell (blk_bw hb2 BB.out) 0 rfl
  have q1 := blk_cell (blk_bw hb2 BB.out) 1 rfl
  have w1' := IntWalk.i64_in (a.p : Int) (by omega)
  have w2' := IntWalk.i64_in (a.q : Int) (by omega)
  rcases Nat.lt_trichotomy a.p a.q with h | h | h
  · have HF : Hid (cmp1 a = -1) := by show _ = _; rw [cmp1, if_pos h]
    have g1 : decide ((a.p : Int) < (a.q : Int)) = true := decide_eq_true (by omega)
    go_wp2
    go_ret
    exact ⟨ret_i HF.out.symm, hw2⟩
  · have HF : Hid (cmp1 a = 0) := by show _ = _; rw [cmp1, if_neg (by omega), if_neg (by omega)]
    have g1 : decide ((a.p : Int) < (a.q : Int)) = false := decide_eq_false (by omega)
    have g1n : decide (a.p < a.q) = false := decide_eq_false (by omega)
    have g2 : decide ((a.q : Int) < (a.p : Int)) = false := decide_eq_false (by omega)
    have g2n : decide (a.q < a.p) = false := decide_eq_false (by omega)
    have H := Lib.hid h
    clear h
    go_wp2
    go_ret
    exact ⟨ret_i HF.out.symm, hw2⟩
  · have HF : Hid (cmp1 a = 1) := by show _ = _; rw [cmp1, if_neg (by omega), if_pos h]
    have g1 : decide ((a.p : Int) < (a.q : Int)) = false := decide_eq_false (by omega)
    have g1n : decide (a.p < a.q) = false := decide_eq_false (by omega)
    have g2 : decide ((a.q : Int) < (a.p : Int)) = true := decide_eq_true (by omega)
    go_wp2
    go_ret
    exact ⟨ret_i HF.out.symm, hw2⟩


theorem addF_q {a b : Fr} : (addF a b).q ≤ a.q * b.q := red_le.2
theorem addF_p {a b : Fr} : (addF a b).p ≤ a.p * b.q + b.p * a.q := red_le.1
set_option maxHeartbeats 1600000 in
theorem l2Add_any (a b : Fr) (w : World) (ha : 0 < a.q) (hb : 0 < b.q) (ha1 : a.p ≤ 100000000) (ha2 : a.q ≤ 100000000) (hb1 : b.p ≤ 100000000) (hb2 : b.q ≤ 100000000) (hs : Gd (addF a b)) :
    Calls Tryd.prog 100 #[frV a, frV b] w fun e w' => e = .returned (.tuple #[frV (addF a b), .bool true]) ∧ Bw w w' := by
  have hgc := addF_gcd (a := a) (b := b) ha hb
  have hg := Nat.gcd_pos_of_pos_left b.q ha
  have q1 := tdivN a.q (Nat.gcd a.q b.q)
  have q2 := tdivN b.q (Nat.gcd a.q b.q)
  have q3 := edivN a.q (Nat.gcd a.q b.q)
  have q4 := edivN b.q (Nat.gcd a.q b.q)
  have l1 := Nat.div_le_self a.q (Nat.gcd a.q b.q)
  have l2 := Nat.div_le_self b.q (Nat.gcd a.q b.q)
  have n1 : 0 < a.q / Nat.gcd a.q b.q := Nat.div_pos (Nat.le_of_dvd ha (Nat.gcd_dvd_left _ _)) hg
  obtain ⟨A, hA⟩ : ∃ A, a.q / Nat.gcd a.q b.q = A := ⟨_, rfl⟩
  obtain ⟨B, hB⟩ : ∃ B, b.q / Nat.gcd a.q b.q = B := ⟨_, rfl⟩
  rw [hA] at q1 q3 l1 hgc n1
  rw [hB] at q2 q4 l2 hgc
  have x1b := Nat.mul_le_mul ha1 (show B ≤ 100000000 by omega)
  have x2b := Nat.mul_le_mul hb1 (show A ≤ 100000000 by omega)
  have x3b := Nat.mul_le_mul (show A ≤ 100000000 by omega) hb2
  have hZ0 : 0 < A * b.q := Nat.mul_pos n1 hb
  obtain ⟨X, hX⟩ : ∃ X, a.p * B = X := ⟨_, rfl⟩
  obtain ⟨Y, hY⟩ : ∃ Y, b.p * A = Y := ⟨_, rfl⟩
  obtain ⟨Z, hZ⟩ : ∃ Z, A * b.q = Z := ⟨_, rfl⟩
  have hXi : (a.p : Int) * (B : Int) = (X : Int) := by rw [← hX]; simp
  have hYi : (b.p : Int) * (A : Int) = (Y : Int) := by rw [← hY]; simp
  have hZi : (A : Int) * (b.q : Int) = (Z : Int) := by rw [← hZ]; simp
  rw [hX, hY, hZ] at hgc
  rw [hX] at x1b
  rw [hY] at x2b
  rw [hZ] at x3b hZ0
  clear hA hB hX hY hZ
  obtain ⟨g, hG⟩ : ∃ g, Nat.gcd a.q b.q = g := ⟨_, rfl⟩
  rw [hG] at q1 q2 q3 q4 hg
  have hgz : ¬ (g : Int) = 0 := by omega
  have hgz2 : ¬ g = 0 := by omega
  have w1' := IntWalk.i64_in (X : Int) (by omega)
  have w2' := IntWalk.i64_in (Y : Int) (by omega)
  have w3' := IntWalk.i64_in (Z : Int) (by omega)
  have w4' := IntWalk.i64_in ((X : Int) + (Y : Int)) (by omega)
  have w5' := IntWalk.i64_in (A : Int) (by omega)
  have w6' := IntWalk.i64_in (B : Int) (by omega)
  have hred : red (X + Y) Z = ⟨(X + Y) / Nat.gcd Z (X + Y), Z / Nat.gcd Z (X + Y)⟩ := by rw [Nat.gcd_comm Z (X + Y)]; rfl
  have hrr := red_red (p := X + Y) hZ0
  have hrp := red_pos (p := X + Y) hZ0
  have h1 := tdivN (X + Y) (Nat.gcd Z (X + Y))
  have h2 := tdivN Z (Nat.gcd Z (X + Y))
  have h3 := edivN (X + Y) (Nat.gcd Z (X + Y))
  have h4 := edivN Z (Nat.gcd Z (X + Y))
  have hh := Nat.gcd_pos_of_pos_left (X + Y) hZ0
  obtain ⟨U, hU⟩ : ∃ U, (X + Y) / Nat.gcd Z (X + Y) = U := ⟨_, rfl⟩
  obtain ⟨V, hV⟩ : ∃ V, Z / Nat.gcd Z (X + Y) = V := ⟨_, rfl⟩
  rw [hU] at h1 h3 hred
  rw [hV] at h2 h4 hred
  clear hU hV
  obtain ⟨h, hH⟩ : ∃ h, Nat.gcd Z (X + Y) = h := ⟨_, rfl⟩
  rw [hH] at h1 h2 h3 h4 hh
  rw [← hgc, hred] at hs
  rw [hred] at hrr hrp hgc
  dsimp only at hrr hrp
  have hsp := hs.2.1
  have hsq := hs.2.2
  dsimp only at hsp hsq
  simp only [Int.natCast_add] at h1 h3
  have hhz : ¬ (h : Int) = 0 := by omega
  have hhz2 : ¬ h = 0 := by omega
  have w7' := IntWalk.i64_in (U : Int) (by omega)
  have w8' := IntWalk.i64_in (V : Int) (by omega)
  have HGC := Lib.hid hgc
  have HRED := Lib.hid hred
  have HS := Lib.hid hs
  have HG := Lib.hid hG
  have HH := Lib.hid hH
  clear hgc hred hs hG hH
  go_enter Tryd.func100, Tryd.ntmps100
  go_wp2_with fail
  refine (gcd_spec a.q b.q _ _ rfl rfl _ (by omega) (by omega)).mono ?_
  rw [HG.out]
  rintro e w1 ⟨rfl, hb1⟩
  obtain ⟨ha', hb', hc'⟩ := box_three hb1
  have BA := Lib.hid ha'
  have BB := Lib.hid hb'
  have BC := Lib.hid hc'
  clear ha' hb' hc'
  have hw1 := bw_trans (bw_trans (bw_trans (bw_alloc _ _) (bw_alloc _ _)) (bw_alloc _ _)) hb1
  have p0 := blk_cell BA.out 0 rfl
  have p1 := blk_cell BA.out 1 rfl
  have r0 := blk_cell BB.out 0 rfl
  have r1 := blk_cell BB.out 1 rfl
  go_wp2_with fail
  go_quiet (fail)
  go_wp2_with fail
  go_quiet (fail)
  go_wp2_with fail
  refine (gcd_spec Z (X + Y) _ _ rfl (by simp) _ (by omega) (by omega)).mono ?_
  rw [HH.out]
  rintro e w2 ⟨rfl, hb2⟩
  have hw2 : Bw w1 w2 := bw_trans (bw_drewN _ _) hb2
  clear p0 p1 r0 r1
  have B2 := Lib.hid (blk_bw hw2 BC.out)
  have s0 := blk_cell B2.out 0 rfl
  have s1 := blk_cell B2.out 1 rfl
  have fr := fun j => blk_free B2.out j
  go_wp2_with fail
  go_region_with (first | (go_at_call 103; refine (MakeShare_spec U V _ _ rfl rfl _ hrp hsp hsq).mono ?_; rw [hrr]; rintro e w3 ⟨rfl, hb3'⟩; have hb3 : Bw w2 w3 := bw_trans (bw_drew _) hb3'; clear hb3'; have B3 := Lib.hid (blk_bw hb3 B2.out); clear s0 s1 fr; have s0 := blk_cell B3.out 0 rfl; have s1 := blk_cell B3.out 1 rfl; have fr := fun j => blk_free B3.out j))
  all_goals try go_wp2
  all_goals
    refine bodyPost_ret (v := .tuple #[.agg #[.int .i64 (U : Int), .int .i64 (V : Int)], .bool true]) (by simp [results, Tryd.results100, go_sem, s0, s1]) rfl ?_
    exact ⟨by rw [← HGC.out], dr_set2 (bw_trans (bw_trans hw1 hw2) hb3) (by omega)⟩

/-- The critical tasks, their low need as high. -/
def critL : List Tk → List Tk
  | [] => []
  | t :: l => if t.crit = true then ⟨t.high, t.high, t.due, t.every, t.crit⟩ :: critL l else critL l
theorem critL_len : ∀ l : List Tk, (critL l).length ≤ l.length
  | [] => Nat.le_refl _
  | t :: l => by
    have := critL_len l
    simp only [critL]
    split <;> simp <;> omega
theorem critL_append : ∀ a b : List Tk, critL (a ++ b) = critL a ++ critL b
  | [], b => rfl
  | x :: a, b => by
    simp only [List.cons_append, critL, critL_append a b]
    split <;> rfl
theorem critL_snoc {l : List Tk} {k : Nat} {t : Tk} (h : l[k]? = some t) : critL (l.take (k + 1)) = critL (l.take k) ++ (if t.crit = true then [⟨t.high, t.high, t.due, t.every, t.crit⟩] else []) := by
  rw [take_snoc h, critL_append]
  by_cases hc : t.crit = true <;> simp [critL, hc]
theorem critL_ok {l : List Tk} (h : setOk l = true) : setOk (critL l) = true := by
  have hl := setOk_len h
  have ha := setOk_all h
  have hcl := critL_len l
  simp only [setOk, Bool.and_eq_true, decide_eq_true_eq, List.all_eq_true]
  refine ⟨by omega, ?_⟩
  clear h hl hcl
  induction l with
  | nil => simp [critL]
  | cons t l ih =>
    intro x hx
    simp only [critL] at hx
    split at hx
    · rename_i hc
      rcases List.mem_cons.1 hx with rfl | hx
      · have := (Tk.ok_iff t).1 (ha t (by simp))
        rw [Tk.ok_iff]
        exact ⟨by dsimp only; omega, by dsimp only; omega, by dsimp only; omega, by dsimp only; omega, by dsimp only; omega, .inl hc⟩
      · exact ih (fun y hy => ha y (by simp [hy])) x hx
    · exact ih (fun y hy => ha y (by simp [hy])) x hx
theorem critL_sum : ∀ (l : List Tk) (a : Fr), sumF (needF true false) (critL l) a = sumF (needF true true) l a
  | [], a => rfl
  | t :: l, a => by
    simp only [critL, sumF]
    by_cases hc : t.crit = true
    · rw [if_pos hc]
      simp only [sumF, needF, hc, if_true, Bool.false_eq_true, if_false]
      exact critL_sum l _
    · rw [if_neg hc]
      simp only [needF, if_neg hc]
      exact critL_sum l a
theorem critL_share (l : List Tk) : share (critL l) true false = share l true true := critL_sum l _
end Go.Proofs.YtaadlgpglfpmpaaDoor

/-
  The walks of the reference's LowShare, HighShare and FactorOf.
-/


namespace Go.Proofs.YtaadlgpglfpmpaaDoor
open Go.RowKit


theorem gd_small {a : Fr} {k : Nat} (hk : k ≤ 6) (hg : Good a) (hq2 : a.q ≤ 3200000) (hp : a.p ≤ k * a.q) : Gd a := by
  have := Nat.mul_le_mul hk hq2
  exact ⟨hg, by omega, by omega⟩

set_option maxRecDepth 100000 in
set_option maxHeartbeats 1600000 in
theorem LowShare_spec_false (ao : Option Addr) (c : Nat) (w : World) (l : List Tk) (hl : l.length ≤ 1048576) (hr : RT w ao l) (hso : setOk l = true) :
    Calls Tryd.prog 99 #[.slice ao l.length c, .bool false] w fun e w' => e = .returned (frV (share l false false)) ∧ Bw w w' := by
  have hl5 := setOk_len hso
  have HSO := Lib.hid hso
  have HR := Lib.hid hr
  clear hr
  go_enter Tryd.func99, Tryd.ntmps99
  go_wp2_with fail
  refine (spec.SetValid_walk _ _ _ l hl (HR.out.bw (bw_trans (bw_alloc _ _) (bw_alloc _ _)))).mono ?_
  rw [hso]
  rintro e w1 ⟨rfl, hb1⟩
  obtain ⟨hx1, hx2⟩ := box_two hb1
  have B1 := Lib.hid hx1
  have B2 := Lib.hid hx2
  have hz1 := hb1.size
  simp only [World.size_alloc] at hz1
  have hw1 := bw_trans (bw_trans (bw_alloc w _) (bw_alloc _ _)) hb1
  clear hso hx1 hx2
  go_wp2
  go_loopw [6] (fun i wr => ∃ (k : Nat) (a : Fr), k ≤ l.length ∧ i = .int .i64 k ∧ Hid (share l false false = sumF (needF false false) (l.drop k) a) ∧ Hid (wr.heap[w.heap.size + 1]? = some (.cells #[.int .i64 (a.p : Int), .int .i64 (a.q : Int)] 71 (0, 0))) ∧ Hid (wr.heap[w.heap.size]? = some box2) ∧ Hid (Good a) ∧ a.q ≤ 20 ^ k ∧ a.p ≤ k * a.q ∧ Bw w wr) (fun i _ => l.length - (intOf i).toNat)
  case atStart => exact ⟨0, ⟨0, 1⟩, Nat.zero_le _, rfl, rfl, B2.out, B1.out, ⟨by show 0 < 1; omega, by simp⟩, by simp, by simp, hw1⟩
  case round =>
    obtain ⟨k, a, hk, rfl, hsh, hbx, hrs, hgo, hq, hp, hbw⟩ := hrel
    have hz := hbw.size
    have hbl := blk_lt hbx.out
    by_cases hlt : k < l.length
    · obtain ⟨⟨x0, x1, x2, x3, x4⟩, b, off, htk, hao, hbs, c0, c1, c2, c3, c4⟩ := HR.out.get hbw hlt
      have hok := (Tk.ok_iff _).1 (setOk_at HSO.out htk)
      dsimp only at c0 c1 c2 c3 c4 hok
      subst hao
      have hst : sumF (needF false false) (l.drop k) a = match needF false false ⟨x0, x1, x2, x3, x4⟩ with | none => sumF (needF false false) (l.drop (k + 1)) a | some n => sumF (needF false false) (l.drop (k + 1)) (red (a.p * x3.toNat + n * a.q) (a.q * x3.toNat)) := by rw [drop_cons htk]; rfl
      have HST := Lib.hid hst
      clear hst htk
      by_cases hc : x4 = false
      · subst hc
        obtain ⟨E, rfl⟩ : ∃ E : Nat, x3 = E := ⟨x3.toNat, by omega⟩
        obtain ⟨n, rfl⟩ : ∃ n : Nat, x0 = n := ⟨x0.toNat, by omega⟩
        obtain ⟨u1, u2, u3⟩ := step_bd (n := n) (E := E) hgo.out hq hp (by omega) (by omega) (by omega)
        have hpw := pow20 (show k ≤ 5 by omega)
        have hpw1 := pow20 (show k + 1 ≤ 5 by omega)
        have hq2 : a.q ≤ 3200000 := Nat.le_trans hq hpw
        have hp2 : a.p ≤ 16000000 := Nat.le_trans hp (by
          have := Nat.mul_le_mul (show k ≤ 5 by omega) hq2; omega)
        have hE0 : 0 < E := by omega
        have hadd := addF_red (a := a) (p := n) hgo.out.1 hE0
        have hsl := red_le (p := n) (q := E)
        have hsp := red_pos (p := n) hE0
        have hnx : share l false false = sumF (needF false false) (l.drop (k + 1)) (addF a (red n E)) := by
          rw [hsh.out, HST.out, hadd]
          have : needF false false ⟨(n : Int), x1, x2, (E : Int), false⟩ = some n := by simp [needF]
          rw [this]; simp
        rw [← hadd] at u1 u2 u3
        have hgd : Gd (addF a (red n E)) := gd_small (show k + 1 ≤ 6 by omega) u1 (by omega) u3
        obtain ⟨sm, eS⟩ : ∃ sm, red n E = sm := ⟨_, rfl⟩
        rw [eS] at hnx u1 u2 u3 hgd hsl hsp
        have hgq := hgo.out.1
        have p0 := blk_cell hbx.out 0 rfl
        have p1 := blk_cell hbx.out 1 rfl
        have hne : (false == false) = true := rfl
        have HNX := Lib.hid hnx
        have U1 := Lib.hid u1
        have HGD := Lib.hid hgd
        have HADD := Lib.hid hadd
        clear hnx u1 hsh HST hgo hq hp hgd hadd
        have hbr := blk_lt hrs.out
        clear p0 p1
        go_upto_region 8 with fail
        go_cut [7] (fun u wc => ∃ h : Nat, u = .pointer (some ⟨h, 0, none⟩) ∧ Hid (wc.heap[h]? = some (.cells #[.int .i64 (sm.p : Int), .int .i64 (sm.q : Int)] 71 (0, 0))) ∧ Bw wr wc)
        case first =>
          go_region_with (first | (go_at_call 103; refine (MakeShare_spec n E _ _ rfl rfl _ hE0 (by omega) (by omega)).mono ?_; rw [eS]; rintro e w2 ⟨rfl, hb2'⟩; have hb2 : Bw wr w2 := (by first | exact bw_trans (bw_drew _) hb2' | exact bw_trans (bw_trans (bw_alloc _ _) (bw_drew _)) hb2'); try (have HB := Lib.hid (blk_bw (bw_trans (bw_drew _) hb2') (heap_alloc_new wr box2)); have t0 := blk_cell HB.out 0 rfl; have t1 := blk_cell HB.out 1 rfl; have tf := fun j => blk_free HB.out j)))
          all_goals try go_wp2_with fail
          all_goals go_meet
          all_goals first
            | exact ⟨w2.heap.size, rfl, heap_alloc_new w2 _, bw_trans hb2 (bw_alloc _ _)⟩
            | exact ⟨wr.heap.size, rfl, blk_set (blk_set HB.out 0 (.int .i64 (sm.p : Int))) 1 (.int .i64 (sm.q : Int)), bw_set (bw_set hb2 (Nat.le_refl _) _ _) (Nat.le_refl _) _ _⟩
        case rest =>
          obtain ⟨h, rfl, HX, hbc⟩ := hcut
          have HBX := Lib.hid (blk_bw hbc hbx.out)
          have HRS := Lib.hid (blk_bw hbc hrs.out)
          have p0 := blk_cell HBX.out 0 rfl
          have p1 := blk_cell HBX.out 1 rfl
          have t0 := blk_cell HX.out 0 rfl
          have t1 := blk_cell HX.out 1 rfl
          clear c0 c1 c2 c3 c4
          go_wp2_with fail
          refine (l2Add_any a sm _ hgq hsp (by omega) (by omega) (by omega) (by omega) HGD.out).mono ?_
          rintro e w3 ⟨rfl, hb3⟩
          have hb13 := bw_trans hbc hb3
          have HBX3 := Lib.hid (blk_bw hb3 HBX.out)
          have HRS3 := Lib.hid (blk_bw hb3 HRS.out)
          clear p0 p1 t0 t1
          have e0 := blk_cell HBX3.out 0 rfl
          have e1 := blk_cell HBX3.out 1 rfl
          have fr := fun j => blk_free HBX3.out j
          go_wp2
          go_roundw
          case rel => exact ⟨k + 1, addF a sm, by omega, by go_num, HNX.out, blk_set (blk_set HBX3.out 0 (.int .i64 ((addF a sm).p : Int))) 1 (.int .i64 ((addF a sm).q : Int)), blk_oth (blk_oth HRS3.out (by omega) _ _) (by omega) _ _, U1.out, u2, u3, dr_set2 (bw_trans hbw hb13) (by omega)⟩
          case measure => simp [intOf]; omega
      · have hx4 : x4 = !false := by cases x4 <;> simp_all
        have hne : ((!false) == false) = false := rfl
        subst hx4
        first | simp only [Bool.not_true] at hne c4 | simp only [Bool.not_false] at hne c4
        have hnx : share l false false = sumF (needF false false) (l.drop (k + 1)) a := by
          rw [hsh.out, HST.out]
          have : needF false false ⟨x0, x1, x2, x3, !false⟩ = none := by simp [needF]
          rw [this]
        have HNX := Lib.hid hnx
        have HC := Lib.hid hc
        have hq2 : a.q ≤ 20 ^ (k + 1) := Nat.le_trans hq (Nat.pow_le_pow_right (by omega) (by omega))
        have hp2 : a.p ≤ (k + 1) * a.q := Nat.le_trans hp (Nat.mul_le_mul_right _ (by omega))
        clear hnx hsh HST hc
        go_wp2
        go_roundw
        case rel => exact ⟨k + 1, a, by omega, by go_num, HNX.out, hbx.out, hrs.out, hgo.out, hq2, hp2, hbw⟩
        case measure => simp [intOf]; omega
    · have HF : Hid (share l false false = a) := by show _ = _; rw [hsh.out, drop_end hlt]; rfl
      have p0 := blk_cell hbx.out 0 rfl
      have p1 := blk_cell hbx.out 1 rfl
      have s0 := blk_cell hrs.out 0 rfl
      have s1 := blk_cell hrs.out 1 rfl
      have fr := fun j => blk_free hrs.out j
      go_wp2
      refine bodyPost_ret (v := .agg #[.int .i64 (a.p : Int), .int .i64 (a.q : Int)]) (by simp [results, Tryd.results99, go_sem, s0, s1]) rfl ?_
      exact ⟨by rw [HF.out], dr_set2 hbw (Nat.le_refl _)⟩
set_option maxRecDepth 100000 in
set_option maxHeartbeats 1600000 in
theorem LowShare_spec_true (ao : Option Addr) (c : Nat) (w : World) (l : List Tk) (hl : l.length ≤ 1048576) (hr : RT w ao l) (hso : setOk l = true) :
    Calls Tryd.prog 99 #[.slice ao l.length c, .bool true] w fun e w' => e = .returned (frV (share l true false)) ∧ Bw w w' := by
  have hl5 := setOk_len hso
  have HSO := Lib.hid hso
  have HR := Lib.hid hr
  clear hr
  go_enter Tryd.func99, Tryd.ntmps99
  go_wp2_with fail
  refine (spec.SetValid_walk _ _ _ l hl (HR.out.bw (bw_trans (bw_alloc _ _) (bw_alloc _ _)))).mono ?_
  rw [hso]
  rintro e w1 ⟨rfl, hb1⟩
  obtain ⟨hx1, hx2⟩ := box_two hb1
  have B1 := Lib.hid hx1
  have B2 := Lib.hid hx2
  have hz1 := hb1.size
  simp only [World.size_alloc] at hz1
  have hw1 := bw_trans (bw_trans (bw_alloc w _) (bw_alloc _ _)) hb1
  clear hso hx1 hx2
  go_wp2
  go_loopw [6] (fun i wr => ∃ (k : Nat) (a : Fr), k ≤ l.length ∧ i = .int .i64 k ∧ Hid (share l true false = sumF (needF true false) (l.drop k) a) ∧ Hid (wr.heap[w.heap.size + 1]? = some (.cells #[.int .i64 (a.p : Int), .int .i64 (a.q : Int)] 71 (0, 0))) ∧ Hid (wr.heap[w.heap.size]? = some box2) ∧ Hid (Good a) ∧ a.q ≤ 20 ^ k ∧ a.p ≤ k * a.q ∧ Bw w wr) (fun i _ => l.length - (intOf i).toNat)
  case atStart => exact ⟨0, ⟨0, 1⟩, Nat.zero_le _, rfl, rfl, B2.out, B1.out, ⟨by show 0 < 1; omega, by simp⟩, by simp, by simp, hw1⟩
  case round =>
    obtain ⟨k, a, hk, rfl, hsh, hbx, hrs, hgo, hq, hp, hbw⟩ := hrel
    have hz := hbw.size
    have hbl := blk_lt hbx.out
    by_cases hlt : k < l.length
    · obtain ⟨⟨x0, x1, x2, x3, x4⟩, b, off, htk, hao, hbs, c0, c1, c2, c3, c4⟩ := HR.out.get hbw hlt
      have hok := (Tk.ok_iff _).1 (setOk_at HSO.out htk)
      dsimp only at c0 c1 c2 c3 c4 hok
      subst hao
      have hst : sumF (needF true false) (l.drop k) a = match needF true false ⟨x0, x1, x2, x3, x4⟩ with | none => sumF (needF true false) (l.drop (k + 1)) a | some n => sumF (needF true false) (l.drop (k + 1)) (red (a.p * x3.toNat + n * a.q) (a.q * x3.toNat)) := by rw [drop_cons htk]; rfl
      have HST := Lib.hid hst
      clear hst htk
      by_cases hc : x4 = true
      · subst hc
        obtain ⟨E, rfl⟩ : ∃ E : Nat, x3 = E := ⟨x3.toNat, by omega⟩
        obtain ⟨n, rfl⟩ : ∃ n : Nat, x0 = n := ⟨x0.toNat, by omega⟩
        obtain ⟨u1, u2, u3⟩ := step_bd (n := n) (E := E) hgo.out hq hp (by omega) (by omega) (by omega)
        have hpw := pow20 (show k ≤ 5 by omega)
        have hpw1 := pow20 (show k + 1 ≤ 5 by omega)
        have hq2 : a.q ≤ 3200000 := Nat.le_trans hq hpw
        have hp2 : a.p ≤ 16000000 := Nat.le_trans hp (by
          have := Nat.mul_le_mul (show k ≤ 5 by omega) hq2; omega)
        have hE0 : 0 < E := by omega
        have hadd := addF_red (a := a) (p := n) hgo.out.1 hE0
        have hsl := red_le (p := n) (q := E)
        have hsp := red_pos (p := n) hE0
        have hnx : share l true false = sumF (needF true false) (l.drop (k + 1)) (addF a (red n E)) := by
          rw [hsh.out, HST.out, hadd]
          have : needF true false ⟨(n : Int), x1, x2, (E : Int), true⟩ = some n := by simp [needF]
          rw [this]; simp
        rw [← hadd] at u1 u2 u3
        have hgd : Gd (addF a (red n E)) := gd_small (show k + 1 ≤ 6 by omega) u1 (by omega) u3
        obtain ⟨sm, eS⟩ : ∃ sm, red n E = sm := ⟨_, rfl⟩
        rw [eS] at hnx u1 u2 u3 hgd hsl hsp
        have hgq := hgo.out.1
        have p0 := blk_cell hbx.out 0 rfl
        have p1 := blk_cell hbx.out 1 rfl
        have hne : (true == true) = true := rfl
        have HNX := Lib.hid hnx
        have U1 := Lib.hid u1
        have HGD := Lib.hid hgd
        have HADD := Lib.hid hadd
        clear hnx u1 hsh HST hgo hq hp hgd hadd
        have hbr := blk_lt hrs.out
        clear p0 p1
        go_upto_region 8 with fail
        go_cut [7] (fun u wc => ∃ h : Nat, u = .pointer (some ⟨h, 0, none⟩) ∧ Hid (wc.heap[h]? = some (.cells #[.int .i64 (sm.p : Int), .int .i64 (sm.q : Int)] 71 (0, 0))) ∧ Bw wr wc)
        case first =>
          go_region_with (first | (go_at_call 103; refine (MakeShare_spec n E _ _ rfl rfl _ hE0 (by omega) (by omega)).mono ?_; rw [eS]; rintro e w2 ⟨rfl, hb2'⟩; have hb2 : Bw wr w2 := (by first | exact bw_trans (bw_drew _) hb2' | exact bw_trans (bw_trans (bw_alloc _ _) (bw_drew _)) hb2'); try (have HB := Lib.hid (blk_bw (bw_trans (bw_drew _) hb2') (heap_alloc_new wr box2)); have t0 := blk_cell HB.out 0 rfl; have t1 := blk_cell HB.out 1 rfl; have tf := fun j => blk_free HB.out j)))
          all_goals try go_wp2_with fail
          all_goals go_meet
          all_goals first
            | exact ⟨w2.heap.size, rfl, heap_alloc_new w2 _, bw_trans hb2 (bw_alloc _ _)⟩
            | exact ⟨wr.heap.size, rfl, blk_set (blk_set HB.out 0 (.int .i64 (sm.p : Int))) 1 (.int .i64 (sm.q : Int)), bw_set (bw_set hb2 (Nat.le_refl _) _ _) (Nat.le_refl _) _ _⟩
        case rest =>
          obtain ⟨h, rfl, HX, hbc⟩ := hcut
          have HBX := Lib.hid (blk_bw hbc hbx.out)
          have HRS := Lib.hid (blk_bw hbc hrs.out)
          have p0 := blk_cell HBX.out 0 rfl
          have p1 := blk_cell HBX.out 1 rfl
          have t0 := blk_cell HX.out 0 rfl
          have t1 := blk_cell HX.out 1 rfl
          clear c0 c1 c2 c3 c4
          go_wp2_with fail
          refine (l2Add_any a sm _ hgq hsp (by omega) (by omega) (by omega) (by omega) HGD.out).mono ?_
          rintro e w3 ⟨rfl, hb3⟩
          have hb13 := bw_trans hbc hb3
          have HBX3 := Lib.hid (blk_bw hb3 HBX.out)
          have HRS3 := Lib.hid (blk_bw hb3 HRS.out)
          clear p0 p1 t0 t1
          have e0 := blk_cell HBX3.out 0 rfl
          have e1 := blk_cell HBX3.out 1 rfl
          have fr := fun j => blk_free HBX3.out j
          go_wp2
          go_roundw
          case rel => exact ⟨k + 1, addF a sm, by omega, by go_num, HNX.out, blk_set (blk_set HBX3.out 0 (.int .i64 ((addF a sm).p : Int))) 1 (.int .i64 ((addF a sm).q : Int)), blk_oth (blk_oth HRS3.out (by omega) _ _) (by omega) _ _, U1.out, u2, u3, dr_set2 (bw_trans hbw hb13) (by omega)⟩
          case measure => simp [intOf]; omega
      · have hx4 : x4 = !true := by cases x4 <;> simp_all
        have hne : ((!true) == true) = false := rfl
        subst hx4
        first | simp only [Bool.not_true] at hne c4 | simp only [Bool.not_false] at hne c4
        have hnx : share l true false = sumF (needF true false) (l.drop (k + 1)) a := by
          rw [hsh.out, HST.out]
          have : needF true false ⟨x0, x1, x2, x3, !true⟩ = none := by simp [needF]
          rw [this]
        have HNX := Lib.hid hnx
        have HC := Lib.hid hc
        have hq2 : a.q ≤ 20 ^ (k + 1) := Nat.le_trans hq (Nat.pow_le_pow_right (by omega) (by omega))
        have hp2 : a.p ≤ (k + 1) * a.q := Nat.le_trans hp (Nat.mul_le_mul_right _ (by omega))
        clear hnx hsh HST hc
        go_wp2
        go_roundw
        case rel => exact ⟨k + 1, a, by omega, by go_num, HNX.out, hbx.out, hrs.out, hgo.out, hq2, hp2, hbw⟩
        case measure => simp [intOf]; omega
    · have HF : Hid (share l true false = a) := by show _ = _; rw [hsh.out, drop_end hlt]; rfl
      have p0 := blk_cell hbx.out 0 rfl
      have p1 := blk_cell hbx.out 1 rfl
      have s0 := blk_cell hrs.out 0 rfl
      have s1 := blk_cell hrs.out 1 rfl
      have fr := fun j => blk_free hrs.out j
      go_wp2
      refine bodyPost_ret (v := .agg #[.int .i64 (a.p : Int), .int .i64 (a.q : Int)]) (by simp [results, Tryd.results99, go_sem, s0, s1]) rfl ?_
      exact ⟨by rw [HF.out], dr_set2 hbw (Nat.le_refl _)⟩
end Go.Proofs.YtaadlgpglfpmpaaDoor

/-
  The walks of the reference's HighShare, HoldsPlain and FactorOf.
-/

namespace Go.Proofs.YtaadlgpglfpmpaaDoor
open Go.RowKit


set_option maxRecDepth 100000 in
set_option maxHeartbeats 1600000 in
theorem CriticalOf_spec (ao : Option Addr) (c : Nat) (w : World) (l : List Tk) (hl : l.length ≤ 1048576) (hr : RT w ao l) (hso : setOk l = true) :
    Calls Tryd.prog 121 #[.slice ao l.length c] w (Ret w 76 5 (tks (critL l)) (critL l).length) := by
  obtain ⟨i0, hi0, hz0, hz1, hz2⟩ := info_parts infoTask
  have hl5 := setOk_len hso
  have HSO := Lib.hid hso
  have HR := Lib.hid hr
  clear hr
  clear hso
  go_enter Tryd.func121, Tryd.ntmps121
  go_wp2
  go_loopw [3, 4] (fun u i wr => ∃ (k : Nat) (q : List Tk), k ≤ l.length ∧ i = .int .i64 k ∧ Hid (q = critL (l.take k)) ∧ q.length ≤ k ∧ wr.ownsRow w.heap.size 76 5 u q.length (tks q) ∧ Bw w wr) (fun _ i _ => l.length - (intOf i).toNat)
  case atStart => exact ⟨0, [], Nat.zero_le _, rfl, rfl, Nat.le_refl _, by simpa [tks] using World.ownsRow_made (base := w.heap.size) (e := 76) (size := 5) w #[] 0 (Nat.le_refl _) (by simp) rfl, bw_alloc _ _⟩
  case round =>
    obtain ⟨k, q, hk, rfl, hq, hql, hown, hbw⟩ := hrel
    have hz := hbw.size
    obtain ⟨ao', c', hu⟩ := own_form hown
    subst hu
    by_cases hlt : k < l.length
    · go_wp2_with fail
      refine (spec.SetValid_walk _ _ _ l hl (HR.out.bw hbw)).mono ?_
      rw [HSO.out]
      rintro e w1 ⟨rfl, hb1⟩
      have hbw1 := bw_trans hbw hb1
      have hown1 := row_bw hown hb1
      obtain ⟨⟨x0, x1, x2, x3, x4⟩, b, off, htk, hao, hbs, c0, c1, c2, c3, c4⟩ := HR.out.get hbw1 hlt
      dsimp only at c0 c1 c2 c3 c4
      subst hao
      have hst := critL_snoc htk
      rw [← hq.out] at hst
      have HST := Lib.hid hst
      have hz1' := hbw1.size
      clear hst htk hown
      cases x4 with
      | true =>
        have HN : Hid (q ++ [(⟨x1, x1, x2, x3, true⟩ : Tk)] = critL (l.take (k + 1))) := by show _ = _; rw [HST.out]; rfl
        go_wp2_with (at_builtin; refine wpList_append_own _ rfl _ _ 36 rfl w.heap.size 76 i0 zTask 5 40 Tryd.underlying36 hi0 hz0 hz1 hz2 rfl (by decide) _ _ _ rfl ((row_bw hown1 (bw_alloc _ _)).alloc _) ⟨w1.heap.size + 1, 0, none⟩ 1 1 (tkCells ⟨x1, x1, x2, x3, true⟩) rfl rfl (by have := cell_task_new (w1.alloc (.cells #[vi x1, vi x1, vi x2, vi x3, .bool true] 76)) ⟨x1, x1, x2, x3, true⟩ 76; simpa using this) (oneT _) (by unfold maxLen; omega) (by omega) (by simp only [World.size_alloc]; omega) ?_; intro v' w2 hown' hgrow _)
        have hown2 : w2.ownsRow w.heap.size 76 5 v' (q ++ [(⟨x1, x1, x2, x3, true⟩ : Tk)]).length (tks (q ++ [(⟨x1, x1, x2, x3, true⟩ : Tk)])) := by simpa [tks] using hown'
        have hb2 : Bw w w2 := Below.grown (Below.alloc (bw_trans hbw1 (bw_alloc _ _)) (by simp; omega) _) hgrow (by simp; omega) (fun g hg => by have := own_cap0 hown1 g hg; omega)
        clear hown' hgrow
        go_wp2
        go_roundw
        case rel => exact ⟨k + 1, q ++ [(⟨x1, x1, x2, x3, true⟩ : Tk)], by omega, by go_num, HN.out, by simp; omega, hown2, hb2⟩
        case measure => simp [intOf]; omega
      | false =>
        have HN : Hid (q = critL (l.take (k + 1))) := by show _ = _; rw [HST.out]; simp
        go_wp2
        go_roundw
        case rel => exact ⟨k + 1, q, by omega, by go_num, HN.out, by omega, row_bw hown1 (bw_alloc _ _), bw_trans hbw1 (bw_alloc _ _)⟩
        case measure => simp [intOf]; omega
    · have HF : Hid (critL l = q) := by show _ = _; rw [hq.out, take_end hlt]
      have hltb : decide ((k : Int) < (l.length : Int)) = false := decide_eq_false (by omega)
      have hltn : decide (k < l.length) = false := decide_eq_false hlt
      go_wp2
      go_ret
      exact ⟨ao', c', by rw [HF.out]; rfl, by rw [HF.out]; exact hown, hbw⟩

set_option maxRecDepth 100000 in
set_option maxHeartbeats 800000 in
theorem HighShare_spec (ao : Option Addr) (c : Nat) (w : World) (l : List Tk) (hl : l.length ≤ 1048576) (hr : RT w ao l) (hso : setOk l = true) :
    Calls Tryd.prog 112 #[.slice ao l.length c] w fun e w' => e = .returned (frV (share l true true)) ∧ Bw w w' := by
  have HR := Lib.hid hr
  clear hr
  go_enter Tryd.func112, Tryd.ntmps112
  go_wp2_with fail
  refine (spec.SetValid_walk _ _ _ l hl (HR.out.bw (bw_alloc _ _))).mono ?_
  rw [hso]
  rintro e w1 ⟨rfl, hb1⟩
  have hw1 := bw_trans (bw_alloc w _) hb1
  go_wp2_with fail
  refine (CriticalOf_spec _ _ _ l hl (HR.out.bw hw1) hso).mono ?_
  rintro e w2 ⟨a2, c2, rfl, h2, hb2⟩
  have HK := Lib.hid (Own.ofRow h2).rt
  have hlc : (critL l).length ≤ 1048576 := Nat.le_trans (critL_len l) hl
  clear h2
  go_wp2_with fail
  refine (LowShare_spec_true _ _ _ (critL l) hlc HK.out (critL_ok hso)).mono ?_
  rw [critL_share]
  rintro e w3 ⟨rfl, hb3⟩
  have hw3 := bw_trans hw1 (bw_trans hb2 hb3)
  have B1 := Lib.hid (blk_bw (bw_trans hb2 hb3) (box_last hb1))
  have s0 := blk_cell B1.out 0 rfl
  have s1 := blk_cell B1.out 1 rfl
  have fr := fun j => blk_free B1.out j
  go_wp2
  refine bodyPost_ret (v := frV (share l true true)) (by simp [results, Tryd.results112, go_sem, s0, s1]) rfl ?_
  exact ⟨rfl, dr_set2 hw3 (Nat.le_refl _)⟩

set_option maxHeartbeats 800000 in
theorem Implicit_spec (ao : Option Addr) (c : Nat) (w : World) (l : List Tk) (hl : l.length ≤ 1048576) (hr : RT w ao l) :
    Calls Tryd.prog 97 #[.slice ao l.length c] w fun e w' => e = .returned (.bool (implB l)) ∧ Bw w w' := by
  have HR := Lib.hid hr
  clear hr
  obtain ⟨o, HO⟩ : ∃ o, Hid (setOk l = o) := ⟨_, rfl⟩
  go_enter Tryd.func97, Tryd.ntmps97
  go_wp2
  go_loopw [3] (fun i wr => ∃ k : Nat, k ≤ l.length ∧ i = .int .i64 k ∧ Hid (dueB l = dueB (l.drop k)) ∧ Bw w wr) (fun i _ => l.length - (intOf i).toNat)
  case atStart => exact ⟨0, Nat.zero_le _, rfl, rfl, Bw.refl _⟩
  case round =>
    obtain ⟨k, hk, rfl, hx, hbw⟩ := hrel
    by_cases hlt : k < l.length
    · go_wp2_with fail
      refine (spec.SetValid_walk _ _ _ l hl (HR.out.bw hbw)).mono ?_
      rw [HO.out]
      rintro e w1 ⟨rfl, hb1⟩
      have hbw1 := bw_trans hbw hb1
      cases o with
      | false =>
        have HN : Hid (implB l = false) := by show _ = _; rw [implB_eq, HO.out]; rfl
        go_wp2_with fail
        refine (spec.SetValid_walk _ _ _ l hl (HR.out.bw hbw1)).mono ?_
        rw [HO.out]
        rintro e w2 ⟨rfl, hb2⟩
        go_wp2
        go_ret
        exact ⟨ret_b HN.out.symm, bw_trans hbw1 hb2⟩
      | true =>
        obtain ⟨⟨x0, x1, x2, x3, x4⟩, b, off, htk, hao, hbs, c0, c1, c2, c3, c4⟩ := HR.out.get hbw1 hlt
        dsimp only at c0 c1 c2 c3 c4
        subst hao
        have hst := dueB_step htk
        have HST := Lib.hid hst
        have HTK := Lib.hid htk
        clear hst htk
        by_cases he : x2 = x3
        · have he' : (x2 != x3) = false := by simp [he]
          have HN : Hid (dueB l = dueB (l.drop (k + 1))) := by show _ = _; rw [hx.out, HST.out]; simp [he]
          have HE := Lib.hid he
          clear he
          go_wp2_with fail
          go_quiet (fail)
          go_wp2
          go_roundw
          case rel => exact ⟨k + 1, by omega, by go_num, HN.out, blw_drewN hbw1 _⟩
          case measure => simp [intOf]; omega
        · have he' : (x2 != x3) = true := by simp [he]
          have HN : Hid (implB l = false) := by show _ = _; rw [implB_eq, hx.out, HST.out]; simp [he]
          have HE := Lib.hid he
          clear he
          go_wp2_with fail
          go_quiet (fail)
          go_wp2
          go_ret
          exact ⟨ret_b HN.out.symm, blw_drewN hbw1 _⟩
    · have HN : Hid (implB l = o) := by show _ = _; rw [implB_eq, hx.out, drop_end hlt, HO.out]; simp [dueB]
      have hltb : decide ((k : Int) < (l.length : Int)) = false := decide_eq_false (by omega)
      have hltn : decide (k < l.length) = false := decide_eq_false hlt
      go_wp2_with fail
      refine (spec.SetValid_walk _ _ _ l hl (HR.out.bw hbw)).mono ?_
      rw [HO.out]
      rintro e w1 ⟨rfl, hb1⟩
      go_wp2
      go_ret
      exact ⟨ret_b HN.out.symm, bw_trans hbw hb1⟩


theorem sum_gd {a b : Fr} (ha : 0 < a.q) (hb : 0 < b.q) (h1 : a.p ≤ 5 * a.q) (h2 : b.p ≤ 5 * b.q) (h3 : a.q * b.q ≤ 3200000) : Gd (addF a b) := by
  have hp := addF_p (a := a) (b := b)
  have hq := addF_q (a := a) (b := b)
  have e1 := Nat.mul_le_mul_right b.q h1
  have e2 := Nat.mul_le_mul_right a.q h2
  rw [Nat.mul_assoc] at e1 e2
  rw [Nat.mul_comm b.q a.q] at e2
  exact ⟨addF_good ha hb, by omega, by omega⟩
theorem cmp1_fits (a : Fr) : decide (cmp1 a ≤ 0) = fitsF a := by
  unfold cmp1 fitsF
  rcases Nat.lt_trichotomy a.p a.q with h | h | h
  · rw [if_pos h]; simp; omega
  · rw [if_neg (by omega), if_neg (by omega)]; simp; omega
  · rw [if_neg (by omega), if_pos h]; simp; omega

set_option maxRecDepth 100000 in
set_option maxHeartbeats 1600000 in
theorem HoldsPlain_spec (ao : Option Addr) (c : Nat) (w : World) (l : List Tk) (hl : l.length ≤ 1048576) (hr : RT w ao l) :
    Calls Tryd.prog 98 #[.slice ao l.length c] w fun e w' => e = .returned (.bool (plainB l)) ∧ Bw w w' := by
  have HR := Lib.hid hr
  clear hr
  go_enter Tryd.func98, Tryd.ntmps98
  go_wp2_with fail
  refine (Implicit_spec _ _ _ l hl HR.out).mono ?_
  obtain ⟨q, HQ⟩ : ∃ q, Hid (implB l = q) := ⟨_, rfl⟩
  rw [HQ.out]
  rintro e w1 ⟨rfl, hb1⟩
  cases q with
  | false =>
    have HF : Hid (plainB l = false) := by show _ = _; rw [plainB, HQ.out]; rfl
    go_wp2
    go_ret
    exact ⟨ret_b HF.out.symm, hb1⟩
  | true =>
    have hso : setOk l = true := by have h := HQ.out; rw [implB_eq] at h; simp at h; exact h.1
    obtain ⟨p1, p2, p3⟩ := share_le hso false false
    obtain ⟨q1, q2, q3⟩ := share_le hso true true
    have hgd := sum_gd p1 q1 (share_bd hso false false).2.2 (share_bd hso true true).2.2 (share_both hso false true)
    go_wp2_with fail
    refine (LowShare_spec_false _ _ _ l hl (HR.out.bw hb1) hso).mono ?_
    rintro e w2 ⟨rfl, hb2⟩
    go_wp2_with fail
    refine (HighShare_spec _ _ _ l hl (HR.out.bw (bw_trans hb1 hb2)) hso).mono ?_
    rintro e w3 ⟨rfl, hb3⟩
    go_wp2_with fail
    refine (l2Add_any _ _ _ p1 q1 p2 (by omega) q2 (by omega) hgd).mono ?_
    rintro e w4 ⟨rfl, hb4⟩
    have HF : Hid (plainB l = fitsF (addF (share l false false) (share l true true))) := by show _ = _; rw [plainB, HQ.out]; rfl
    obtain ⟨sm, eS⟩ : ∃ sm, addF (share l false false) (share l true true) = sm := ⟨_, rfl⟩
    rw [eS] at HF hgd
    rw [eS]
    have hw4 := bw_trans (bw_trans (bw_trans hb1 hb2) hb3) hb4
    have HGD := Lib.hid hgd
    have HCF := Lib.hid (cmp1_fits sm)
    clear hgd p1 p2 p3 q1 q2 q3
    obtain ⟨C, hC⟩ : ∃ C, cmp1 sm = C := ⟨_, rfl⟩
    have hbx := heap_alloc_new w4 (.cells #[.int .i64 (sm.p : Int), .int .i64 (sm.q : Int)] 71)
    have p0 := blk_cell hbx 0 rfl
    have p1 := blk_cell hbx 1 rfl
    have c0 := fun d os => cell_regrown p0 d os
    have c1 := fun d os => cell_regrown p1 d os
    clear hbx p0 p1
    go_wp2_with fail
    refine wp_region_quiet_below (by kernel_rfl) (by kernel_rfl) ?_
    repeat (go_big_quiet_step ((first | (go_at_call 76; exact Calls.regrown_of (l5One_any _)) | (go_at_call 101; exact Calls.regrown_of (Compare_one sm _ HGD.out)))))
    refine wpQuiet_nil ?_
    intro wq hw'
    have hbq := bw_of_ex hw'
    clear hw'
    have hcf := HCF.out
    rw [hC] at hcf
    rw [hC]
    go_wp2
    go_ret
    exact ⟨ret_b (by rw [HF.out, ← hcf]), bw_trans (bw_trans hw4 (bw_alloc _ _)) hbq⟩
end Go.Proofs.YtaadlgpglfpmpaaDoor

/-
  The walk of the reference's FactorOf.
-/

namespace Go.Proofs.YtaadlgpglfpmpaaDoor
open Go.RowKit

theorem cmp1_gt (a : Fr) : decide (0 < cmp1 a) = !fitsF a := by
  rw [← cmp1_fits]
  by_cases h : cmp1 a ≤ 0
  · rw [decide_eq_true h, decide_eq_false (by omega)]; rfl
  · rw [decide_eq_false h, decide_eq_true (by omega)]; rfl
theorem cmp1_eq (a : Fr) : (cmp1 a == 0) = decide (a.p = a.q) := by
  unfold cmp1
  rcases Nat.lt_trichotomy a.p a.q with h | h | h
  · rw [if_pos h, decide_eq_false (by omega)]; rfl
  · rw [if_neg (by omega), if_neg (by omega), decide_eq_true h]; rfl
  · rw [if_neg (by omega), if_pos h, decide_eq_false (by omega)]; rfl

set_option maxRecDepth 100000 in
set_option maxHeartbeats 3200000 in
theorem FactorOf_spec (ao : Option Addr) (c : Nat) (w : World) (l : List Tk) (hl : l.length ≤ 1048576) (hr : RT w ao l) :
    Calls Tryd.prog 77 #[.slice ao l.length c] w fun e w' => e = .returned (.tuple #[frV (factor l).1, .bool (factor l).2]) ∧ Bw w w' := by
  have HR := Lib.hid hr
  clear hr
  go_enter Tryd.func77, Tryd.ntmps77
  go_wp2_with fail
  refine (Implicit_spec _ _ _ l hl (HR.out.bw (bw_alloc _ _))).mono ?_
  obtain ⟨q, HQ⟩ : ∃ q, Hid (implB l = q) := ⟨_, rfl⟩
  rw [HQ.out]
  rintro e w1 ⟨rfl, hb1⟩
  have hw1 := bw_trans (bw_alloc w _) hb1
  have B1 := Lib.hid (box_last hb1)
  cases q with
  | false =>
    have s0 := blk_cell B1.out 0 rfl
    have s1 := blk_cell B1.out 1 rfl
    have fr := fun j => blk_free B1.out j
    have HF := Lib.hid (factor_no HQ.out)
    go_wp2
    refine bodyPost_ret (v := .tuple #[frV ⟨0, 0⟩, .bool false]) (by simp [results, Tryd.results77, go_sem, s0, s1]) rfl ?_
    exact ⟨by rw [HF.out], dr_set2 hw1 (Nat.le_refl _)⟩
  | true =>
    have hso : setOk l = true := by have h := HQ.out; rw [implB_eq] at h; simp at h; exact h.1
    go_wp2_with fail
    refine (HoldsPlain_spec _ _ _ l hl (HR.out.bw hw1)).mono ?_
    obtain ⟨p, HP⟩ : ∃ p, Hid (plainB l = p) := ⟨_, rfl⟩
    rw [HP.out]
    rintro e w2 ⟨rfl, hb2⟩
    have hw2 := bw_trans hw1 hb2
    have B2 := Lib.hid (blk_bw hb2 B1.out)
    cases p with
    | true =>
      go_wp2_with fail
      refine (l5One_any _).mono ?_
      rintro e w3 ⟨rfl, hb3⟩
      have hw3 := bw_trans hw2 hb3
      have B3 := Lib.hid (blk_bw hb3 B2.out)
      have s0 := blk_cell B3.out 0 rfl
      have s1 := blk_cell B3.out 1 rfl
      have fr := fun j => blk_free B3.out j
      have HF := Lib.hid (factor_plain HQ.out HP.out)
      go_wp2
      refine bodyPost_ret (v := .tuple #[frV ⟨1, 1⟩, .bool true]) (by simp [results, Tryd.results77, go_sem, s0, s1]) rfl ?_
      exact ⟨by rw [HF.out], dr_set2 hw3 (Nat.le_refl _)⟩
    | false =>
      obtain ⟨p1, p2, p3⟩ := share_le hso false false
      obtain ⟨q1, q2, q3⟩ := share_le hso true false
      have hgd := sum_gd p1 q1 (share_bd hso false false).2.2 (share_bd hso true false).2.2 (share_both hso false false)
      have hjb := share_both hso false false
      have hpq := (share_bd hso true false).2.2
      have hga := (share_bd hso false false).1
      obtain ⟨a, eA⟩ : ∃ a, share l false false = a := ⟨_, rfl⟩
      obtain ⟨b, eB⟩ : ∃ b, share l true false = b := ⟨_, rfl⟩
      have HFB := Lib.hid (fun h3 => factor_bad (l := l) HQ.out HP.out h3)
      have HFG := Lib.hid (fun h3 => factor_good (l := l) HQ.out HP.out h3)
      rw [eA] at p1 p2 p3 hjb HFB HFG hga hgd
      rw [eB] at q1 q2 q3 hjb HFB HFG hpq hgd
      have HEA := Lib.hid eA
      have HEB := Lib.hid eB
      clear eA eB
      have hgda : Gd a := ⟨hga, by omega, by omega⟩
      go_wp2_with fail
      refine (LowShare_spec_false _ _ _ l hl (HR.out.bw hw2) hso).mono ?_
      rw [HEA.out]
      rintro e w3 ⟨rfl, hb3⟩
      go_wp2_with fail
      refine (LowShare_spec_true _ _ _ l hl (HR.out.bw (bw_trans (bw_trans hw2 hb3) (bw_alloc _ _))) hso).mono ?_
      rw [HEB.out]
      rintro e w4 ⟨rfl, hb4⟩
      have HA4 := Lib.hid (box_last hb4)
      have a0 := blk_cell HA4.out 0 rfl
      have a1 := blk_cell HA4.out 1 rfl
      have b34 := bw_trans (bw_alloc w3 _) hb4
      have hw4 := bw_trans (bw_trans hw2 hb3) b34
      have B4 := Lib.hid (blk_bw (bw_trans hb3 b34) B2.out)
      have hal := blk_lt HA4.out
      go_wp2_with fail
      refine (l2Add_any a b _ p1 q1 p2 (by omega) q2 (by omega) hgd).mono ?_
      rintro e w5 ⟨rfl, hb5⟩
      have HB5 := Lib.hid (box_last hb5)
      have b45 := bw_trans (bw_alloc w4 _) hb5
      have HA5 := Lib.hid (blk_bw b45 HA4.out)
      have B5 := Lib.hid (blk_bw b45 B4.out)
      have hw5 := bw_trans hw4 b45
      obtain ⟨sm, eS⟩ : ∃ sm, addF a b = sm := ⟨_, rfl⟩
      have HES := Lib.hid eS
      rw [eS] at hgd ⊢
      rw [eS] at HFB HFG
      have HGD := Lib.hid hgd
      have HGA := Lib.hid hgda
      have HG1 := Lib.hid (cmp1_gt sm)
      have HG2 := Lib.hid (cmp1_eq a)
      clear a0 a1 eS hgd hgda
      have bw56 : Bw w5 (w5.alloc (.cells #[.int .i64 (sm.p : Int), .int .i64 (sm.q : Int)] 71)) := bw_alloc _ _
      have S0 := blk_cell (heap_alloc_new w5 (.cells #[.int .i64 (sm.p : Int), .int .i64 (sm.q : Int)] 71)) 0 rfl
      have S1 := blk_cell (heap_alloc_new w5 (.cells #[.int .i64 (sm.p : Int), .int .i64 (sm.q : Int)] 71)) 1 rfl
      have A0 := blk_cell (blk_bw bw56 HA5.out) 0 rfl
      have A1 := blk_cell (blk_bw bw56 HA5.out) 1 rfl
      have c0 := fun d os => cell_regrown S0 d os
      have c1 := fun d os => cell_regrown S1 d os
      have c2 := fun d os => cell_regrown A0 d os
      have c3 := fun d os => cell_regrown A1 d os
      clear S0 S1 A0 A1
      obtain ⟨f, HFT⟩ : ∃ f, Hid (fitsF sm = f) := ⟨_, rfl⟩
      have hg1 := HG1.out
      rw [HFT.out] at hg1
      cases f with
      | false =>
        have HF := Lib.hid (HFB.out (.inl HFT.out))
        simp only [Bool.not_false] at hg1
        go_wp2_with fail
        refine wp_region_quiet_below (by kernel_rfl) (by kernel_rfl) ?_
        repeat (go_big_quiet_step ((first | (go_at_call 76; exact Calls.regrown_of (l5One_any _)) | (go_at_call 101; exact Calls.regrown_of (Compare_one sm _ HGD.out)))))
        refine wpQuiet_nil ?_
        intro wq hw'
        have hbq := bw_of_ex hw'
        clear hw'
        have hw6 := bw_trans (bw_trans hw5 bw56) hbq
        have B6 := Lib.hid (blk_bw (bw_trans bw56 hbq) B5.out)
        clear c0 c1 c2 c3
        have s0 := blk_cell B6.out 0 rfl
        have s1 := blk_cell B6.out 1 rfl
        have fr := fun j => blk_free B6.out j
        go_wp2
        refine bodyPost_ret (v := .tuple #[frV ⟨0, 0⟩, .bool false]) (by simp [results, Tryd.results77, go_sem, s0, s1]) rfl ?_
        exact ⟨by rw [HF.out], dr_set2 hw6 (Nat.le_refl _)⟩
      | true =>
        simp only [Bool.not_true] at hg1
        have hg2 := HG2.out
        go_wp2_with fail
        refine wp_region_quiet_below (by kernel_rfl) (by kernel_rfl) ?_
        repeat (go_big_quiet_step ((first | (go_at_call 76; exact Calls.regrown_of (l5One_any _)) | (go_at_call 101; exact Calls.regrown_of (Compare_one _ _ (by first | exact HGD.out | exact HGA.out))))))
        refine wpQuiet_nil ?_
        intro wq hw'
        have hbq := bw_of_ex hw'
        clear hw'
        have hw6 := bw_trans (bw_trans hw5 bw56) hbq
        have B6 := Lib.hid (blk_bw (bw_trans bw56 hbq) B5.out)
        have HA6 := Lib.hid (blk_bw (bw_trans bw56 hbq) HA5.out)
        have HB6 := Lib.hid (blk_bw (bw_trans bw56 hbq) HB5.out)
        clear c0 c1 c2 c3
        have a0 := blk_cell HA6.out 0 rfl
        have a1 := blk_cell HA6.out 1 rfl
        have b0 := blk_cell HB6.out 0 rfl
        have b1 := blk_cell HB6.out 1 rfl
        by_cases he : a.p = a.q
        · have he' : (cmp1 a == 0) = true := by rw [HG2.out]; exact decide_eq_true he
          have HF := Lib.hid (HFB.out (.inr he))
          have HE := Lib.hid he
          have HG2 := Lib.hid hg2
          clear he hg2
          have s0 := blk_cell B6.out 0 rfl
          have s1 := blk_cell B6.out 1 rfl
          have fr := fun j => blk_free B6.out j
          clear a0 a1 b0 b1
          go_wp2
          refine bodyPost_ret (v := .tuple #[frV ⟨0, 0⟩, .bool false]) (by simp [results, Tryd.results77, go_sem, s0, s1]) rfl ?_
          exact ⟨by rw [HF.out], dr_set2 hw6 (Nat.le_refl _)⟩
        · have he' : (cmp1 a == 0) = false := by rw [HG2.out]; exact decide_eq_false he
          have HF := Lib.hid (HFG.out (by rw [HFT.out]; simp [he]))
          have hle := fits_sum p1 q1 (by rw [HES.out]; exact HFT.out)
          have hsub : (a.q : Int) - (a.p : Int) = ((a.q - a.p : Nat) : Int) := by omega
          obtain ⟨D, hD⟩ : ∃ D, a.q - a.p = D := ⟨_, rfl⟩
          have x1b := Nat.mul_le_mul_right a.q hpq
          rw [Nat.mul_assoc, Nat.mul_comm b.q a.q] at x1b
          have x2b := Nat.mul_le_mul_left b.q (show D ≤ a.q by omega)
          rw [Nat.mul_comm b.q a.q] at x2b
          have hY0 : 0 < b.q * D := Nat.mul_pos q1 (by omega)
          obtain ⟨X, hX⟩ : ∃ X, b.p * a.q = X := ⟨_, rfl⟩
          obtain ⟨Y, hY⟩ : ∃ Y, b.q * D = Y := ⟨_, rfl⟩
          rw [hD] at hsub HF
          have hXi : (b.p : Int) * (a.q : Int) = (X : Int) := by rw [← hX]; simp
          have hYi : (b.q : Int) * (D : Int) = (Y : Int) := by rw [← hY]; simp
          rw [hX, hY] at HF
          rw [hX] at x1b
          rw [hY] at x2b hY0
          have w1' := IntWalk.i64_in (X : Int) (by omega)
          have w2' := IntWalk.i64_in (Y : Int) (by omega)
          have w3' := IntWalk.i64_in (D : Int) (by omega)
          have hred : red X Y = ⟨X / Nat.gcd Y X, Y / Nat.gcd Y X⟩ := by rw [Nat.gcd_comm Y X]; rfl
          have hrr := red_red (p := X) hY0
          have hrp := red_pos (p := X) hY0
          have hrl := red_le (p := X) (q := Y)
          have h1 := tdivN X (Nat.gcd Y X)
          have h2 := tdivN Y (Nat.gcd Y X)
          have h3 := edivN X (Nat.gcd Y X)
          have h4 := edivN Y (Nat.gcd Y X)
          have hh := Nat.gcd_pos_of_pos_left X hY0
          obtain ⟨U, hU⟩ : ∃ U, X / Nat.gcd Y X = U := ⟨_, rfl⟩
          obtain ⟨V, hV⟩ : ∃ V, Y / Nat.gcd Y X = V := ⟨_, rfl⟩
          rw [hU] at h1 h3 hred
          rw [hV] at h2 h4 hred
          clear hU hV
          obtain ⟨h, hH⟩ : ∃ h, Nat.gcd Y X = h := ⟨_, rfl⟩
          rw [hH] at h1 h2 h3 h4 hh
          rw [hred] at hrr hrp hrl HF
          dsimp only at hrr hrp hrl
          have hUb : U ≤ 1000000000 := by omega
          have hVb : V ≤ 1000000000 := by omega
          have hhz : ¬ (h : Int) = 0 := by omega
          have hhz2 : ¬ h = 0 := by omega
          have w7' := IntWalk.i64_in (U : Int) (by omega)
          have w8' := IntWalk.i64_in (V : Int) (by omega)
          clear hX hY hD
          have HE := Lib.hid he
          have HRED := Lib.hid hred
          have HH := Lib.hid hH
          have HG2 := Lib.hid hg2
          clear he hred hH hg2
          go_wp2_with fail
          refine (gcd_spec Y X _ _ rfl rfl _ (by omega) (by omega)).mono ?_
          rw [HH.out]
          rintro e w7 ⟨rfl, hb7⟩
          have B7 := Lib.hid (blk_bw hb7 B6.out)
          have hw7 := bw_trans hw6 hb7
          clear a0 a1 b0 b1
          have s0 := blk_cell B7.out 0 rfl
          have s1 := blk_cell B7.out 1 rfl
          have fr := fun j => blk_free B7.out j
          go_wp2_with fail
          go_region_with (first | (go_at_call 103; refine (MakeShare_spec U V _ _ rfl rfl _ hrp hUb hVb).mono ?_; rw [hrr]; rintro e w8 ⟨rfl, hb8'⟩; have hb8 : Bw w7 w8 := bw_trans (bw_drew _) hb8'; clear hb8'; have B8 := Lib.hid (blk_bw hb8 B7.out); clear s0 s1 fr; have s0 := blk_cell B8.out 0 rfl; have s1 := blk_cell B8.out 1 rfl; have fr := fun j => blk_free B8.out j))
          all_goals try go_wp2
          all_goals
            refine bodyPost_ret (v := .tuple #[.agg #[.int .i64 (U : Int), .int .i64 (V : Int)], .bool true]) (by simp [results, Tryd.results77, go_sem, s0, s1]) rfl ?_
            exact ⟨by rw [HF.out], dr_set2 (bw_trans hw7 hb8) (Nat.le_refl _)⟩
end Go.Proofs.YtaadlgpglfpmpaaDoor
