/-
  The walks of demand, of the functions whose least number is sought, and of rises.
-/
import Derived.Test.YtaadlgpglfpmpaaRsp
import Derived.Test.YtaadlgpglfpmpaaGB
import Derived.BigRegion
import Derived.StillTailTactics



namespace Go.Proofs.Ytaadlgpglfpmpaa
open Go.RowKit

set_option maxRecDepth 100000 in
set_option maxHeartbeats 800000 in
theorem demand_true (w : World) (x0 x1 x2 x3 : Int) (C : Bool) (n : Int) (hok : (Tk.mk x0 x1 x2 x3 C).ok = true) (hn0 : 0 ≤ n) (hn : n ≤ 1000) :
    Calls Try.prog 73 #[.agg #[.int .i64 x0, .int .i64 x1, .int .i64 x2, .int .i64 x3, .bool C], .int .i64 n, .bool true] w fun e w' => e = .returned (.int .i64 (dem ⟨x0, x1, x2, x3, C⟩ n true)) ∧ Bw w w' := by
  have hk := (Tk.ok_iff _).1 hok
  dsimp only at hk
  obtain ⟨k1, k2, k3, k4, k5, _⟩ := hk
  have hq0 := ce_nn (a := n) (e := x3) (by omega) hn0
  have hq1 := ce_le (a := n) (e := x3) (by omega) hn0
  obtain ⟨Q, hQ⟩ : ∃ Q, ce n x3 = Q := ⟨_, rfl⟩
  have h1 : (n + x3 - 1).tdiv x3 = Q := hQ
  have h2 : (n + x3 - 1) / x3 = Q := by rw [← hQ]; unfold ce; rw [Int.tdiv_eq_ediv_of_nonneg (by omega)]
  rw [hQ] at hq0 hq1
  have hm0 := Int.mul_nonneg hq0 (show 0 ≤ x1 by omega)
  have hm1 := Int.mul_le_mul hq1 (show x1 ≤ 20 by omega) (show 0 ≤ x1 by omega) hn0
  obtain ⟨P, hP⟩ : ∃ P, Q * x1 = P := ⟨_, rfl⟩
  have hres : dem ⟨x0, x1, x2, x3, C⟩ n true = P := by show ce n x3 * x1 = P; rw [hQ]; exact hP
  rw [hP] at hm0 hm1
  have hne : x3 ≠ 0 := by omega
  have w1 := IntWalk.i64_in (n + x3) (by omega)
  have w2 := IntWalk.i64_in (n + x3 - 1) (by omega)
  have w3 := IntWalk.i64_in Q (by omega)
  have w4 := IntWalk.i64_in P (by omega)
  have HRES := Lib.hid hres
  have HQ := Lib.hid hQ
  have HOK := Lib.hid hok
  clear hres hQ hok
  go_enter Try.func73, Try.ntmps73
  go_wp2
  go_ret
  exact ⟨ret_i HRES.out.symm, bw_alloc _ _⟩
set_option maxRecDepth 100000 in
set_option maxHeartbeats 800000 in
theorem demand_false (w : World) (x0 x1 x2 x3 : Int) (C : Bool) (n : Int) (hok : (Tk.mk x0 x1 x2 x3 C).ok = true) (hn0 : 0 ≤ n) (hn : n ≤ 1000) :
    Calls Try.prog 73 #[.agg #[.int .i64 x0, .int .i64 x1, .int .i64 x2, .int .i64 x3, .bool C], .int .i64 n, .bool false] w fun e w' => e = .returned (.int .i64 (dem ⟨x0, x1, x2, x3, C⟩ n false)) ∧ Bw w w' := by
  have hk := (Tk.ok_iff _).1 hok
  dsimp only at hk
  obtain ⟨k1, k2, k3, k4, k5, _⟩ := hk
  have hq0 := ce_nn (a := n) (e := x3) (by omega) hn0
  have hq1 := ce_le (a := n) (e := x3) (by omega) hn0
  obtain ⟨Q, hQ⟩ : ∃ Q, ce n x3 = Q := ⟨_, rfl⟩
  have h1 : (n + x3 - 1).tdiv x3 = Q := hQ
  have h2 : (n + x3 - 1) / x3 = Q := by rw [← hQ]; unfold ce; rw [Int.tdiv_eq_ediv_of_nonneg (by omega)]
  rw [hQ] at hq0 hq1
  have hm0 := Int.mul_nonneg hq0 (show 0 ≤ x0 by omega)
  have hm1 := Int.mul_le_mul hq1 (show x0 ≤ 20 by omega) (show 0 ≤ x0 by omega) hn0
  obtain ⟨P, hP⟩ : ∃ P, Q * x0 = P := ⟨_, rfl⟩
  have hres : dem ⟨x0, x1, x2, x3, C⟩ n false = P := by show ce n x3 * x0 = P; rw [hQ]; exact hP
  rw [hP] at hm0 hm1
  have hne : x3 ≠ 0 := by omega
  have w1 := IntWalk.i64_in (n + x3) (by omega)
  have w2 := IntWalk.i64_in (n + x3 - 1) (by omega)
  have w3 := IntWalk.i64_in Q (by omega)
  have w4 := IntWalk.i64_in P (by omega)
  have HRES := Lib.hid hres
  have HQ := Lib.hid hQ
  have HOK := Lib.hid hok
  clear hres hQ hok
  go_enter Try.func73, Try.ntmps73
  go_wp2
  go_ret
  exact ⟨ret_i HRES.out.symm, bw_alloc _ _⟩
theorem demand_any (w : World) (x0 x1 x2 x3 : Int) (C : Bool) (n : Int) (hi : Bool) (hok : (Tk.mk x0 x1 x2 x3 C).ok = true) (hn0 : 0 ≤ n) (hn : n ≤ 1000) :
    Calls Try.prog 73 #[.agg #[.int .i64 x0, .int .i64 x1, .int .i64 x2, .int .i64 x3, .bool C], .int .i64 n, .bool hi] w fun e w' => e = .returned (.int .i64 (dem ⟨x0, x1, x2, x3, C⟩ n hi)) ∧ Bw w w' := by
  cases hi
  · exact demand_false w x0 x1 x2 x3 C n hok hn0 hn
  · exact demand_true w x0 x1 x2 x3 C n hok hn0 hn
theorem sumG_take {g : Tk → Int} {l : List Tk} {B : Int} (hB : ∀ t ∈ l, 0 ≤ g t ∧ g t ≤ B) (_h0 : 0 ≤ B) : ∀ k : Nat, 0 ≤ sumG g (l.take k) ∧ sumG g (l.take k) ≤ k * B
  | 0 => by simp [sumG]
  | k + 1 => by
    have ih := sumG_take hB _h0 k
    by_cases hk : k < l.length
    · obtain ⟨t, ht⟩ := getSome hk
      have := hB t (List.mem_of_getElem? ht)
      rw [sumG_snoc g l k t ht, show (((k + 1 : Nat) : Int) * B) = k * B + B by rw [show ((k + 1 : Nat) : Int) = (k : Int) + 1 by omega, Int.add_mul, Int.one_mul]]
      omega
    · rw [List.take_of_length_le (by omega), ← List.take_of_length_le (show l.length ≤ k by omega)]
      have : ((k : Int) * B) ≤ ((k + 1 : Nat) : Int) * B := Int.mul_le_mul_of_nonneg_right (by omega) _h0
      omega

/-- What the function of a response sees: the tasks and the place. -/
structure EnvR (w : World) (b2 b3 : Nat) (l : List Tk) (i : Nat) (T : Tk) : Prop where
  t : ∃ ao c, w.heap[b2]? = some (.cells #[.slice ao l.length c] 23 (0, 0)) ∧ RT w ao l ∧ l.length ≤ c
  pl : w.heap[b3]? = some (.cells #[.int .i64 (i : Int)] 3 (0, 0))
  ok : setOk l = true
  at_ : l[i]? = some T
theorem EnvR.bw {w w' : World} {b2 b3 : Nat} {l : List Tk} {i : Nat} {T : Tk} (h : EnvR w b2 b3 l i T) (hb : Bw w w') : EnvR w' b2 b3 l i T := by
  obtain ⟨⟨ao, c, h1, h2, h3⟩, h4, h5, h6⟩ := h
  exact ⟨⟨ao, c, blk_bw hb h1, h2.bw hb, h3⟩, blk_bw hb h4, h5, h6⟩

set_option maxRecDepth 100000 in
set_option maxHeartbeats 1600000 in
theorem rlow_any {w : World} {b2 b3 : Nat} {l : List Tk} {i : Nat} {T : Tk} (h : EnvR w b2 b3 l i T) (v : Int) (hv0 : 0 ≤ v) (hv : v ≤ 20) :
    Calls Try.prog 74 #[.int .i64 v, .pointer (some ⟨b2, 0, none⟩), .pointer (some ⟨b3, 0, none⟩)] w fun e w' => e = .returned (.int .i64 (lowF T (l.take i) v)) ∧ Bw w w' := by
  obtain ⟨⟨ao, c, h2, hr, hc⟩, h3, hs, hT⟩ := h
  have hil := (List.getElem?_eq_some_iff.1 hT).1
  have hic : i ≤ c := by omega
  have hl5 := setOk_len hs
  obtain ⟨b, off, e, hbs, c0, c1, c2, c3, c4⟩ := hr i T hT
  subst e
  have p2 := blk_cell h2 0 rfl
  have p3 := blk_cell h3 0 rfl
  have hl2 := blk_lt h2
  have hl3 := blk_lt h3
  have hkT := (Tk.ok_iff _).1 (setOk_at hs hT)
  have hB := sumG_take (g := fun q => dem q v false) (l := l) (B := v * 20) (fun t ht => ⟨dem_nn (setOk_all hs t ht) hv0 false, dem_le (setOk_all hs t ht) hv0 false⟩) (by omega)
  have hres : lowF T (l.take i) v = T.low + sumG (fun q => dem q v false) (l.take i) := rfl
  obtain ⟨k1, k2, k3, k4, k5, _⟩ := hkT
  have h20 : T.low ≤ 20 := by omega
  have HRT := Lib.hid hr
  have HOK := Lib.hid (setOk_all hs)
  have HRES := Lib.hid hres
  have HB := Lib.hid hB
  have HS := Lib.hid hs
  have HT := Lib.hid hT
  have H2 := Lib.hid h2
  have H3 := Lib.hid h3
  have HR := Lib.hid hr
  clear hres hB hs hT h2 h3 hr
  clear c1 c2 c3 c4
  go_enter Try.func74, Try.ntmps74
  go_wp2_with fail
  go_loopw [5, 17] (fun u k wr => ∃ (m : Nat), m ≤ i ∧ k = .int .i64 m ∧ u = .int .i64 (T.low + sumG (fun q => dem q v false) (l.take m)) ∧ Bw w wr) (fun _ k _ => i - (intOf k).toNat)
  case atStart => exact ⟨0, Nat.zero_le _, rfl, by simp [sumG], Bw.refl _⟩
  case round =>
    obtain ⟨m, hm, rfl, rfl, hbw⟩ := hrel
    clear c0 p2 p3
    by_cases hlt : m < i
    · obtain ⟨⟨x0, x1, x2, x3, C⟩, bd, od, htm, hdo, hbd, d0, d1, d2, d3, d4⟩ := HRT.out.get hbw (k := m) (by omega)
      simp only [Option.some.injEq, Addr.mk.injEq, and_true] at hdo
      obtain ⟨rfl, rfl⟩ := hdo
      dsimp only at d0 d1 d2 d3 d4
      have hst := sumG_snoc (fun q => dem q v false) l m _ htm
      have hok := HOK.out _ (List.mem_of_getElem? htm)
      have hb1 := HB.out m
      have hb2 := HB.out (m + 1)
      rw [hst] at hb2
      obtain ⟨S, hS⟩ : ∃ S, sumG (fun q => dem q v false) (l.take m) = S := ⟨_, rfl⟩
      obtain ⟨D, hD⟩ : ∃ D, dem ⟨x0, x1, x2, x3, C⟩ v false = D := ⟨_, rfl⟩
      rw [hS, hD] at hst
      rw [hS] at hb1
      rw [hS, hD] at hb2
      have hmi : (m : Int) ≤ 5 := by omega
      have hD0 : 0 ≤ D := by rw [← hD]; exact dem_nn hok hv0 false
      have hb3 : S + D ≤ 2000 := by
        have : ((m + 1 : Nat) : Int) * (v * 20) ≤ 5 * (v * 20) := Int.mul_le_mul_of_nonneg_right (by omega) (by omega)
        omega
      have hw1 := IntWalk.i64_in (T.low + S + D) (by omega)
      have hlt2 : decide (m < i) = true := decide_eq_true hlt
      have hnext : T.low + S + D = T.low + sumG (fun q => dem q v false) (l.take (m + 1)) := by rw [hst]; omega
      rw [hS]
      have HST := Lib.hid hst
      have HS := Lib.hid hS
      have HB2 := Lib.hid hb2
      have HTM := Lib.hid htm
      have HNEXT := Lib.hid hnext
      clear hst hS hb2 htm hnext
      go_wp2_with fail
      refine (demand_any _ x0 x1 x2 x3 C v false hok hv0 (by omega)).mono ?_
      rw [hD]
      rintro e w2 ⟨rfl, hb4⟩
      have hbw2 := bw_trans hbw (bw_trans (bw_alloc wr (.cells #[.int .i64 x0, .int .i64 x1, .int .i64 x2, .int .i64 x3, .bool C] 50)) hb4)
      have HD := Lib.hid hD
      have HOK := Lib.hid hok
      clear hD hok
      clear hb1
      go_wp2
      go_roundw
      case rel => exact ⟨m + 1, by omega, by go_num, by rw [HNEXT.out], hbw2⟩
      case measure => simp [intOf]; omega
    · obtain rfl : m = i := by omega
      have hge : decide (m < m) = false := by simp
      go_wp2
      go_ret
      exact ⟨ret_i HRES.out.symm, hbw⟩

set_option maxRecDepth 100000 in
set_option maxHeartbeats 3200000 in
theorem rsw_any {w : World} {b2 b3 b6 : Nat} {l : List Tk} {i : Nat} {T : Tk} (h : EnvR w b2 b3 l i T) {n : Int} (h6 : w.heap[b6]? = some (.cells #[.int .i64 n] 3 (0, 0))) (hn0 : 0 ≤ n) (hn : n ≤ 20) (v : Int) (hv0 : 0 ≤ v) (hv : v ≤ 20) :
    Calls Try.prog 72 #[.int .i64 v, .pointer (some ⟨b2, 0, none⟩), .pointer (some ⟨b3, 0, none⟩), .pointer (some ⟨b6, 0, none⟩)] w fun e w' => e = .returned (.int .i64 (swF T n (l.take i) v)) ∧ Bw w w' := by
  obtain ⟨⟨ao, c, h2, hr, hc⟩, h3, hs, hT⟩ := h
  have hil := (List.getElem?_eq_some_iff.1 hT).1
  have hic : i ≤ c := by omega
  have hl5 := setOk_len hs
  obtain ⟨b, off, e, hbs, c0, c1, c2, c3, c4⟩ := hr i T hT
  subst e
  have p2 := blk_cell h2 0 rfl
  have p3 := blk_cell h3 0 rfl
  have p6 := blk_cell h6 0 rfl
  have hl2 := blk_lt h2
  have hl3 := blk_lt h3
  have hl6 := blk_lt h6
  have hkT := (Tk.ok_iff _).1 (setOk_at hs hT)
  have hB := sumG_take (g := fun q => if q.crit = true then dem q v true else dem q n false) (l := l) (B := 400) (fun t ht => by
    have a1 := dem_nn (setOk_all hs t ht) hv0 true
    have a2 := dem_le (setOk_all hs t ht) hv0 true
    have a3 := dem_nn (setOk_all hs t ht) hn0 false
    have a4 := dem_le (setOk_all hs t ht) hn0 false
    (try dsimp only)
    split <;> omega) (by omega)
  have hres : swF T n (l.take i) v = T.high + sumG (fun q => if q.crit = true then dem q v true else dem q n false) (l.take i) := rfl
  obtain ⟨k1, k2, k3, k4, k5, _⟩ := hkT
  have h20 : T.high ≤ 20 := by omega
  have HRT := Lib.hid hr
  have HOK := Lib.hid (setOk_all hs)
  have H6 := Lib.hid h6
  have HRES := Lib.hid hres
  have HB := Lib.hid hB
  have HS := Lib.hid hs
  have HT := Lib.hid hT
  have H2 := Lib.hid h2
  have H3 := Lib.hid h3
  have HR := Lib.hid hr
  clear hres hB hs hT h2 h3 hr
  clear c0 c2 c3 c4 h6
  go_enter Try.func72, Try.ntmps72
  go_wp2_with fail
  go_loopw [6, 18] (fun u k wr => ∃ (m : Nat), m ≤ i ∧ k = .int .i64 m ∧ u = .int .i64 (T.high + sumG (fun q => if q.crit = true then dem q v true else dem q n false) (l.take m)) ∧ Bw w wr) (fun _ k _ => i - (intOf k).toNat)
  case atStart => exact ⟨0, Nat.zero_le _, rfl, by simp [sumG], Bw.refl _⟩
  case round =>
    obtain ⟨m, hm, rfl, rfl, hbw⟩ := hrel
    clear c1 p2 p3 p6
    by_cases hlt : m < i
    · obtain ⟨⟨x0, x1, x2, x3, C⟩, bd, od, htm, hdo, hbd, d0, d1, d2, d3, d4⟩ := HRT.out.get hbw (k := m) (by omega)
      simp only [Option.some.injEq, Addr.mk.injEq, and_true] at hdo
      obtain ⟨rfl, rfl⟩ := hdo
      dsimp only at d0 d1 d2 d3 d4
      have hst := sumG_snoc (fun q => if q.crit = true then dem q v true else dem q n false) l m _ htm
      have hok := HOK.out _ (List.mem_of_getElem? htm)
      have hb1 := HB.out m
      have hb2 := HB.out (m + 1)
      rw [hst] at hb2
      obtain ⟨S, hS⟩ : ∃ S, sumG (fun q => if q.crit = true then dem q v true else dem q n false) (l.take m) = S := ⟨_, rfl⟩
      rw [hS] at hst hb1 hb2
      dsimp only at hst hb2
      have hmi : (m : Int) ≤ 5 := by omega
      have hlt2 : decide (m < i) = true := decide_eq_true hlt
      have q6 := blk_cell (blk_bw hbw H6.out) 0 rfl
      have hl6' := Nat.lt_of_lt_of_le hl6 hbw.size
      rw [hS]
      have hb0 : S ≤ 2000 := by omega
      cases C with
      | true =>
        simp only [if_true] at hst hb2
        obtain ⟨D, hD⟩ : ∃ D, dem ⟨x0, x1, x2, x3, true⟩ v true = D := ⟨_, rfl⟩
        rw [hD] at hst hb2
        have hD0 : 0 ≤ D := by rw [← hD]; exact dem_nn hok hv0 true
        have hw1 := IntWalk.i64_in (T.high + S + D) (by omega)
        have hnext : T.high + S + D = T.high + sumG (fun q => if q.crit = true then dem q v true else dem q n false) (l.take (m + 1)) := by rw [hst]; omega
        have HST := Lib.hid hst
        have HS := Lib.hid hS
        have HB2 := Lib.hid hb2
        have HTM := Lib.hid htm
        have HNEXT := Lib.hid hnext
        clear hst hS hb2 htm hnext
        go_wp2_with fail
        refine (demand_any _ x0 x1 x2 x3 true v true hok hv0 (by omega)).mono ?_
        rw [hD]
        rintro e w2 ⟨rfl, hb4⟩
        have hbw2 := bw_trans hbw (bw_trans (bw_alloc wr (.cells #[.int .i64 x0, .int .i64 x1, .int .i64 x2, .int .i64 x3, .bool true] 50)) hb4)
        have HD := Lib.hid hD
        have HOK := Lib.hid hok
        clear hD hok
        clear hb1
        go_wp2
        go_roundw
        case rel => exact ⟨m + 1, by omega, by go_num, by rw [HNEXT.out], hbw2⟩
        case measure => simp [intOf]; omega
      | false =>
        simp only [Bool.false_eq_true, if_false] at hst hb2
        obtain ⟨D, hD⟩ : ∃ D, dem ⟨x0, x1, x2, x3, false⟩ n false = D := ⟨_, rfl⟩
        rw [hD] at hst hb2
        have hD0 : 0 ≤ D := by rw [← hD]; exact dem_nn hok hn0 false
        have hw1 := IntWalk.i64_in (T.high + S + D) (by omega)
        have hnext : T.high + S + D = T.high + sumG (fun q => if q.crit = true then dem q v true else dem q n false) (l.take (m + 1)) := by rw [hst]; omega
        have HST := Lib.hid hst
        have HS := Lib.hid hS
        have HB2 := Lib.hid hb2
        have HTM := Lib.hid htm
        have HNEXT := Lib.hid hnext
        clear hst hS hb2 htm hnext
        go_wp2_with fail
        refine (demand_any _ x0 x1 x2 x3 false n false hok hn0 (by omega)).mono ?_
        rw [hD]
        rintro e w2 ⟨rfl, hb4⟩
        have hbw2 := bw_trans hbw (bw_trans (bw_alloc wr (.cells #[.int .i64 x0, .int .i64 x1, .int .i64 x2, .int .i64 x3, .bool false] 50)) hb4)
        have HD := Lib.hid hD
        have HOK := Lib.hid hok
        clear hD hok
        clear hb1
        go_wp2
        go_roundw
        case rel => exact ⟨m + 1, by omega, by go_num, by rw [HNEXT.out], hbw2⟩
        case measure => simp [intOf]; omega
    · obtain rfl : m = i := by omega
      have hge : decide (m < m) = false := by simp
      go_wp2
      go_ret
      exact ⟨ret_i HRES.out.symm, hbw⟩

def OptEnd (w : World) (o : Option Int) (e : Ending) (w' : World) : Prop := e = .returned (.tuple #[.int .i64 (o.getD 0), .bool o.isSome]) ∧ Bw w w'
set_option maxRecDepth 100000 in
set_option maxHeartbeats 1600000 in
theorem rises_low {w0 : World} {b2 b3 b6 : Nat} {f : Int → Int} (hc : ∀ w, Bw w0 w → ∀ v : Int, 0 ≤ v → v ≤ 20 → Calls Try.prog 74 #[.int .i64 v, .pointer (some ⟨b2, 0, none⟩), .pointer (some ⟨b3, 0, none⟩)] w fun e w' => e = .returned (.int .i64 (f v)) ∧ Bw w w')
    (hf : Mono f) (a most : Int) (h0 : 0 ≤ a) (ha : a ≤ 20) (hup : a ≤ f a) (hmost : most ≤ 20) (hfb : ∀ v, 0 ≤ v → v ≤ 20 → f v ≤ 100000) (w : World) (hb : Bw w0 w) (_h6 : b6 = b6) :
    Calls Try.prog 71 #[.int .i64 a, .int .i64 most, .func (.func 74) #[] #[.pointer (some ⟨b2, 0, none⟩), .pointer (some ⟨b3, 0, none⟩)]] w (OptEnd w (fixF f (most + 1 - a).toNat a)) := by
  have HC := Lib.hid hc
  have HF := Lib.hid hf
  have HU : Hid (a ≤ f a) := hup
  have HFB := Lib.hid hfb
  clear hc hf hup hfb
  go_enter Try.func71, Try.ntmps71
  go_wp2_with fail
  go_loopw [8] (fun u wr => ∃ v : Int, u = .int .i64 v ∧ 0 ≤ v ∧ v ≤ 100000 ∧ Hid (v ≤ f v) ∧ Hid (fixF f (most + 1 - a).toNat a = fixF f (most + 1 - v).toNat v) ∧ Bw w wr) (fun u _ => (most + 1 - intOf u).toNat)
  case atStart => exact ⟨a, rfl, h0, by omega, HU.out, by show _ = _; rfl, Bw.refl _⟩
  case round =>
    obtain ⟨v, rfl, hv0, hv1, hvu, hx, hbw⟩ := hrel
    by_cases hle : v ≤ most
    · have d1 : decide (v ≤ most) = true := decide_eq_true hle
      go_wp2_with fail
      refine (HC.out _ (bw_trans hb hbw) v hv0 (by omega)).mono ?_
      obtain ⟨n, hn⟩ : ∃ n, f v = n := ⟨_, rfl⟩
      rw [hn]
      rintro e w2 ⟨rfl, hb2⟩
      have hnb : n ≤ 100000 := by rw [← hn]; exact HFB.out v hv0 (by omega)
      have hnv : v ≤ n := by rw [← hn]; exact hvu.out
      by_cases he : n = v
      · have d2 : (n == v) = true := by simp [he]
        have hr : fixF f (most + 1 - a).toNat a = some v := by
          rw [hx.out]
          obtain ⟨k, hk⟩ : ∃ k, (most + 1 - v).toNat = k + 1 := ⟨(most - v).toNat, by omega⟩
          rw [hk, fixF, if_pos (by omega)]
        have HN := Lib.hid hn
        have HE := Lib.hid he
        have HR := Lib.hid hr
        have HVU := Lib.hid hvu
        have HX := Lib.hid hx
        clear hn he hr hvu hx
        go_wp2
        go_ret2
        exact ⟨by rw [HR.out]; rfl, bw_trans hbw hb2⟩
      · have d2 : (n == v) = false := by simp [he]
        have hnext : fixF f (most + 1 - a).toNat a = fixF f (most + 1 - n).toNat n := by
          rw [hx.out, ← hn]
          exact fixF_step HF.out hv0 hle hvu.out (by omega)
        have hnu : n ≤ f n := by
          have := HF.out v n hv0 hnv
          omega
        have hlt : v < n := by omega
        have HN := Lib.hid hn
        have HE := Lib.hid he
        have HNEXT := Lib.hid hnext
        have HNU := Lib.hid hnu
        have HVU := Lib.hid hvu
        have HX := Lib.hid hx
        clear hn he hnext hnu hvu hx
        go_wp2
        go_roundw
        case rel => exact ⟨n, rfl, by omega, hnb, HNU.out, HNEXT.out, bw_trans hbw hb2⟩
        case measure => simp [intOf]; omega
    · have d1 : decide (v ≤ most) = false := decide_eq_false hle
      have hr : fixF f (most + 1 - a).toNat a = none := by rw [hx.out, show (most + 1 - v).toNat = 0 by omega]; rfl
      have HLE := Lib.hid hle
      have HR := Lib.hid hr
      have HVU := Lib.hid hvu
      have HX := Lib.hid hx
      clear hle hr hvu hx
      go_wp2
      go_ret2
      exact ⟨by rw [HR.out]; rfl, hbw⟩
set_option maxRecDepth 100000 in
set_option maxHeartbeats 1600000 in
theorem rises_sw {w0 : World} {b2 b3 b6 : Nat} {f : Int → Int} (hc : ∀ w, Bw w0 w → ∀ v : Int, 0 ≤ v → v ≤ 20 → Calls Try.prog 72 #[.int .i64 v, .pointer (some ⟨b2, 0, none⟩), .pointer (some ⟨b3, 0, none⟩), .pointer (some ⟨b6, 0, none⟩)] w fun e w' => e = .returned (.int .i64 (f v)) ∧ Bw w w')
    (hf : Mono f) (a most : Int) (h0 : 0 ≤ a) (ha : a ≤ 20) (hup : a ≤ f a) (hmost : most ≤ 20) (hfb : ∀ v, 0 ≤ v → v ≤ 20 → f v ≤ 100000) (w : World) (hb : Bw w0 w) (_h6 : b6 = b6) :
    Calls Try.prog 71 #[.int .i64 a, .int .i64 most, .func (.func 72) #[] #[.pointer (some ⟨b2, 0, none⟩), .pointer (some ⟨b3, 0, none⟩), .pointer (some ⟨b6, 0, none⟩)]] w (OptEnd w (fixF f (most + 1 - a).toNat a)) := by
  have HC := Lib.hid hc
  have HF := Lib.hid hf
  have HU : Hid (a ≤ f a) := hup
  have HFB := Lib.hid hfb
  clear hc hf hup hfb
  go_enter Try.func71, Try.ntmps71
  go_wp2_with fail
  go_loopw [8] (fun u wr => ∃ v : Int, u = .int .i64 v ∧ 0 ≤ v ∧ v ≤ 100000 ∧ Hid (v ≤ f v) ∧ Hid (fixF f (most + 1 - a).toNat a = fixF f (most + 1 - v).toNat v) ∧ Bw w wr) (fun u _ => (most + 1 - intOf u).toNat)
  case atStart => exact ⟨a, rfl, h0, by omega, HU.out, by show _ = _; rfl, Bw.refl _⟩
  case round =>
    obtain ⟨v, rfl, hv0, hv1, hvu, hx, hbw⟩ := hrel
    by_cases hle : v ≤ most
    · have d1 : decide (v ≤ most) = true := decide_eq_true hle
      go_wp2_with fail
      refine (HC.out _ (bw_trans hb hbw) v hv0 (by omega)).mono ?_
      obtain ⟨n, hn⟩ : ∃ n, f v = n := ⟨_, rfl⟩
      rw [hn]
      rintro e w2 ⟨rfl, hb2⟩
      have hnb : n ≤ 100000 := by rw [← hn]; exact HFB.out v hv0 (by omega)
      have hnv : v ≤ n := by rw [← hn]; exact hvu.out
      by_cases he : n = v
      · have d2 : (n == v) = true := by simp [he]
        have hr : fixF f (most + 1 - a).toNat a = some v := by
          rw [hx.out]
          obtain ⟨k, hk⟩ : ∃ k, (most + 1 - v).toNat = k + 1 := ⟨(most - v).toNat, by omega⟩
          rw [hk, fixF, if_pos (by omega)]
        have HN := Lib.hid hn
        have HE := Lib.hid he
        have HR := Lib.hid hr
        have HVU := Lib.hid hvu
        have HX := Lib.hid hx
        clear hn he hr hvu hx
        go_wp2
        go_ret2
        exact ⟨by rw [HR.out]; rfl, bw_trans hbw hb2⟩
      · have d2 : (n == v) = false := by simp [he]
        have hnext : fixF f (most + 1 - a).toNat a = fixF f (most + 1 - n).toNat n := by
          rw [hx.out, ← hn]
          exact fixF_step HF.out hv0 hle hvu.out (by omega)
        have hnu : n ≤ f n := by
          have := HF.out v n hv0 hnv
          omega
        have hlt : v < n := by omega
        have HN := Lib.hid hn
        have HE := Lib.hid he
        have HNEXT := Lib.hid hnext
        have HNU := Lib.hid hnu
        have HVU := Lib.hid hvu
        have HX := Lib.hid hx
        clear hn he hnext hnu hvu hx
        go_wp2
        go_roundw
        case rel => exact ⟨n, rfl, by omega, hnb, HNU.out, HNEXT.out, bw_trans hbw hb2⟩
        case measure => simp [intOf]; omega
    · have d1 : decide (v ≤ most) = false := decide_eq_false hle
      have hr : fixF f (most + 1 - a).toNat a = none := by rw [hx.out, show (most + 1 - v).toNat = 0 by omega]; rfl
      have HLE := Lib.hid hle
      have HR := Lib.hid hr
      have HVU := Lib.hid hvu
      have HX := Lib.hid hx
      clear hle hr hvu hx
      go_wp2
      go_ret2
      exact ⟨by rw [HR.out]; rfl, hbw⟩
end Go.Proofs.Ytaadlgpglfpmpaa
