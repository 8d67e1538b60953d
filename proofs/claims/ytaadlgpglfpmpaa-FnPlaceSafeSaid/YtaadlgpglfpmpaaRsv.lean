/-
  The walks of ResponseLow, ResponseSwitch, holds, HoldsLow, FirstBad and HoldsBoth.
-/
import Derived.Test.YtaadlgpglfpmpaaRsw
import Derived.Test.YtaadlgpglfpmpaaGB
import Derived.Deep.RegionHeld3


namespace Go.Proofs.Ytaadlgpglfpmpaa
open Go.RowKit

theorem keepR4 {w5 W : World} {a b c d : Nat} {o p q r : Nat} {v0 v1 v2 v3 : Value} (hb : Bw w5 W) (hs : w5.cell? ⟨a, o, none⟩ = some v0 ∧ w5.cell? ⟨b, p, none⟩ = some v1 ∧ w5.cell? ⟨c, q, none⟩ = some v2 ∧ w5.cell? ⟨d, r, none⟩ = some v3) :
    W.cell? ⟨a, o, none⟩ = some v0 ∧ W.cell? ⟨b, p, none⟩ = some v1 ∧ W.cell? ⟨c, q, none⟩ = some v2 ∧ W.cell? ⟨d, r, none⟩ = some v3 := ⟨cell_bw hb hs.1, cell_bw hb hs.2.1, cell_bw hb hs.2.2.1, cell_bw hb hs.2.2.2⟩
theorem f_low_bd {l : List Tk} (hs : setOk l = true) {i : Nat} {T : Tk} (hT : l[i]? = some T) : ∀ v : Int, 0 ≤ v → v ≤ 20 → lowF T (l.take i) v ≤ 100000 := fun v h0 h1 => by
  have hkT := (Tk.ok_iff _).1 (setOk_at hs hT)
  have hl5 := setOk_len hs
  have hil := (List.getElem?_eq_some_iff.1 hT).1
  have := (sumG_take (g := fun q => dem q v false) (l := l) (B := 400) (fun t ht => ⟨dem_nn (setOk_all hs t ht) h0 false, by have := dem_le (setOk_all hs t ht) h0 false; (try dsimp only); omega⟩) (by omega) i).2
  unfold lowF; omega
theorem f_sw_bd {l : List Tk} (hs : setOk l = true) {i : Nat} {T : Tk} (hT : l[i]? = some T) {n : Int} (hn0 : 0 ≤ n) (hn : n ≤ 20) : ∀ v : Int, 0 ≤ v → v ≤ 20 → swF T n (l.take i) v ≤ 100000 := fun v h0 h1 => by
  have hkT := (Tk.ok_iff _).1 (setOk_at hs hT)
  have hl5 := setOk_len hs
  have hil := (List.getElem?_eq_some_iff.1 hT).1
  have := (sumG_take (g := fun q => if q.crit = true then dem q v true else dem q n false) (l := l) (B := 400) (fun t ht => by
    have a1 := dem_nn (setOk_all hs t ht) h0 true
    have a2 := dem_le (setOk_all hs t ht) h0 true
    have a3 := dem_nn (setOk_all hs t ht) hn0 false
    have a4 := dem_le (setOk_all hs t ht) hn0 false
    (try dsimp only)
    split <;> omega) (by omega) i).2
  unfold swF; omega
theorem placed_at {l : List Tk} {i : Nat} (hi : i < l.length) : placedB l (i : Int) = setOk l := by
  unfold placedB
  rw [decide_eq_true ⟨by omega, by omega⟩, Bool.and_true]
theorem respL_no {l : List Tk} {i : Nat} (h : setOk l = false) : respL l i = none := by
  unfold respL
  cases l[i]? with
  | none => rfl
  | some T => simp [h]
theorem respL_at {l : List Tk} {i : Nat} {T : Tk} (hs : setOk l = true) (hT : l[i]? = some T) : respL l i = fixF (lowF T (l.take i)) (T.due + 1 - T.low).toNat T.low := by
  unfold respL; rw [hT]; dsimp only; rw [if_pos hs]
theorem respS_no1 {l : List Tk} {i : Nat} (h : respL l i = none) : respS l i = none := by
  unfold respS; rw [h]
  cases l[i]? <;> rfl
theorem respS_no2 {l : List Tk} {i : Nat} {T : Tk} (hT : l[i]? = some T) (hc : T.crit = false) : respS l i = none := by
  unfold respS; rw [hT]
  cases respL l i with
  | none => rfl
  | some n => simp [hc]
theorem respS_at {l : List Tk} {i : Nat} {T : Tk} {n : Int} (hT : l[i]? = some T) (hn : respL l i = some n) (hc : T.crit = true) : respS l i = fixF (swF T n (l.take i)) (T.due + 1 - T.high).toNat T.high := by
  unfold respS; rw [hT, hn]; simp [hc]

set_option maxRecDepth 100000 in
set_option maxHeartbeats 1600000 in
theorem ResponseLow_impl (ao : Option Addr) (c : Nat) (w : World) (l : List Tk) (i : Nat) (hl : l.length ≤ 1048576) (hc : l.length ≤ c) (hr : RT w ao l) (hi : i < l.length) :
    Calls Try.prog 68 #[.slice ao l.length c, .int .i64 i] w (OptEnd w (respL l i)) := by
  have HRT := Lib.hid hr
  clear hr
  go_enter Try.func68, Try.ntmps68
  go_wp2_with fail
  refine (impl.placed_any _ _ _ l i hl (HRT.out.bw (bw_trans (bw_alloc _ _) (bw_alloc _ _)))).mono ?_
  rw [placed_at hi]
  obtain ⟨q, HQ⟩ : ∃ q, Hid (setOk l = q) := ⟨_, rfl⟩
  rw [HQ.out]
  rintro e w1 ⟨rfl, hb1⟩
  have hw1 : Bw w w1 := bw_trans (bw_trans (bw_alloc _ _) (bw_alloc _ _)) hb1
  have B2 := Lib.hid (box_two hb1).1
  have B3 := Lib.hid (box_two hb1).2
  cases q with
  | false =>
    have hn := respL_no (i := i) HQ.out
    have HN := Lib.hid hn
    clear hn
    go_wp2
    go_ret2
    exact ⟨by rw [HN.out]; rfl, hw1⟩
  | true =>
    obtain ⟨T, hT⟩ := getSome hi
    have hE : EnvR w1 w.heap.size (w.heap.size + 1) l i T := ⟨⟨ao, c, B2.out, HRT.out.bw hw1, hc⟩, B3.out, HQ.out, hT⟩
    have hkT := (Tk.ok_iff _).1 (setOk_at HQ.out hT)
    have hok := take_ok HQ.out i
    have hcall := rises_low (b6 := 0) (f := lowF T (l.take i)) (fun w' hb' v a b => rlow_any (hE.bw hb') v a b) (lowF_mono hok) T.low T.due (by omega) (by omega) (lowF_up hok (by omega)) (by omega) (f_low_bd HQ.out hT)
    have hres := respL_at HQ.out hT
    obtain ⟨b, off, e, hbs, c0, c1, c2, c3, c4⟩ := (HRT.out.bw hw1) i T hT
    subst e
    have p2 := blk_cell B2.out 0 rfl
    have p3 := blk_cell B3.out 0 rfl
    have l2 := blk_lt B2.out
    have l3 := blk_lt B3.out
    clear c1 c3 c4
    have HE := Lib.hid hE
    have HKT := Lib.hid hkT
    have HOK := Lib.hid hok
    have HCALL := Lib.hid hcall
    have HRES := Lib.hid hres
    have HT := Lib.hid hT
    clear hE hkT hok hcall hres hT
    go_wp2_with fail
    have HS := Lib.hid (And.intro p2 (And.intro p3 (And.intro c0 c2)))
    clear p2 p3 c0 c2
    go_region_held3 (fun W => W.cell? ⟨w.heap.size, 0, none⟩ = some (.slice (some ⟨b, off, none⟩) l.length c) ∧ W.cell? ⟨w.heap.size + 1, 0, none⟩ = some (.int .i64 i) ∧ W.cell? ⟨b, off + i * 5, none⟩ = some (vi T.low) ∧ W.cell? ⟨b, off + i * 5 + 2, none⟩ = some (vi T.due))
      (first | exact keepR4 (bw_drew _) HS.out | exact keepR4 (bw_trans (bw_drew _) hb2) HS.out)
      (first | (go_at_call 71; refine (HCALL.out _ (bw_drew _) trivial).mono ?_; rintro e w2 ⟨rfl, hb2⟩))
    go_wp2
    go_ret2
    exact ⟨by rw [HRES.out]; rfl, bw_trans hw1 (bw_trans (bw_drew _) hb2)⟩

theorem keepR5 {w5 W : World} {a b c d f : Nat} {o p q r s : Nat} {v0 v1 v2 v3 v4 : Value} (hb : Bw w5 W) (hs : w5.cell? ⟨a, o, none⟩ = some v0 ∧ w5.cell? ⟨b, p, none⟩ = some v1 ∧ w5.cell? ⟨c, q, none⟩ = some v2 ∧ w5.cell? ⟨d, r, none⟩ = some v3 ∧ w5.cell? ⟨f, s, none⟩ = some v4) :
    W.cell? ⟨a, o, none⟩ = some v0 ∧ W.cell? ⟨b, p, none⟩ = some v1 ∧ W.cell? ⟨c, q, none⟩ = some v2 ∧ W.cell? ⟨d, r, none⟩ = some v3 ∧ W.cell? ⟨f, s, none⟩ = some v4 := ⟨cell_bw hb hs.1, cell_bw hb hs.2.1, cell_bw hb hs.2.2.1, cell_bw hb hs.2.2.2.1, cell_bw hb hs.2.2.2.2⟩
set_option maxRecDepth 100000 in
set_option maxHeartbeats 3200000 in
theorem ResponseSwitch_impl (ao : Option Addr) (c : Nat) (w : World) (l : List Tk) (i : Nat) (hl : l.length ≤ 1048576) (hc : l.length ≤ c) (hr : RT w ao l) (hi : i < l.length) :
    Calls Try.prog 67 #[.slice ao l.length c, .int .i64 i] w (OptEnd w (respS l i)) := by
  have HRT := Lib.hid hr
  clear hr
  go_enter Try.func67, Try.ntmps67
  go_wp2_with fail
  refine (ResponseLow_impl _ _ _ l i hl hc (HRT.out.bw (bw_trans (bw_alloc _ _) (bw_alloc _ _))) hi).mono ?_
  obtain ⟨q, HQ⟩ : ∃ q, Hid (respL l i = q) := ⟨_, rfl⟩
  rw [HQ.out]
  rintro e w1 ⟨rfl, hb1⟩
  have hw1 : Bw w w1 := bw_trans (bw_trans (bw_alloc _ _) (bw_alloc _ _)) hb1
  have B2 := Lib.hid (box_two hb1).1
  have B3 := Lib.hid (box_two hb1).2
  have l2 := blk_lt B2.out
  have l3 := blk_lt B3.out
  cases q with
  | none =>
    have hn := respS_no1 HQ.out
    have e1 : (none : Option Int).isSome = false := rfl
    have HN := Lib.hid hn
    clear hn
    go_wp2
    go_ret2
    exact ⟨by rw [HN.out]; rfl, bw_trans hw1 (bw_alloc _ _)⟩
  | some n =>
    obtain ⟨T, hT, hso, hTo, _, hn1, hn2⟩ := respL_some HQ.out
    have hkT := (Tk.ok_iff _).1 hTo
    obtain ⟨b, off, e, hbs, c0, c1, c2, c3, c4⟩ := (HRT.out.bw hw1) i T hT
    subst e
    have e1 : (some n : Option Int).isSome = true := rfl
    have e2 : (some n : Option Int).getD 0 = n := rfl
    have p2 := blk_cell B2.out 0 rfl
    have p3 := blk_cell B3.out 0 rfl
    obtain ⟨x0, x1, x2, x3, C⟩ := T
    dsimp only at c0 c1 c2 c3 c4 hkT hn1 hn2
    cases C with
    | false =>
      have hn := respS_no2 hT rfl
      have HN := Lib.hid hn
      have HT := Lib.hid hT
      have HTO := Lib.hid hTo
      have HKT := Lib.hid hkT
      clear hn hT hTo hkT
      clear c0 c1 c2 c3
      go_wp2
      go_ret2
      exact ⟨by rw [HN.out]; rfl, bw_trans hw1 (bw_alloc _ _)⟩
    | true =>
      have hw2 := bw_alloc w1 (.cells #[.int .i64 n] 3)
      have B6 := Lib.hid (heap_alloc_new w1 (.cells #[.int .i64 n] 3))
      have hE : EnvR (w1.alloc (.cells #[.int .i64 n] 3)) w.heap.size (w.heap.size + 1) l i ⟨x0, x1, x2, x3, true⟩ := ⟨⟨_, c, blk_bw hw2 B2.out, HRT.out.bw (bw_trans hw1 hw2), hc⟩, blk_bw hw2 B3.out, hso, hT⟩
      have hok := take_ok hso i
      have hcall := rises_sw (b6 := w1.heap.size) (f := swF ⟨x0, x1, x2, x3, true⟩ n (l.take i)) (fun w' hb' v a b => rsw_any (hE.bw hb') (blk_bw hb' B6.out) (by omega) (by omega) v a b) (swF_mono hok) x1 x2 (by omega) (by omega) (swF_up (T := ⟨x0, x1, x2, x3, true⟩) (by omega) hok (by omega)) (by omega) (f_sw_bd hso hT (by omega) (by omega))
      have hres := respS_at hT HQ.out rfl
      dsimp only at hres
      have HE := Lib.hid hE
      have HOK := Lib.hid hok
      have HCALL := Lib.hid hcall
      have HRES := Lib.hid hres
      have HT := Lib.hid hT
      have HKT := Lib.hid hkT
      have HTO := Lib.hid hTo
      clear hE hok hcall hres hT hkT hTo
      go_wp2_with fail
      have HS := Lib.hid (And.intro (cell_bw hw2 p2) (And.intro (cell_bw hw2 p3) (And.intro (cell_bw hw2 c1) (cell_bw hw2 c2))))
      clear p2 p3 c0 c1 c2 c3 c4
      go_region_held3 (fun W => W.cell? ⟨w.heap.size, 0, none⟩ = some (.slice (some ⟨b, off, none⟩) l.length c) ∧ W.cell? ⟨w.heap.size + 1, 0, none⟩ = some (.int .i64 i) ∧ W.cell? ⟨b, off + i * 5 + 1, none⟩ = some (vi x1) ∧ W.cell? ⟨b, off + i * 5 + 2, none⟩ = some (vi x2))
        (first | exact keepR4 (bw_drew _) HS.out | exact keepR4 (bw_trans (bw_drew _) hb2) HS.out)
        (first | (go_at_call 71; refine (HCALL.out _ (bw_drew _) trivial).mono ?_; rintro e w2 ⟨rfl, hb2⟩))
      go_wp2
      go_ret2
      exact ⟨by rw [HRES.out]; rfl, bw_trans hw1 (bw_trans hw2 (bw_trans (bw_drew _) hb2))⟩
theorem respL_implR {w : World} {v : Value} {l : List Tk} (hv : ST w v l) {i : Nat} (hi : i < l.length) : Calls Try.prog 68 #[v, .int .i64 i] w (OptEnd w (respL l i)) := by
  obtain ⟨⟨ao, c, rfl, hr, hc, _⟩, hn⟩ := hv
  exact ResponseLow_impl ao c w l i hn hc hr hi
theorem respS_implR {w : World} {v : Value} {l : List Tk} (hv : ST w v l) {i : Nat} (hi : i < l.length) : Calls Try.prog 67 #[v, .int .i64 i] w (OptEnd w (respS l i)) := by
  obtain ⟨⟨ao, c, rfl, hr, hc, _⟩, hn⟩ := hv
  exact ResponseSwitch_impl ao c w l i hn hc hr hi

/-! ### Tasks that hold -/

theorem holdsAt_no {l : List Tk} {i : Nat} (h : setOk l = false) : holdsAt l i = false := by
  unfold holdsAt
  cases hT : l[i]? with
  | none => rfl
  | some T =>
    have h1 := respL_no (i := i) h
    have h2 := respS_no1 h1
    dsimp only
    rw [h1, h2]; split <;> rfl
set_option maxRecDepth 100000 in
set_option maxHeartbeats 1600000 in
theorem holds_impl (ao : Option Addr) (c : Nat) (w : World) (l : List Tk) (i : Nat) (hl : l.length ≤ 1048576) (hc : l.length ≤ c) (hr : RT w ao l) (hi : i < l.length) :
    Calls Try.prog 49 #[.slice ao l.length c, .int .i64 i] w fun e w' => e = .returned (.bool (holdsAt l i)) ∧ Bw w w' := by
  have HRT := Lib.hid hr
  clear hr
  go_enter Try.func49, Try.ntmps49
  go_wp2_with fail
  refine (impl.placed_any _ _ _ l i hl HRT.out).mono ?_
  rw [placed_at hi]
  obtain ⟨q, HQ⟩ : ∃ q, Hid (setOk l = q) := ⟨_, rfl⟩
  rw [HQ.out]
  rintro e w1 ⟨rfl, hb1⟩
  cases q with
  | false =>
    have hn := holdsAt_no (i := i) HQ.out
    have HN := Lib.hid hn
    clear hn
    go_wp2
    go_ret
    exact ⟨ret_b HN.out.symm, hb1⟩
  | true =>
    obtain ⟨⟨x0, x1, x2, x3, C⟩, hT⟩ := getSome hi
    obtain ⟨b, off, e, hbs, c0, c1, c2, c3, c4⟩ := (HRT.out.bw hb1) i _ hT
    subst e
    dsimp only at c4
    clear c0 c1 c2 c3
    cases C with
    | true =>
      have hres : holdsAt l i = (respS l i).isSome := by unfold holdsAt; rw [hT]; rfl
      have HT := Lib.hid hT
      have HRES := Lib.hid hres
      clear hT hres
      go_wp2_with fail
      refine (ResponseSwitch_impl _ _ _ l i hl hc (HRT.out.bw hb1) hi).mono ?_
      obtain ⟨o, ho⟩ : ∃ o, respS l i = o := ⟨_, rfl⟩
      rw [ho]
      rintro e w2 ⟨rfl, hb2⟩
      have HO := Lib.hid ho
      clear ho
      go_wp2
      go_ret
      exact ⟨ret_b (by rw [HRES.out, HO.out]), bw_trans hb1 hb2⟩
    | false =>
      have hres : holdsAt l i = (respL l i).isSome := by unfold holdsAt; rw [hT]; rfl
      have HT := Lib.hid hT
      have HRES := Lib.hid hres
      clear hT hres
      go_wp2_with fail
      refine (ResponseLow_impl _ _ _ l i hl hc (HRT.out.bw hb1) hi).mono ?_
      obtain ⟨o, ho⟩ : ∃ o, respL l i = o := ⟨_, rfl⟩
      rw [ho]
      rintro e w2 ⟨rfl, hb2⟩
      have HO := Lib.hid ho
      clear ho
      go_wp2
      go_ret
      exact ⟨ret_b (by rw [HRES.out, HO.out]), bw_trans hb1 hb2⟩
theorem lowFrom_step {l : List Tk} {k : Nat} (h : k < l.length) : lowFrom l (l.length - k) k = ((respL l k).isSome && lowFrom l (l.length - (k + 1)) (k + 1)) := by
  obtain ⟨m, hm⟩ : ∃ m, l.length - k = m + 1 := ⟨l.length - k - 1, by omega⟩
  rw [hm, show l.length - (k + 1) = m by omega]; rfl
theorem holdsFrom_step {l : List Tk} {k : Nat} (h : k < l.length) : holdsFrom l (l.length - k) k = (holdsAt l k && holdsFrom l (l.length - (k + 1)) (k + 1)) := by
  obtain ⟨m, hm⟩ : ∃ m, l.length - k = m + 1 := ⟨l.length - k - 1, by omega⟩
  rw [hm, show l.length - (k + 1) = m by omega]; rfl
def FirstEnd (w : World) (o : Bool) (e : Ending) (w' : World) : Prop := ∃ k : Nat, e = .returned (.tuple #[.int .i64 k, .bool o]) ∧ Bw w w'
set_option maxRecDepth 100000 in
set_option maxHeartbeats 1600000 in
theorem FirstBad_impl (ao : Option Addr) (c : Nat) (w : World) (l : List Tk) (hl : l.length ≤ 1048576) (hc : l.length ≤ c) (hr : RT w ao l) (R : Bool) (hR : R = (setOk l && !holdsFrom l l.length 0)) :
    Calls Try.prog 25 #[.slice ao l.length c] w (FirstEnd w R) := by
  have HRT := Lib.hid hr
  clear hr
  have HR := Lib.hid hR
  clear hR
  go_enter Try.func25, Try.ntmps25
  go_wp2_with fail
  refine (impl.SetValid_walk _ _ _ l hl HRT.out).mono ?_
  obtain ⟨q, HQ⟩ : ∃ q, Hid (setOk l = q) := ⟨_, rfl⟩
  rw [HQ.out]
  rintro e w1 ⟨rfl, hb1⟩
  cases q with
  | false =>
    have hres : R = false := by rw [HR.out, HQ.out]; rfl
    subst hres
    go_wp2
    go_ret2
    exact ⟨0, rfl, hb1⟩
  | true =>
    have HX1 : Hid (R = !holdsFrom l (l.length - 0) 0) := by show R = _; rw [HR.out, HQ.out]; rfl
    clear HR
    go_wp2_with fail
    go_loopw [10] (fun i wr => ∃ k : Nat, k ≤ l.length ∧ i = .int .i64 k ∧ Hid (R = !holdsFrom l (l.length - k) k) ∧ Bw w wr) (fun i _ => l.length - (intOf i).toNat)
    case atStart => exact ⟨0, Nat.zero_le _, rfl, HX1.out, hb1⟩
    case round =>
      obtain ⟨k, hk, rfl, hx, hbw⟩ := hrel
      by_cases hlt : k < l.length
      · have hst := holdsFrom_step hlt
        go_wp2_with fail
        refine (holds_impl _ _ _ l k hl hc (HRT.out.bw hbw) hlt).mono ?_
        obtain ⟨o, ho⟩ : ∃ o, holdsAt l k = o := ⟨_, rfl⟩
        rw [ho] at hst ⊢
        rintro e w2 ⟨rfl, hb2⟩
        cases o with
        | false =>
          have hres : R = true := by rw [hx.out, hst]; rfl
          have HST := Lib.hid hst
          have HO := Lib.hid ho
          have HX := Lib.hid hx
          clear hst ho hx
          subst hres
          go_wp2
          go_ret2
          exact ⟨k, rfl, bw_trans hbw hb2⟩
        | true =>
          have hnext : R = !holdsFrom l (l.length - (k + 1)) (k + 1) := by rw [hx.out, hst]; rfl
          have HST := Lib.hid hst
          have HO := Lib.hid ho
          have HNEXT := Lib.hid hnext
          have HX := Lib.hid hx
          clear hst ho hnext hx
          go_wp2
          go_roundw
          case rel => exact ⟨k + 1, by omega, by go_num, HNEXT.out, bw_trans hbw hb2⟩
          case measure => simp [intOf]; omega
      · have hge : decide ((k : Int) < (l.length : Int)) = false := decide_eq_false (by omega)
        have hres : R = false := by rw [hx.out, show l.length - k = 0 by omega]; rfl
        have HX := Lib.hid hx
        clear hx
        subst hres
        go_wp2
        go_ret2
        exact ⟨0, rfl, hbw⟩
set_option maxRecDepth 100000 in
set_option maxHeartbeats 1600000 in
theorem HoldsBoth_impl (ao : Option Addr) (c : Nat) (w : World) (l : List Tk) (hl : l.length ≤ 1048576) (hc : l.length ≤ c) (hr : RT w ao l) :
    Calls Try.prog 9 #[.slice ao l.length c] w fun e w' => e = .returned (.bool (holdsBothB l)) ∧ Bw w w' := by
  have HRT := Lib.hid hr
  clear hr
  have hx : holdsBothB l = (setOk l && holdsFrom l l.length 0) := rfl
  have HX := Lib.hid hx
  clear hx
  go_enter Try.func9, Try.ntmps9
  go_wp2_with fail
  refine (FirstBad_impl _ _ _ l hl hc HRT.out _ rfl).mono ?_
  obtain ⟨b, hb⟩ : ∃ b, holdsFrom l l.length 0 = b := ⟨_, rfl⟩
  rw [hb]
  have HB := Lib.hid hb
  clear hb
  obtain ⟨q, HQ⟩ : ∃ q, Hid (setOk l = q) := ⟨_, rfl⟩
  rw [HQ.out]
  rintro e w1 ⟨k, rfl, hb1⟩
  go_wp2_with fail
  refine (impl.SetValid_walk _ _ _ l hl (HRT.out.bw hb1)).mono ?_
  rw [HQ.out]
  rintro e w2 ⟨rfl, hb2⟩
  have hres : holdsBothB l = (q && b) := by rw [HX.out, HQ.out, HB.out]
  have HRES := Lib.hid hres
  clear hres
  cases q <;> cases b
  all_goals
    go_wp2
    go_ret
    exact ⟨ret_b HRES.out.symm, bw_trans hb1 hb2⟩
theorem both_implR {w : World} {v : Value} {l : List Tk} (hv : ST w v l) : Calls Try.prog 9 #[v] w fun e w' => e = .returned (.bool (holdsBothB l)) ∧ Bw w w' := by
  obtain ⟨⟨ao, c, rfl, hr, hc, _⟩, hn⟩ := hv
  exact HoldsBoth_impl ao c w l hn hc hr
end Go.Proofs.Ytaadlgpglfpmpaa
