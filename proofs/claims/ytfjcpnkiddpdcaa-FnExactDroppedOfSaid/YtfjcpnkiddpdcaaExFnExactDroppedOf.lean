/-
  The walk of the law FnExactDroppedOf: it returns true and writes nothing that was there. No condition.
-/
import Derived.Test.YtfjcpnkiddpdcaaCon
import Derived.Deep.RegionHeld3
namespace Go.Proofs.Ytfjcpnkiddpdcaa
open Go.RowKit
set_option maxRecDepth 100000 in
set_option maxHeartbeats 8000000 in
theorem law_FnExactDroppedOf (v0 : Value) (x0 : Rn) (w : World) (g0 : RawRun w v0 x0) :
    Calls Try.prog 6 #[v0] w fun e w' => e = .returned (.bool true) ∧ Bw w w' := by
  have G0 := Lib.hid g0
  obtain ⟨⟨a01, c01, a02, c02, a03, c03, rfl, _, _, _⟩, n01, n02, n03, _⟩ := g0
  go_enter Try.func6, Try.ntmps6
  go_wp2_with fail
  refine (szRun_any _ _ _ _ _ _ _ _ _ _ _ _ n01 n02 n03 (by omega) (by omega)).mono ?_
  rintro e w1 ⟨q0, rfl, hb1, hq0⟩
  have hs1 : Bw w w1 := (bw_trans (bw_alloc _ _) hb1)
  have hz1 : w.heap.size + 1 ≤ w1.heap.size := by have := hb1.size; simp at this; omega
  have hw1 : Bw w w1 := hs1
  have PB0 := Lib.hid (box_last hb1)
  rcases hq0 with hq0 | ⟨hq0, hp0⟩
  · go_wp2
    go_ret
    exact ⟨rfl, hw1⟩
  · have HP0 := Lib.hid hp0
    clear hp0
    have l01 : x0.ended.length ≤ 1048576 := by have := HP0.out; omega
    have l02 : x0.trace.length ≤ 1048576 := by have := HP0.out; omega
    have l03 : x0.switches.length ≤ 1048576 := by have := HP0.out; omega
    have RV0 : Hid (RR w (rnVal a01 x0.ended.length c01 a02 x0.trace.length c02 a03 x0.switches.length c03 x0.high) x0) := rr_raw G0.out l01 l02 l03
    obtain ⟨b10, b11, b12, b13⟩ := box4 PB0.out
    go_wp2_with fail
    refine (toRun_any (RV0.out.bw hw1)).mono ?_
    rintro e w2 ⟨u, rfl, hu2, hb2⟩
    clear b10 b11 b12 b13
    have hs2 : Bw w1 w2 := hb2
    have hz2 := hb2.size
    have hw2 : Bw w w2 := (bw_trans hw1 hs2)
    have S0 := Lib.hid hu2
    clear hu2
    go_wp2_with fail
    refine (dropped_spec (S0.out.rr.bw (Bw.refl _))).mono ?_
    rintro e w3 ⟨aW, cW, rfl, ho, hb3⟩
    have hs3 : Bw w2 w3 := hb3
    have hz3 := hb3.size
    have hw3 : Bw w w3 := (bw_trans hw2 hs3)
    have OW := Lib.hid ho
    clear ho
    obtain ⟨b20, b21, b22, b23⟩ := box4 (blk_bw hs3 (blk_bw hs2 PB0.out))
    go_wp2_with fail
    refine (toRun_any (RV0.out.bw hw3)).mono ?_
    rintro e w4 ⟨u, rfl, hu4, hb4⟩
    clear b20 b21 b22 b23
    have hs4 : Bw w3 w4 := hb4
    have hz4 := hb4.size
    have hw4 : Bw w w4 := (bw_trans hw3 hs4)
    have X0 := Lib.hid hu4
    clear hu4
    obtain ⟨⟨d01, d02, d03, _, _, _, _, _, _, eu0, _⟩, _⟩ := X0.out
    subst eu0
    go_wp2_with fail
    refine (dropped_impl ((X0.out.rr.bw (Bw.refl _)).bw (bw_alloc _ _))).mono ?_
    rintro e w5 ⟨aGr, cGr, rfl, ho, hb5⟩
    have hs5 : Bw w4 w5 := (bw_trans (bw_alloc _ _) hb5)
    have hz5 : w4.heap.size + 1 ≤ w5.heap.size := by have := hb5.size; simp at this; omega
    have hw5 : Bw w w5 := (bw_trans hw4 hs5)
    have XB0 := Lib.hid (box_last hb5)
    simp only [World.size_alloc] at ho
    have OGr := Lib.hid ho
    clear ho
    have LEN := Lib.hid (show (dropped x0.ended).length ≤ 1048576 from Nat.le_trans (dropFrom_len _ _) l01)
    go_wp2_with fail
    refine (eqIntS_any _ _ _ _ _ _ _ OGr.out.ri (OW.out.bw (bw_trans hs4 hs5)).ri LEN.out LEN.out).mono ?_
    rw [eqI_self]
    rintro e w6 ⟨rfl, hb6⟩
    have hs6 : Bw w5 w6 := hb6
    have hz6 := hb6.size
    have hw6 : Bw w w6 := (bw_trans hw5 hs6)
    obtain ⟨p0, p1, p2, p3⟩ := box4 (blk_bw hs6 (blk_bw hs5 (blk_bw hs4 (blk_bw hs3 (blk_bw hs2 PB0.out)))))
    obtain ⟨r0, r1, r2, r3⟩ := box4 (blk_bw hs6 XB0.out)
    have HS := Lib.hid (And.intro p0 (And.intro p1 (And.intro p2 (And.intro p3 (And.intro r0 (And.intro r1 (And.intro r2 r3)))))))
    have HX5 := Lib.hid (X0.out.rr.bw (bw_trans hs5 hs6))
    go_wp2_with fail
    go_region_held3 (fun W => W.cell? ⟨w.heap.size, 0, none⟩ = some (.slice a01 x0.ended.length c01) ∧ W.cell? ⟨w.heap.size, 1, none⟩ = some (.slice a02 x0.trace.length c02) ∧ W.cell? ⟨w.heap.size, 2, none⟩ = some (.slice a03 x0.switches.length c03) ∧ W.cell? ⟨w.heap.size, 3, none⟩ = some (.bool x0.high) ∧ W.cell? ⟨w4.heap.size, 0, none⟩ = some (.slice (some ⟨d01, 0, none⟩) x0.ended.length x0.ended.length) ∧ W.cell? ⟨w4.heap.size, 1, none⟩ = some (.slice (some ⟨d02, 0, none⟩) x0.trace.length x0.trace.length) ∧ W.cell? ⟨w4.heap.size, 2, none⟩ = some (.slice (some ⟨d03, 0, none⟩) x0.switches.length x0.switches.length) ∧ W.cell? ⟨w4.heap.size, 3, none⟩ = some (.bool x0.high))
      (first | exact keep8 (bw_drew _) HS.out | exact keep8 (bw_trans (bw_drew _) hbA) HS.out | exact keep8 (bw_trans (bw_drew _) (bw_trans hbA hbB)) HS.out)
      (first | (go_at_call 17; refine (toRun_any (RV0.out.bw (bw_trans hw6 (bw_drew _)))).mono ?_; rintro e wA ⟨u2, rfl, hu2, hbA⟩) | (go_at_call 19; refine (eqRun_any (HX5.out.bw (bw_trans (bw_drew _) hbA)) hu2.rr).mono ?_; rw [eqR_refl]; rintro e w7 ⟨rfl, hbB⟩))
    clear p0 p1 p2 p3 r0 r1 r2 r3 HS HX5 hu2
    have hs7 : Bw w6 w7 := bw_trans (bw_drew _) (bw_trans hbA hbB)
    have hz7 := hs7.size
    have hw7 : Bw w w7 := (bw_trans hw6 hs7)
    obtain ⟨r0, r1, r2, r3⟩ := box4 (blk_bw hs7 (blk_bw hs6 XB0.out))
    go_wp2_with fail
    refine (markRun_any X0.out (fun g x hg hB => (blk_bw hs7 (blk_bw hs6 (blk_bw hs5 hg)))) _ (by omega) (by omega)).mono ?_
    rintro e w8 ⟨q0m, rfl, hq0a, hq0b, t8⟩
    clear r0 r1 r2 r3
    have hz8 := t8.size
    have hw8 : Bw w w8 := (bw_hit hw7 t8 (by omega))
    have OG2 := Lib.hid (show Own w8 _ 3 aGr _ from (Own.hit' t8 (Own.bw' hs7 (Own.bw' hs6 OGr.out)) (by omega)))
    go_wp2_with fail
    refine (eqIntS_any _ _ _ _ _ _ _ OG2.out.ri (OW.out.bw (bw_hit (bw_trans (bw_trans (bw_trans hs4 hs5) hs6) hs7) t8 (by omega))).ri LEN.out LEN.out).mono ?_
    rw [eqI_self]
    rintro e w9 ⟨rfl, hb9⟩
    have hs9 : Bw w8 w9 := hb9
    have hz9 := hb9.size
    have hw9 : Bw w w9 := (bw_trans hw8 hs9)
    go_wp2_with fail
    refine (markInts (OG2.out.bw hs9) LEN.out _ (by omega) (by omega)).mono ?_
    rintro e w10 ⟨rfl, t10, hm10⟩
    have hz10 := t10.size
    have hw10 : Bw w w10 := (bw_hit hw9 t10 (by omega))
    have HM := Lib.hid hm10
    clear hm10
    go_wp2_with fail
    refine (heldIntS_any aGr _ cGr 1 _ LEN.out (by omega) (by omega) (HM.out.bw (Bw.refl _)).ri).mono ?_
    rintro e w11 ⟨rfl, hb11⟩
    have hs11 : Bw w10 w11 := hb11
    have hz11 := hb11.size
    have hw11 : Bw w w11 := (bw_trans hw10 hs11)
    obtain ⟨b30, b31, b32, b33⟩ := box4 (blk_bw hs11 (blk_hit t10 (blk_bw hs9 (blk_hit t8 (blk_bw hs7 (blk_bw hs6 (blk_bw hs5 (blk_bw hs4 (blk_bw hs3 (blk_bw hs2 PB0.out)))))) (by omega))) (by omega)))
    go_wp2_with fail
    refine (toRun_any (RV0.out.bw hw11)).mono ?_
    rintro e w12 ⟨u, rfl, hu12, hb12⟩
    clear b30 b31 b32 b33
    have hs12 : Bw w11 w12 := hb12
    have hz12 := hb12.size
    have hw12 : Bw w w12 := (bw_trans hw11 hs12)
    have Y0 := Lib.hid hu12
    clear hu12
    go_wp2_with fail
    refine (dropped_impl (Y0.out.rr.bw (Bw.refl _))).mono ?_
    rintro e w13 ⟨aHr, cHr, rfl, ho, hb13⟩
    have hs13 : Bw w12 w13 := hb13
    have hz13 := hb13.size
    have hw13 : Bw w w13 := (bw_trans hw12 hs13)
    have OHr := Lib.hid ho
    clear ho
    go_wp2_with fail
    refine (eqIntS_any _ _ _ _ _ _ _ OHr.out.ri (OW.out.bw (bw_trans (bw_trans (bw_trans (bw_hit (bw_trans (bw_hit (bw_trans (bw_trans (bw_trans hs4 hs5) hs6) hs7) t8 (by omega)) hs9) t10 (by omega)) hs11) hs12) hs13)).ri LEN.out LEN.out).mono ?_
    rw [eqI_self]
    rintro e w14 ⟨rfl, hb14⟩
    have hs14 : Bw w13 w14 := hb14
    have hz14 := hb14.size
    have hw14 : Bw w w14 := (bw_trans hw13 hs14)
    go_wp2_with fail
    refine (heldIntS_any aGr _ cGr 1 _ LEN.out (by omega) (by omega) (HM.out.bw (bw_trans (bw_trans (bw_trans hs11 hs12) hs13) hs14)).ri).mono ?_
    rintro e w15 ⟨rfl, hb15⟩
    have hs15 : Bw w14 w15 := hb15
    have hz15 := hb15.size
    have hw15 : Bw w w15 := (bw_trans hw14 hs15)
    go_wp2
    go_ret
    exact ⟨rfl, hw15⟩
end Go.Proofs.Ytfjcpnkiddpdcaa
