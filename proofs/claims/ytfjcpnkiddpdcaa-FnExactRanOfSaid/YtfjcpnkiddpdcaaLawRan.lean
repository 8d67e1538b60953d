/-
  The walks of the laws FnExactRanOf and FnExactIdleOf: both return true and write nothing that was there. No condition.
-/
import Derived.Test.YtfjcpnkiddpdcaaTo
namespace Go.Proofs.Ytfjcpnkiddpdcaa
open Go.RowKit

/-- What a size leaves: less than nothing, or what is left of the limit. -/
def Sz (left : Int) (n : Nat) (q : Int) : Prop := q < 0 ∨ (0 ≤ q ∧ q + n = left)

def SzEnd (w : World) (left : Int) (n : Nat) (e : Ending) (w' : World) : Prop := ∃ q, e = .returned (.int .i64 q) ∧ Bw w w' ∧ Sz left n q

set_option maxHeartbeats 800000 in
theorem szRun_any (a1 a2 a3 : Option Addr) (n1 c1 n2 c2 n3 c3 : Nat) (h : Bool) (left : Int) (w : World) (h1 : n1 ≤ maxLen) (h2 : n2 ≤ maxLen) (h3 : n3 ≤ maxLen) (l0 : 0 ≤ left) (l1 : left ≤ 1048576) :
    Calls Try.prog 15 #[rnVal a1 n1 c1 a2 n2 c2 a3 n3 c3 h, .int .i64 left] w (SzEnd w left (n1 + n2 + n3)) := by
  go_enter Try.func15, Try.ntmps15
  go_wp2_with fail
  refine (szIntS_any _ _ _ _ _ h1 l0 l1).mono ?_
  by_cases k1 : left - (n1 : Int) < 0
  · rw [if_pos k1]
    rintro e w1 ⟨rfl, rfl⟩
    go_wp2
    go_ret
    exact ⟨-1, rfl, bw_alloc _ _, .inl (by omega)⟩
  · rw [if_neg k1]
    rintro e w1 ⟨rfl, rfl⟩
    go_wp2_with fail
    refine (szIntS_any _ _ _ _ _ h2 (by omega) (by omega)).mono ?_
    by_cases k2 : left - (n1 : Int) - (n2 : Int) < 0
    · rw [if_pos k2]
      rintro e w1 ⟨rfl, rfl⟩
      go_wp2
      go_ret
      exact ⟨-1, rfl, bw_alloc _ _, .inl (by omega)⟩
    · rw [if_neg k2]
      rintro e w1 ⟨rfl, rfl⟩
      go_wp2_with fail
      refine (szIntS_any _ _ _ _ _ h3 (by omega) (by omega)).mono ?_
      by_cases k3 : left - (n1 : Int) - (n2 : Int) - (n3 : Int) < 0
      · rw [if_pos k3]
        rintro e w1 ⟨rfl, rfl⟩
        go_wp2
        go_ret
        exact ⟨-1, rfl, bw_alloc _ _, .inl (by omega)⟩
      · rw [if_neg k3]
        rintro e w1 ⟨rfl, rfl⟩
        go_wp2
        go_ret
        exact ⟨_, rfl, bw_alloc _ _, .inr ⟨by omega, by omega⟩⟩

/-- A run's box: its four cells. -/
theorem box4 {w : World} {g E : Nat} {x0 x1 x2 x3 : Value} (h : w.heap[g]? = some (.cells #[x0, x1, x2, x3] E (0, 0))) :
    w.cell? ⟨g, 0, none⟩ = some x0 ∧ w.cell? ⟨g, 1, none⟩ = some x1 ∧ w.cell? ⟨g, 2, none⟩ = some x2 ∧ w.cell? ⟨g, 3, none⟩ = some x3 :=
  ⟨blk_cell h 0 rfl, blk_cell h 1 rfl, blk_cell h 2 rfl, blk_cell h 3 rfl⟩

set_option maxHeartbeats 1600000 in
theorem law_RanOf (v : Value) (r : Rn) (t : Int) (w : World) (hv : RawRun w v r) (_ : I64 t) :
    Calls Try.prog 3 #[v, .int .i64 t] w fun e w' => e = .returned (.bool true) ∧ Bw w w' := by
  obtain ⟨⟨a1, c1, a2, c2, a3, c3, rfl, h1, h2, h3⟩, n1, n2, n3, _⟩ := hv
  have H1 := Lib.hid h1
  have H2 := Lib.hid h2
  have H3 := Lib.hid h3
  clear h1 h2 h3
  go_enter Try.func3, Try.ntmps3
  go_wp2_with fail
  refine (szRun_any _ _ _ _ _ _ _ _ _ _ _ _ n1 n2 n3 (by omega) (by omega)).mono ?_
  rintro e w1 ⟨q, rfl, hb1, hq⟩
  have hw1 := bw_trans (bw_alloc _ _) hb1
  rcases hq with hq | ⟨hq0, hq1⟩
  · go_wp2
    go_ret
    exact ⟨rfl, hw1⟩
  · have RV : Hid (RR w (rnVal a1 r.ended.length c1 a2 r.trace.length c2 a3 r.switches.length c3 r.high) r) := ⟨⟨_, _, _, _, _, _, rfl, H1.out, H2.out, H3.out⟩, by omega, by omega, by omega⟩
    clear H1 H2 H3 n1 n2 n3
    have B1 := Lib.hid (box_last hb1)
    obtain ⟨b0, b1, b2, b3⟩ := box4 B1.out
    have HQ := Lib.hid hq1
    clear hq1
    go_wp2_with fail
    refine (toRun_any (RV.out.bw hw1)).mono ?_
    rintro e w2 ⟨u, rfl, hu, hb2⟩
    have HU := Lib.hid hu
    clear hu b0 b1 b2 b3
    have hw2 := bw_trans hw1 hb2
    go_wp2_with fail
    refine (ran_spec HU.out.rr t).mono ?_
    rintro e w3 ⟨rfl, hb3⟩
    have hw3 := bw_trans hw2 hb3
    clear HU
    have B3 := Lib.hid (blk_bw hb3 (blk_bw hb2 B1.out))
    obtain ⟨b0, b1, b2, b3⟩ := box4 B3.out
    go_wp2_with fail
    refine (toRun_any (RV.out.bw hw3)).mono ?_
    rintro e w4 ⟨u, rfl, hu, hb4⟩
    have hw4 := bw_trans hw3 hb4
    clear b0 b1 b2 b3
    have HU := Lib.hid hu.rr
    obtain ⟨⟨g1, g2, g3, e1, e2, e3, _, _, _, rfl, _⟩, _⟩ := hu
    go_wp2_with fail
    refine (ran_impl (HU.out.bw (bw_alloc _ _)) t).mono ?_
    rintro e w5 ⟨rfl, hb5⟩
    have hw5 := bw_trans hw4 (bw_trans (bw_alloc _ _) hb5)
    have B5 := Lib.hid (blk_bw hb5 (blk_bw (bw_alloc _ _) (blk_bw hb4 B3.out)))
    have X5 := Lib.hid (box_last hb5)
    obtain ⟨b0, b1, b2, b3⟩ := box4 B5.out
    obtain ⟨x0, x1, x2, x3⟩ := box4 X5.out
    have HS := Lib.hid (And.intro b0 (And.intro b1 (And.intro b2 (And.intro b3 (And.intro x0 (And.intro x1 (And.intro x2 x3)))))))
    have HU5 := Lib.hid (HU.out.bw (bw_trans (bw_alloc _ _) hb5))
    go_wp2_with fail
    go_region_held3 (fun W => W.cell? ⟨w.heap.size, 0, none⟩ = some (.slice a1 r.ended.length c1) ∧ W.cell? ⟨w.heap.size, 1, none⟩ = some (.slice a2 r.trace.length c2) ∧ W.cell? ⟨w.heap.size, 2, none⟩ = some (.slice a3 r.switches.length c3) ∧ W.cell? ⟨w.heap.size, 3, none⟩ = some (.bool r.high) ∧
      W.cell? ⟨w4.heap.size, 0, none⟩ = some (.slice (some ⟨g1, 0, none⟩) r.ended.length r.ended.length) ∧ W.cell? ⟨w4.heap.size, 1, none⟩ = some (.slice (some ⟨g2, 0, none⟩) r.trace.length r.trace.length) ∧ W.cell? ⟨w4.heap.size, 2, none⟩ = some (.slice (some ⟨g3, 0, none⟩) r.switches.length r.switches.length) ∧ W.cell? ⟨w4.heap.size, 3, none⟩ = some (.bool r.high))
      (first | exact keep8 (bw_drew _) HS.out | exact keep8 (bw_trans (bw_drew _) hb6) HS.out | exact keep8 (bw_trans (bw_drew _) (bw_trans hb6 hb7)) HS.out)
      (first | (go_at_call 17; refine (toRun_any (RV.out.bw (bw_trans hw5 (bw_drew _)))).mono ?_; rintro e w6 ⟨u2, rfl, hu2, hb6⟩) | (go_at_call 19; refine (eqRun_any (HU5.out.bw (bw_trans (bw_drew _) hb6)) hu2.rr).mono ?_; rw [eqR_refl]; rintro e w7 ⟨rfl, hb7⟩))
    have hw7 := bw_trans hw5 (bw_trans (bw_drew _) (bw_trans hb6 hb7))
    go_wp2
    go_ret
    exact ⟨rfl, hw7⟩
end Go.Proofs.Ytfjcpnkiddpdcaa
