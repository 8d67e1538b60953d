/-
  The walk of the specification's l6Parse.
-/
import Derived.Test.YtnmpilmjkgdpgaaDoorPn
import Derived.Deep.RegionHeld3

namespace Go.Proofs.YtnmpilmjkgdpgaaDoor
open Go.RowKit

theorem spB_two {x t r a n : List UInt8} (h1 : cutC 64 x = [t, r]) (h2 : cutC 58 r = [a, n]) : spB x = if (numB t).2 = true ∧ (numB a).2 = true ∧ (numB n).2 = true ∧ tellB ⟨(numB t).1, (numB a).1, (numB n).1⟩ = true then some ⟨(numB t).1, (numB a).1, (numB n).1⟩ else none := by
  rw [spB, h1]; simp only; rw [h2]
theorem spB_not1 {x : List UInt8} (h : (cutC 64 x).length ≠ 2) : spB x = none := by
  unfold spB
  split
  · rename_i t r he; rw [he] at h; exact absurd rfl h
  · rfl
theorem spB_not2 {x t r : List UInt8} (h1 : cutC 64 x = [t, r]) (h : (cutC 58 r).length ≠ 2) : spB x = none := by
  rw [spB, h1]
  simp only
  split
  · rename_i a n he; rw [he] at h; exact absurd rfl h
  · rfl
theorem two_of {α : Type} {l : List α} (h : l.length = 2) : ∃ a b, l = [a, b] := by
  match l, h with
  | [a, b], _ => exact ⟨a, b, rfl⟩
/-- What l6Parse hands back. -/
def ParR (w : World) (x : List UInt8) (e : Ending) (w' : World) : Prop := ∃ (j : Jb) (ok : Bool), e = .returned (.tuple #[.agg #[.int .i64 j.task, .int .i64 j.at_, .int .i64 j.need], .bool ok]) ∧ Hid (spB x = if ok = true then some j else none) ∧ Bw w w'
theorem strs2 {w : World} {base : Nat} {ao : Option Addr} {cp : Nat} {t r : List UInt8} (h : w.ownsRow base 9 1 (.slice ao 2 cp) 2 (strs [t, r])) : ∃ g, ao = some ⟨g, 0, none⟩ ∧ 2 ≤ cp ∧ w.cell? ⟨g, 0, none⟩ = some (sB t) ∧ w.cell? ⟨g, 1, none⟩ = some (sB r) := by
  obtain ⟨g, e, _, _, h0⟩ := (Own.ofRow h).cell (j := 0) rfl
  obtain ⟨g', e', _, _, h1⟩ := (Own.ofRow h).cell (j := 1) rfl
  rw [e] at e'
  simp at e'
  subst e'
  rcases h.2 with ⟨hn, _⟩ | ⟨g2, cap, cur, hv, _, _, hc, _⟩
  · cases hn
  · injection hv with _ _ hv; subst hv
    exact ⟨g, e, hc, h0, h1⟩
theorem cells3 {W : World} {g : Nat} {a b c : Value} (h : W.heap[g]? = some (.cells #[a, b, c] 41 (0, 0))) : W.cell? ⟨g, 0, none⟩ = some a ∧ W.cell? ⟨g, 1, none⟩ = some b ∧ W.cell? ⟨g, 2, none⟩ = some c := ⟨blk_cell h 0 rfl, blk_cell h 1 rfl, blk_cell h 2 rfl⟩
theorem oth3 {W : World} {g k : Nat} {x : Obj} (h : W.heap[k]? = some x) (hne : k ≠ g) (a b c : Value) : (((W.setCell ⟨g, 0, none⟩ a).setCell ⟨g, 1, none⟩ b).setCell ⟨g, 2, none⟩ c).heap[k]? = some x := blk_oth (blk_oth (blk_oth h hne _ _) hne _ _) hne _ _
set_option maxRecDepth 100000 in
set_option maxHeartbeats 3200000 in
theorem l6Parse_any (B : List UInt8) (hB : B.length ≤ 1048576) (w : World) : Calls Tryd.prog 20 #[sB B] w (ParR w B) := by
  go_enter Tryd.func20, Tryd.ntmps20
  go_wp2_with fail
  refine (l11Cut_any B hB 64 _).mono ?_
  obtain ⟨P, hP⟩ : ∃ P, cutC 64 B = P := ⟨_, rfl⟩
  have hlen := cutC_len 64 B
  rw [hP] at hlen ⊢
  rintro e w1 ⟨ao, c, rfl, hown, hb1⟩
  have HX := Lib.hid (box_last hb1)
  have hb01 := bw_trans (bw_alloc _ _) hb1
  have x0 := blk_cell HX.out 0 rfl
  have x1 := blk_cell HX.out 1 rfl
  have x2 := blk_cell HX.out 2 rfl
  have xf := blk_free HX.out
  by_cases h2 : P.length = 2
  · obtain ⟨t, r, rfl⟩ := two_of h2
    have hrl : r.length ≤ 1048576 := Nat.le_trans (hlen r (by simp)) hB
    obtain ⟨g, rfl, hc2, y0, y1⟩ := strs2 hown
    have hgl : g < w1.heap.size := World.block_lt_of_cell? w1 _ y0
    have HP := Lib.hid hP
    clear hP
    clear h2 hlen hown
    go_wp2_with fail
    refine (l11Cut_any r hrl 58 _).mono ?_
    obtain ⟨Q, hQ⟩ : ∃ Q, cutC 58 r = Q := ⟨_, rfl⟩
    rw [hQ]
    rintro e w2 ⟨ao', c', rfl, hown', hb2⟩
    clear x0 x1 x2 xf
    have hb02 := bw_trans hb01 hb2
    have z0 := cell_bw hb2 y0
    have z1 := cell_bw hb2 y1
    have HX := Lib.hid (blk_bw hb2 HX.out)
    have x0 := blk_cell HX.out 0 rfl
    have x1 := blk_cell HX.out 1 rfl
    have x2 := blk_cell HX.out 2 rfl
    have xf := blk_free HX.out
    clear y0 y1
    by_cases h2 : Q.length = 2
    · obtain ⟨a, n, rfl⟩ := two_of h2
      obtain ⟨g', rfl, hc2', y0, y1⟩ := strs2 hown'
      have HS2 := Lib.hid (spB_two HP.out hQ)
      have HQ := Lib.hid hQ
      clear hQ
      clear h2 hown'
      go_wp2_with fail
      refine (l11Num_any t _).mono ?_
      rintro e w3 ⟨rfl, hb3⟩
      have v0 := cell_bw hb3 y0
      have v1 := cell_bw hb3 y1
      go_wp2_with fail
      refine (l11Num_any a _).mono ?_
      rintro e w4 ⟨rfl, hb4⟩
      have u0 := cell_bw hb4 v0
      have u1 := cell_bw hb4 v1
      go_wp2_with fail
      refine (l11Num_any n _).mono ?_
      rintro e w5 ⟨rfl, hb5⟩
      have hb25 := bw_trans hb3 (bw_trans hb4 hb5)
      have hb05 := bw_trans hb02 hb25
      clear x0 x1 x2 xf y0 y1 v0 v1 u0 u1 z0 z1
      have HX := Lib.hid (blk_bw hb25 HX.out)
      have x0 := blk_cell HX.out 0 rfl
      have x1 := blk_cell HX.out 1 rfl
      have x2 := blk_cell HX.out 2 rfl
      have xf := blk_free HX.out
      obtain ⟨⟨T, p⟩, hT⟩ : ∃ T, numB t = T := ⟨_, rfl⟩
      obtain ⟨⟨A, q⟩, hA⟩ : ∃ T, numB a = T := ⟨_, rfl⟩
      obtain ⟨⟨N, s⟩, hN⟩ : ∃ T, numB n = T := ⟨_, rfl⟩
      have hs2 := HS2.out
      rw [hT, hA, hN] at hs2
      rw [hT, hA, hN]
      clear hT hA hN HS2
      have HS2 := Lib.hid hs2
      clear hs2
      go_wp2_with fail
      have HJ := Lib.hid (heap_alloc_new w5 (.cells #[.int .i64 T, .int .i64 A, .int .i64 N] 41))
      have HX1 := Lib.hid (blk_bw (bw_alloc w5 (.cells #[.int .i64 T, .int .i64 A, .int .i64 N] 41)) HX.out)
      have hbW := bw_trans hb05 (bw_alloc w5 (.cells #[.int .i64 T, .int .i64 A, .int .i64 N] 41))
      have hne : w5.heap.size ≠ w.heap.size := by have := blk_lt HX.out; omega
      generalize hW : w5.alloc (Obj.cells #[.int .i64 T, .int .i64 A, .int .i64 N] 41) = W1 at *
      clear hW x0 x1 x2 xf HX
      obtain ⟨G2, hG2⟩ : ∃ G2, w5.heap.size = G2 := ⟨_, rfl⟩
      rw [hG2] at HJ hne ⊢
      clear hG2
      have HS := Lib.hid (cells3 HJ.out)
      have x0 := blk_cell HX1.out 0 rfl
      have x1 := blk_cell HX1.out 1 rfl
      have x2 := blk_cell HX1.out 2 rfl
      have xf := blk_free HX1.out
      have s0 := HS.out.1
      have s1 := HS.out.2.1
      have s2 := HS.out.2.2
      have hk : (p = true ∧ q = true ∧ s = true → False) → ParR w B (.returned (.tuple #[.agg #[.int .i64 T, .int .i64 A, .int .i64 N], .bool false])) (((W1.setCell ⟨w.heap.size, 0, none⟩ (.int .i64 T)).setCell ⟨w.heap.size, 1, none⟩ (.int .i64 A)).setCell ⟨w.heap.size, 2, none⟩ (.int .i64 N)).drew := fun hno => ⟨⟨T, A, N⟩, false, rfl, by show _ = _; rw [HS2.out, if_neg (fun h => hno ⟨h.1, h.2.1, h.2.2.1⟩)]; rfl, bw_trans (bw_set (bw_set (bw_set hbW (Nat.le_refl _) _ _) (Nat.le_refl _) _ _) (Nat.le_refl _) _ _) (bw_drew _)⟩
      have HK := Lib.hid hk
      clear hk
      cases p with
      | false =>
        have HK2 := Lib.hid (HK.out (by simp))
        clear HK
        first
          | go_region_with (fail)
          | skip
        all_goals go_wp2
        all_goals (try simp only [Exit.inBlock, Exit.then])
        all_goals refine bodyPost_ret (v := .tuple #[.agg #[.int .i64 T, .int .i64 A, .int .i64 N], .bool false]) ?_ rfl ?_
        all_goals first
          | (rw [results_cell_tmp rfl]; go_simp; done)
          | exact HK2.out
      | true =>
        cases q with
        | false =>
          have HK2 := Lib.hid (HK.out (by simp))
          clear HK
          first
            | go_region_with (fail)
            | skip
          all_goals go_wp2
          all_goals (try simp only [Exit.inBlock, Exit.then])
          all_goals refine bodyPost_ret (v := .tuple #[.agg #[.int .i64 T, .int .i64 A, .int .i64 N], .bool false]) ?_ rfl ?_
          all_goals first
            | (rw [results_cell_tmp rfl]; go_simp; done)
            | exact HK2.out
        | true =>
          cases s with
          | false =>
          have HK2 := Lib.hid (HK.out (by simp))
          clear HK
          first
            | go_region_with (fail)
            | skip
          all_goals go_wp2
          all_goals (try simp only [Exit.inBlock, Exit.then])
          all_goals refine bodyPost_ret (v := .tuple #[.agg #[.int .i64 T, .int .i64 A, .int .i64 N], .bool false]) ?_ rfl ?_
          all_goals first
            | (rw [results_cell_tmp rfl]; go_simp; done)
            | exact HK2.out
          | true =>
            clear HK
            obtain ⟨TL, hTL⟩ : ∃ TL, tellB ⟨T, A, N⟩ = TL := ⟨_, rfl⟩
            have hs3 := HS2.out
            rw [hTL] at hs3
            have HS3 := Lib.hid hs3
            clear hs3
            have ct := l6Text_any T A N
            rw [hTL] at ct
            have CT := Lib.hid ct
            clear ct hTL
            clear x0 x1 x2 xf s0 s1 s2
            go_region_held3 (fun W => W.cell? ⟨G2, 0, none⟩ = some (.int .i64 T) ∧ W.cell? ⟨G2, 1, none⟩ = some (.int .i64 A) ∧ W.cell? ⟨G2, 2, none⟩ = some (.int .i64 N))
              (first | with_reducible exact cells3 (blk_bw (bw_drew _) HJ.out) | with_reducible exact cells3 HJ6.out | with_reducible exact cells3 (blk_bw (bw_drew _) HJ6.out) | with_reducible exact cells3 (oth3 HJ6.out hne _ _ _) | with_reducible exact cells3 (oth3 (blk_bw (bw_drew _) HJ.out) hne _ _ _))
              ((go_at_call 35; refine (CT.out _).mono ?_; rintro e w6 ⟨rfl, hb6⟩; have hbX : Bw W1 w6 := bw_trans (bw_drew _) hb6; have HJ6 := Lib.hid (blk_bw hbX HJ.out); have HX6 := Lib.hid (blk_bw hbX HX1.out); have t0 := blk_cell HX6.out 0 rfl; have t1 := blk_cell HX6.out 1 rfl; have t2 := blk_cell HX6.out 2 rfl; have tf := blk_free HX6.out))
            all_goals go_wp2
            all_goals (try simp only [Exit.inBlock, Exit.then])
            all_goals refine bodyPost_ret (v := .tuple #[.agg #[.int .i64 T, .int .i64 A, .int .i64 N], .bool TL]) ?_ rfl ?_
            all_goals first
              | (rw [results_cell_tmp rfl]; go_simp; done)
              | exact ⟨⟨T, A, N⟩, TL, rfl, by show _ = _; rw [HS3.out]; cases TL <;> simp, bw_set (bw_set (bw_set (bw_trans hbW hbX) (Nat.le_refl _) _ _) (Nat.le_refl _) _ _) (Nat.le_refl _) _ _⟩
              | trace_state
    · have hr := Lib.hid (spB_not2 HP.out (by rw [hQ]; exact h2))
      have hq2 : ((Q.length : Int) != 2) = true := by simp; omega
      go_wp2
      all_goals (try simp only [Exit.inBlock, Exit.then])
      all_goals refine bodyPost_ret (v := .tuple #[.agg #[.int .i64 0, .int .i64 0, .int .i64 0], .bool false]) ?_ rfl ?_
      all_goals first
        | (rw [results_cell_tmp rfl]; go_simp; done)
        | exact ⟨⟨0, 0, 0⟩, false, rfl, by show _ = _; rw [hr.out]; rfl, bw_set (bw_set (bw_set hb02 (Nat.le_refl _) _ _) (Nat.le_refl _) _ _) (Nat.le_refl _) _ _⟩
  · have hr := Lib.hid (spB_not1 (by rw [hP]; exact h2))
    have hq2 : ((P.length : Int) != 2) = true := by simp; omega
    go_wp2
    all_goals (try simp only [Exit.inBlock, Exit.then])
    all_goals refine bodyPost_ret (v := .tuple #[.agg #[.int .i64 0, .int .i64 0, .int .i64 0], .bool false]) ?_ rfl ?_
    all_goals first
      | (rw [results_cell_tmp rfl]; go_simp; done)
      | exact ⟨⟨0, 0, 0⟩, false, rfl, by show _ = _; rw [hr.out]; rfl, bw_set (bw_set (bw_set hb01 (Nat.le_refl _) _ _) (Nat.le_refl _) _ _) (Nat.le_refl _) _ _⟩
end Go.Proofs.YtnmpilmjkgdpgaaDoor
