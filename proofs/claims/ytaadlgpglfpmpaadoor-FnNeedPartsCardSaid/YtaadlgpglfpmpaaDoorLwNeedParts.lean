/-
  The walk of the law FnNeedParts. The laid table of powers of ten is read.
-/
import Derived.Test.YtaadlgpglfpmpaaDoorFj
import Derived.Test.YtaadlgpglfpmpaaDoorGE
import Derived.Test.YtaadlgpglfpmpaaDoorDm
import Derived.Test.YtaadlgpglfpmpaaDoorPutS
import Derived.Test.YtaadlgpglfpmpaaDoorLwNeedOf
import Derived.Lib.QuietBelow
import Derived.BigQuiet
import Derived.BigGuardPart








namespace Go.Proofs.YtaadlgpglfpmpaaDoor
open Go.RowKit

theorem told_take {js : List Jb} (h : toldB js = true) (k : Nat) : toldB (js.take k) = true := by
  simp only [toldB, Bool.and_eq_true, List.all_eq_true, decide_eq_true_eq] at h ⊢
  exact ⟨fun j hj => h.1 j (List.mem_of_mem_take hj), by have := List.length_take_le' k js; omega⟩
theorem told_drop {js : List Jb} (h : toldB js = true) (k : Nat) : toldB (js.drop k) = true := by
  simp only [toldB, Bool.and_eq_true, List.all_eq_true, decide_eq_true_eq] at h ⊢
  exact ⟨fun j hj => h.1 j (List.mem_of_mem_drop hj), by simp; omega⟩
theorem need_parts {js : List Jb} (h : toldB js = true) (t : Int) (k : Nat) : needOf (js.take k) t + needOf (js.drop k) t = needOf js t := by
  rw [needOf, if_pos (told_take h k), needOf, if_pos (told_drop h k), needOf, if_pos h, ← sumN_append, List.take_append_drop]
theorem RJ.pre {w : World} {ao : Option Addr} {l : List Jb} (h : RJ w ao l) (k : Nat) : RJ w ao (l.take k) := fun i y hy => by
  refine h i y ?_
  by_cases hi : i < k
  · rwa [List.getElem?_take_of_lt hi] at hy
  · rw [List.getElem?_eq_none (by have := List.length_take_le k l; omega)] at hy; cases hy

set_option maxRecDepth 100000 in
set_option maxHeartbeats 1600000 in
theorem law_FnNeedParts (v : Value) (w : World) (hv : RawB w v) (hp : Pow10 w) : Calls Tryd.prog 11 #[v] w fun e w' => e = .returned (.bool true) ∧ Bw w w' := by
  have HP := Lib.hid hp
  clear hp
  have HV := Lib.hid hv
  obtain ⟨⟨bo, n, cc, rfl, hc, hm, _⟩⟩ := hv
  unfold maxLen at hm
  by_cases hn : 1048576 < n
  · go_enter Tryd.func11, Tryd.ntmps11
    go_wp2
    go_ret
    exact ⟨rfl, Bw.refl _⟩
  have hnd : decide (1048576 < (n : Int)) = false := decide_eq_false (by omega)
  go_enter Tryd.func11, Tryd.ntmps11
  go_wp2_with fail
  refine (DrawNeedOf_any HV.out (Bw.refl _)).mono ?_
  clear hnd
  rintro e w1 ⟨bj, d, js, t, rfl, ⟨hjow, hj61, _, hb1⟩⟩
  have hj : js.length ≤ 1048576 := by omega
  have HJ := Lib.hid (sj_row hjow hj)
  have HK := Lib.hid (Own.ofRow hjow).rj
  have hcap : js.length ≤ d := by
    obtain ⟨⟨bo', d', e', _, hd', _⟩, _⟩ := HJ.out
    simp only [Value.slice.injEq] at e'
    obtain ⟨_, _, rfl⟩ := e'
    exact hd'
  clear hjow
  go_wp2_with fail
  refine (NeedOf_impl _ _ _ js t hj HK.out).mono ?_
  rintro e w2 ⟨rfl, hb2⟩
  go_wp2_with fail
  refine (NeedOf_spec _ _ _ js t hj (HK.out.bw hb2)).mono ?_
  rintro e w3 ⟨rfl, hb3⟩
  have h13 := bw_trans hb2 hb3
  have hft := fun h => fj_told (js := js) h
  have hbd := needOf_bd js t
  have hpp := fun h => need_parts (js := js) h t (js.length / 2)
  have hfe : js = [] → fjB js = [] := fun h => by rw [h]; rfl
  obtain ⟨N, hN⟩ : ∃ N, needOf js t = N := ⟨_, rfl⟩
  rw [hN] at hbd
  simp only [hN] at hpp
  rw [hN]
  have hnn : (N != N) = false := bne_self_eq_false _
  have HFT := Lib.hid hft
  have HPP := Lib.hid hpp
  have HFE := Lib.hid hfe
  clear hft hpp hfe
  go_wp2_with fail
  refine (fj_impl (HJ.out.bw h13) (pow_bw HP.out (bw_trans hb1 h13))).mono ?_
  obtain ⟨B, hB⟩ : ∃ B, fjB js = B := ⟨_, rfl⟩
  have HBE := Lib.hid hB
  rw [hB]
  rintro e w4 ⟨rfl, hb4⟩
  have h14 := bw_trans h13 hb4
  have hw4 := bw_trans hb1 h14
  cases B with
  | nil =>
    go_wp2_with fail
    refine (NeedOf_spec _ _ _ js t hj (HK.out.bw h14)).mono ?_
    rw [hN]
    rintro e w5 ⟨rfl, hb5⟩
    go_wp2
    go_ret
    exact ⟨by simp, bw_trans hw4 hb5⟩
  | cons b0 B0 =>
    have hto : toldB js = true := HFT.out (by rw [HBE.out]; simp)
    have hjne : js ≠ [] := fun h => by have := HFE.out h; rw [HBE.out] at this; simp at this
    have hlp : 0 < js.length := List.length_pos_iff.2 hjne
    have hne : (b0 :: B0).isEmpty = false := rfl
    obtain ⟨B, hBB⟩ : ∃ B, b0 :: B0 = B := ⟨_, rfl⟩
    rw [hBB] at hne ⊢
    obtain ⟨j0, hj0⟩ := getSome hlp
    obtain ⟨b, off, hbo, _⟩ := (HK.out) 0 _ hj0
    subst hbo
    have hsum := HPP.out hto
    obtain ⟨h, hh⟩ : ∃ h, js.length / 2 = h := ⟨_, rfl⟩
    rw [hh] at hsum
    have hh0 : ((js.length : Int)).tdiv 2 = (h : Int) := by rw [← hh]; exact (Int.ofNat_tdiv js.length 2).symm
    have hh1 : ((js.length : Int)) / 2 = (h : Int) := by rw [← hh]; simp
    have hhl : h ≤ js.length := by omega
    obtain ⟨x, hx⟩ : ∃ x, needOf (js.take h) t = x := ⟨_, rfl⟩
    obtain ⟨y, hy⟩ : ∃ y, needOf (js.drop h) t = y := ⟨_, rfl⟩
    rw [hx, hy] at hsum
    have ca : ∀ W, Bw w4 W → Calls Tryd.prog 36 #[.slice (some ⟨b, off, none⟩) h d, .int .i64 t] W fun e w' => e = .returned (.int .i64 x) ∧ Bw W w' := fun W hW => by
      have h1 := NeedOf_impl _ d W (js.take h) t (by simp; omega) ((HK.out.bw (bw_trans h14 hW)).pre h)
      rw [hx, List.length_take, Nat.min_eq_left hhl] at h1; exact h1
    have cb : ∀ W c', Bw w4 W → Calls Tryd.prog 36 #[.slice (some ⟨b, off + h * 3, none⟩) (js.length - h) c', .int .i64 t] W fun e w' => e = .returned (.int .i64 y) ∧ Bw W w' := fun W c' hW => by
      have h1 := NeedOf_impl _ c' W (js.drop h) t (by simp; omega) (rj_drop (HK.out.bw (bw_trans h14 hW)) h)
      rw [hy, List.length_drop] at h1; exact h1
    have CA := Lib.hid ca
    have CB := Lib.hid cb
    have hwr := IntWalk.i64_in (x + y) (by omega)
    have m1 : (h : Int) ≤ d := by omega
    have m2 : (h : Int) ≤ js.length := by omega
    have hsb : (x + y == N) = true := by simp [hsum]
    have HTO := Lib.hid hto
    have HX := Lib.hid hx
    have HY := Lib.hid hy
    have HSUM := Lib.hid hsum
    have HH := Lib.hid hh
    have HJ0 := Lib.hid hj0
    clear hto hx hy hsum hh hj0
    clear hB hBB ca cb hjne
    go_wp2_with fail
    refine wp_region_quiet_below (by kernel_rfl) (by kernel_rfl) ?_
    repeat (go_big_quiet_step ((go_at_call 36; first | with_reducible exact Calls.regrown_of (CA.out _ (below_regrown _ _ _)) | with_reducible exact Calls.regrown_of (CB.out _ _ (below_regrown _ _ _)))))
    refine wpQuiet_nil ?_
    intro wq hw'
    have hbq := bw_of_ex hw'
    clear hw'
    go_wp2
    go_ret
    exact ⟨by simp, bw_trans hw4 hbq⟩
end Go.Proofs.YtaadlgpglfpmpaaDoor
