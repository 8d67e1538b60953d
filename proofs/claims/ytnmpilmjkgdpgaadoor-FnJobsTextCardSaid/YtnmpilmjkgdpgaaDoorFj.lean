/-
  The walk of FormatJobs of the program. Where the jobs are told, the laid table of powers of ten is read.
-/
import Derived.Test.YtnmpilmjkgdpgaaDoorFt
import Derived.Test.YtnmpilmjkgdpgaaDoorJoin
import Derived.Test.YtnmpilmjkgdpgaaDoorNeed
import Derived.Test.YtnmpilmjkgdpgaaDoorLeave
import Derived.Lib.SmallJoins
import Derived.Lib.AppendIntMem
import Derived.Lib.ItoaLen
import Derived.Deep.RegionHeld3







namespace Go.Proofs.YtnmpilmjkgdpgaaDoor
open Go.RowKit

abbrev Pow10 (w : World) : Prop := Lib.TabIs Tryd.prog w "internal/strconv.uint64pow10" .u64 Lib.pow10Tab
theorem pow_bw {w w' : World} (h : Pow10 w) (hb : Bw w w') : Pow10 w' := by
  exact Go.Joins.tab_stays (g := 3) (by kernel_rfl) h hb (Nat.le_refl _)
theorem itoa_any (n : Int) (h : -1000 ≤ n ∧ n ≤ 1000) (w : World) (ht : Pow10 w) : Calls Tryd.prog 32 #[.int .i64 n] w fun e w' => e = .returned (sB (Lib.itoa n)) ∧ Bw w w' := by
  refine (Tryd.strconv_Itoa n (by omega) (by omega) w ht).mono ?_
  rintro e w' ⟨rfl, k, os, rfl⟩
  exact ⟨rfl, Lib.below_grow _ _ (Nat.le_refl _) _ _⟩
/-- A job's text. -/
def jobT (j : Jb) : List UInt8 := Lib.itoa j.task ++ [64] ++ Lib.itoa j.at_ ++ [58] ++ Lib.itoa j.need
def fjB (js : List Jb) : List UInt8 := if toldB js = true then Lib.join (js.map jobT) [32] else []
theorem jobT_len {j : Jb} (h : tellB j = true) : (jobT j).length ≤ 65 := by
  simp only [tellB, decide_eq_true_eq] at h
  have h1 := Lib.itoa_length_le j.task (by omega) (by omega)
  have h2 := Lib.itoa_length_le j.at_ (by omega) (by omega)
  have h3 := Lib.itoa_length_le j.need (by omega) (by omega)
  simp [jobT]; omega
theorem lens_le (n : Nat) : ∀ (l : List (List UInt8)), (∀ x ∈ l, x.length ≤ n) → Lib.lens l ≤ n * l.length
  | [], _ => by simp [Lib.lens]
  | x :: l, h => by
    have h1 := lens_le n l (fun y hy => h y (List.mem_cons_of_mem _ hy))
    have h2 := h x (List.mem_cons_self ..)
    have h3 : Lib.lens (x :: l) = x.length + Lib.lens l := by simp [Lib.lens]
    rw [h3, List.length_cons, Nat.mul_succ]; omega
theorem fj_len {js : List Jb} (h : ∀ j ∈ js, tellB j = true) (hl : js.length ≤ 60) : (Lib.join (js.map jobT) [32]).length ≤ 140737488355328 := by
  have hL := lens_le 65 (js.map jobT) (fun x hx => by obtain ⟨j, hj, rfl⟩ := List.mem_map.1 hx; exact jobT_len (h j hj))
  rw [List.length_map] at hL
  cases hq : js.map jobT with
  | nil => simp [Lib.join_nil]
  | cons x r =>
    have hr : (x :: r).length = js.length := by rw [← hq]; simp
    rw [hq] at hL
    rw [Lib.join_length]
    simp at hr hL ⊢
    omega
abbrev strs (l : List (List UInt8)) : List Value := l.map sB
theorem infoStr : (Tryd.prog.info? 9).map (fun i => (i.zero, i.size, i.bytes)) = some (some (.string ⟨#[]⟩), 1, 16) := by kernel_rfl
theorem oneS (l : List UInt8) : ∀ u ∈ [sB l], u.oneCell' = true := by intro u hu; simp at hu; subst hu; rfl
theorem str_add (P : Program) (a b : List UInt8) (ha : a.length ≤ 1000) (hb : b.length ≤ 1000) (W : World) : (Op.stringOp .add ⟨a.toArray⟩ ⟨b.toArray⟩).run P W = .ok (.string ⟨(a ++ b).toArray⟩) W := run_string_add_lists W a b (by omega) (by omega)
theorem keep3 {w5 W : World} {g : Nat} {v0 v1 v2 : Value} (hb : Bw w5 W) (hs : w5.cell? ⟨g, 0, none⟩ = some v0 ∧ w5.cell? ⟨g, 1, none⟩ = some v1 ∧ w5.cell? ⟨g, 2, none⟩ = some v2) : W.cell? ⟨g, 0, none⟩ = some v0 ∧ W.cell? ⟨g, 1, none⟩ = some v1 ∧ W.cell? ⟨g, 2, none⟩ = some v2 := ⟨cell_bw hb hs.1, cell_bw hb hs.2.1, cell_bw hb hs.2.2⟩

set_option maxRecDepth 100000 in
set_option maxHeartbeats 3200000 in
theorem fj_implB {w : World} {ao : Option Addr} {c : Nat} {js : List Jb} (hjr : RJ w ao js) (hjn : js.length ≤ 1048577) (hp : Pow10 w) : Calls Tryd.prog 15 #[.slice ao js.length c] w fun e w' => e = .returned (sB (fjB js)) ∧ Bw w w' := by
  obtain ⟨i0, hi0, hz0, hz1, hz2⟩ := info_parts infoStr
  have HJR := Lib.hid hjr
  have HP := Lib.hid hp
  clear hjr hp
  go_enter Tryd.func15, Tryd.ntmps15
  go_wp2_with fail
  refine (told_anyB _ _ _ js hjn HJR.out).mono ?_
  rintro e w1 ⟨rfl, hb1⟩
  cases ht : toldB js with
  | false =>
    have hbad : fjB js = [] := by rw [fjB, ht]; rfl
    have HBAD := Lib.hid hbad
    clear hbad
    go_wp2
    go_ret
    exact ⟨by rw [HBAD.out]; rfl, hb1⟩
  | true =>
    have hall := told_all ht
    have h60 := told_len ht
    have hgo : fjB js = Lib.join (js.map jobT) [32] := by rw [fjB, if_pos ht]
    have HALL := Lib.hid hall
    have HGO := Lib.hid hgo
    clear hall hgo
    go_wp2
    go_loopw [3, 12] (fun u i wr => ∃ k : Nat, k ≤ js.length ∧ i = .int .i64 k ∧ wr.ownsRow w1.heap.size 9 1 u k (strs ((js.map jobT).take k)) ∧ Bw w1 wr) (fun _ i _ => js.length - (intOf i).toNat)
    case atStart => exact ⟨0, Nat.zero_le _, rfl, by simpa using World.ownsRow_made w1 #[] 0 (by simp) (by simp) rfl, bw_alloc _ _⟩
    case round =>
      obtain ⟨k, hk, rfl, hown, hbw⟩ := hrel
      have hbw0 := bw_trans hb1 hbw
      by_cases hlt : k < js.length
      · obtain ⟨⟨x, y, z⟩, b, off, hjk, hao, hbs, c0, c1, c2⟩ := HJR.out.get hbw0 hlt
        subst hao
        dsimp only at c0 c1 c2
        have htl := HALL.out _ (List.mem_of_getElem? hjk)
        have hjt : (js.map jobT).take (k + 1) = (js.map jobT).take k ++ [Lib.itoa x ++ [64] ++ Lib.itoa y ++ [58] ++ Lib.itoa z] := by rw [List.take_add_one, List.getElem?_map, hjk]; rfl
        simp only [tellB, decide_eq_true_eq] at htl
        have hX := Lib.itoa_length_le x (by omega) (by omega)
        have hY := Lib.itoa_length_le y (by omega) (by omega)
        have hZ := Lib.itoa_length_le z (by omega) (by omega)
        have ia := fun W hW => itoa_any x (by omega) W (pow_bw HP.out hW)
        have ib := fun W hW => itoa_any y (by omega) W (pow_bw HP.out hW)
        have ic := fun W hW => itoa_any z (by omega) W (pow_bw HP.out hW)
        obtain ⟨X, eX⟩ : ∃ X, Lib.itoa x = X := ⟨_, rfl⟩
        obtain ⟨Y, eY⟩ : ∃ Y, Lib.itoa y = Y := ⟨_, rfl⟩
        obtain ⟨Z, eZ⟩ : ∃ Z, Lib.itoa z = Z := ⟨_, rfl⟩
        rw [eX] at hX hjt ia
        rw [eY] at hY hjt ib
        rw [eZ] at hZ hjt ic
        have add1 := fun W => str_add Tryd.prog X [64] (by omega) (by simp) W
        have l1 : (X ++ [64]).length ≤ 22 := by simp; omega
        obtain ⟨T1, e1⟩ : ∃ T, X ++ [64] = T := ⟨_, rfl⟩
        rw [e1] at add1 l1 hjt
        have add2 := fun W => str_add Tryd.prog T1 Y (by omega) (by omega) W
        have l2 : (T1 ++ Y).length ≤ 43 := by simp; omega
        obtain ⟨T2, e2⟩ : ∃ T, T1 ++ Y = T := ⟨_, rfl⟩
        rw [e2] at add2 l2 hjt
        have add3 := fun W => str_add Tryd.prog T2 [58] (by omega) (by simp) W
        have l3 : (T2 ++ [58]).length ≤ 44 := by simp; omega
        obtain ⟨T3, e3⟩ : ∃ T, T2 ++ [58] = T := ⟨_, rfl⟩
        rw [e3] at add3 l3 hjt
        have add4 := fun W => str_add Tryd.prog T3 Z (by omega) (by omega) W
        obtain ⟨T4, e4⟩ : ∃ T, T3 ++ Z = T := ⟨_, rfl⟩
        rw [e4] at add4 hjt
        have IA := Lib.hid ia
        have IB := Lib.hid ib
        have IC := Lib.hid ic
        have HJT := Lib.hid hjt
        have HTL := Lib.hid htl
        have HJK := Lib.hid hjk
        clear htl hjk
        clear hX hY hZ l1 l2 l3 e1 e2 e3 e4 eX eY eZ ia ib ic hjt
        obtain ⟨ao', c', hu⟩ := own_form hown
        subst hu
        have hzr := hbw.size
        go_wp2_with fail
        have hBX := heap_alloc_new wr (.cells #[.int .i64 x, .int .i64 y, .int .i64 z] 41)
        have hb01 := bw_alloc wr (.cells #[.int .i64 x, .int .i64 y, .int .i64 z] 41)
        have hzW : (wr.alloc (.cells #[.int .i64 x, .int .i64 y, .int .i64 z] 41)).heap.size = wr.heap.size + 1 := by simp
        generalize hW : wr.alloc (Obj.cells #[.int .i64 x, .int .i64 y, .int .i64 z] 41) = W1 at *
        clear hW
        have HS := Lib.hid (And.intro (blk_cell hBX 0 rfl) (And.intro (blk_cell hBX 1 rfl) (blk_cell hBX 2 rfl)) : W1.cell? ⟨wr.heap.size, 0, none⟩ = some (.int .i64 x) ∧ W1.cell? ⟨wr.heap.size, 1, none⟩ = some (.int .i64 y) ∧ W1.cell? ⟨wr.heap.size, 2, none⟩ = some (.int .i64 z))
        have HBW := Lib.hid hbw
        have HB01 := Lib.hid hb01
        have HOWN := Lib.hid (row_bw hown hb01)
        have HLT := Lib.hid (fun g hg => (hown.lt g hg).2)
        have HBX := Lib.hid hBX
        have HW01 := Lib.hid (bw_trans (bw_trans hb1 hbw) hb01)
        clear hBX hown
        have tok0 : True := trivial
        have tok1 : True := trivial
        go_region_held3 (fun W => W.cell? ⟨wr.heap.size, 0, none⟩ = some (.int .i64 x) ∧ W.cell? ⟨wr.heap.size, 1, none⟩ = some (.int .i64 y) ∧ W.cell? ⟨wr.heap.size, 2, none⟩ = some (.int .i64 z))
          (first | with_reducible exact keep3 (bw_drew _) HS.out | with_reducible exact keep3 HA.out HS.out | with_reducible exact keep3 HB.out HS.out | with_reducible exact keep3 HC.out HS.out | with_reducible exact keep3 (bw_trans HC.out (bw_alloc _ _)) HS.out | exact ⟨blk_cell HB9.out 0 rfl, blk_cell HB9.out 1 rfl, blk_cell HB9.out 2 rfl⟩)
          (first | (go_at_call 32; have _t := tok0; refine (IA.out _ (bw_trans HW01.out (bw_drew _))).mono ?_; rintro e wA ⟨rfl, hbA⟩; have HA : Hid (Bw W1 wA) := Lib.hid (bw_trans (bw_drew _) hbA); clear tok0 hbA) | (go_at_call 32; have _t := tok1; refine (IB.out _ (bw_trans HW01.out HA.out)).mono ?_; rintro e wB ⟨rfl, hbB⟩; have HB : Hid (Bw W1 wB) := Lib.hid (bw_trans HA.out hbB); clear tok1 hbB) | (go_at_call 32; refine (IC.out _ (bw_trans HW01.out HB.out)).mono ?_; rintro e wC ⟨rfl, hbC⟩; have HC : Hid (Bw W1 wC) := Lib.hid (bw_trans HB.out hbC); clear hbC) | (refine step_append_own rfl _ _ 38 rfl w1.heap.size 9 i0 (.string ⟨#[]⟩) 1 16 Tryd.underlying38 hi0 hz0 hz1 hz2 rfl (by decide) _ _ _ rfl (row_bw HOWN.out (bw_trans HC.out (bw_alloc _ _))) ⟨wC.heap.size, 0, none⟩ 1 1 [sB T4] rfl rfl (cell_one_new _ _ _) (oneS _) (by unfold maxLen; omega) (by omega) (by have := HC.out.size; have := hbw.size; simp only [World.size_alloc]; omega) ?_; intro v9 w9 hown9 hgrow9 _; have HB9 := Lib.hid ((hgrow9.block wr.heap.size (by have := HC.out.size; simp only [World.size_alloc]; omega) (fun e => by have := HLT.out _ e.symm; omega)).trans (blk_bw (bw_trans HC.out (bw_alloc wC (.cells #[sB T4] 9))) HBX.out)); have HBW9 : Hid (Bw w1 w9) := Lib.hid (Below.grown (Below.alloc (bw_trans HBW.out (bw_trans HB01.out HC.out)) (by have := HC.out.size; have := hbw.size; omega) _) hgrow9 (by have := HC.out.size; have := hbw.size; simp only [World.size_alloc]; omega) (fun g hg => by have := own_cap0 HOWN.out g hg; omega)); have HOWN9 := Lib.hid hown9; clear hown9 hgrow9))
        have hown2 : w9.ownsRow w1.heap.size 9 1 v9 (k + 1) (strs ((js.map jobT).take (k + 1))) := by rw [HJT.out]; simpa [strs] using HOWN9.out
        go_wp2
        go_roundw
        case rel => exact ⟨k + 1, by omega, by go_num, hown2, HBW9.out⟩
        case measure => simp [intOf]; omega
      · have hge : decide ((k : Int) < (js.length : Int)) = false := decide_eq_false (by omega)
        obtain rfl : k = js.length := by omega
        rcases hown.2 with ⟨rfl, h0⟩ | ⟨g, cap, cur, rfl, _, hb, hn, _, hs, htk⟩
        · have hjs : js = [] := List.length_eq_zero_iff.1 h0
          subst hjs
          go_wp2_with fail
          refine (Tryd.strings_Join_none none 0 ⟨#[32]⟩ _).mono ?_
          rintro e w5 ⟨rfl, rfl⟩
          go_wp2
          go_ret
          exact ⟨by rw [HGO.out]; rfl, hbw0⟩
        · have hxl : ((js.map jobT).map fun l => (⟨l.toArray⟩ : ByteArray)).length = js.length := by simp
          have hxm : ((js.map jobT).map fun l => (⟨l.toArray⟩ : ByteArray)).map (·.data.toList) = js.map jobT := by simp [Function.comp_def]
          have hjl : (Lib.join (js.map jobT) [32]).length ≤ 140737488355328 := fj_len HALL.out h60
          have hJ := Tryd.strings_Join g 0 cap ((js.map jobT).map fun l => ⟨l.toArray⟩) ⟨#[32]⟩ wr (fun j x hx => by
            rw [Nat.zero_add]
            obtain ⟨q, hq, rfl⟩ : ∃ a, js[j]? = some a ∧ (⟨(jobT a).toArray⟩ : ByteArray) = x := by simpa using hx
            have hl : (js.map jobT)[j]? = some (jobT q) := by rw [List.getElem?_map, hq]; rfl
            have hlt := (List.getElem?_eq_some_iff.1 hl).1
            have h1 : (cur.toList.take (js.length * 1))[j]? = some (sB (jobT q)) := by
              rw [htk, List.take_of_length_le (by simp), List.getElem?_map, hl]; rfl
            rw [List.getElem?_take_of_lt (by simp at hlt; omega)] at h1
            exact blk_cell hb j (by rw [← Array.getElem?_toList]; exact h1)) (blk_lt hb) (by rw [hxl]; omega) (by rw [hxl]; exact hn) (by rw [hxm]; exact hjl)
          rw [hxl, hxm] at hJ
          have HXL := Lib.hid hxl
          have HXM := Lib.hid hxm
          have HJL := Lib.hid hjl
          clear hxl hxm hjl
          clear htk hs
          go_wp2_with fail
          refine (hJ).mono ?_
          rintro e w5 ⟨rfl, hb5⟩
          go_wp2
          go_ret
          exact ⟨by rw [HGO.out]; rfl, bw_trans hbw0 hb5⟩
theorem fj_impl {w : World} {v : Value} {js : List Jb} (hj : SJ w v js) (hp : Pow10 w) : Calls Tryd.prog 15 #[v] w fun e w' => e = .returned (sB (fjB js)) ∧ Bw w w' := by
  obtain ⟨⟨ao, c, rfl, hjr, _⟩, hjn⟩ := hj
  exact fj_implB hjr (by omega) hp
end Go.Proofs.YtnmpilmjkgdpgaaDoor
