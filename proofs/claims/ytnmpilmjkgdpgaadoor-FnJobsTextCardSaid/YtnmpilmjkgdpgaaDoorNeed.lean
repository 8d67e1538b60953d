/-
  The walks of told, l6Text and NeedOf; of the reference's DueAt; of DemandOf.
-/
import Derived.Test.YtnmpilmjkgdpgaaDoorGB


namespace Go.Proofs.YtnmpilmjkgdpgaaDoor
open Go.RowKit

def tellB (j : Jb) : Bool := decide (0 ≤ j.task ∧ j.task ≤ 4 ∧ 0 ≤ j.at_ ∧ j.at_ ≤ 200 ∧ 1 ≤ j.need ∧ j.need ≤ 20)
def toldB (js : List Jb) : Bool := js.all tellB && decide (js.length ≤ 60)
def sumN (t : Int) : List Jb → Int
  | [] => 0
  | j :: l => (if j.task = t then j.need else 0) + sumN t l
def needOf (js : List Jb) (t : Int) : Int := if toldB js = true then sumN t js else 0
theorem sumN_append (t : Int) (a b : List Jb) : sumN t (a ++ b) = sumN t a + sumN t b := by
  induction a with
  | nil => simp [sumN]
  | cons x a ih => simp only [List.cons_append, sumN, ih]; omega
theorem sumN_bd (t : Int) (l : List Jb) (h : ∀ j ∈ l, tellB j = true) : 0 ≤ sumN t l ∧ sumN t l ≤ 20 * l.length := by
  induction l with
  | nil => simp [sumN]
  | cons x l ih =>
    have hx := h x (by simp)
    simp only [tellB, decide_eq_true_eq] at hx
    have := ih (fun j hj => h j (by simp [hj]))
    simp only [sumN, List.length_cons]
    split <;> omega
theorem told_all {js : List Jb} (h : toldB js = true) : ∀ j ∈ js, tellB j = true := by simp [toldB] at h; simpa using h.1
theorem told_len {js : List Jb} (h : toldB js = true) : js.length ≤ 60 := by simp [toldB] at h; exact h.2
theorem needOf_bd (js : List Jb) (t : Int) : 0 ≤ needOf js t ∧ needOf js t ≤ 1200 := by
  unfold needOf
  split
  · rename_i h
    have := sumN_bd t js (told_all h)
    have := told_len h
    omega
  · omega
theorem sumN_snoc {t : Int} {js : List Jb} {k : Nat} {x y z : Int} (h : js[k]? = some ⟨x, y, z⟩) : sumN t (js.take (k + 1)) = sumN t (js.take k) + if x = t then z else 0 := by
  rw [take_snoc h, sumN_append]; simp [sumN]
theorem told_no {js : List Jb} {k : Nat} {j : Jb} (h : js[k]? = some j) (hj : tellB j = false) : toldB js = false := by
  cases hq : toldB js with
  | false => rfl
  | true => rw [told_all hq j (List.mem_of_getElem? h)] at hj; cases hj

set_option maxHeartbeats 1600000 in
theorem told_anyB (bo : Option Addr) (d : Nat) (w : World) (js : List Jb) (hj : js.length ≤ 1048577) (hs : RJ w bo js) :
    Calls Tryd.prog 31 #[.slice bo js.length d] w fun r w' => r = .returned (.bool (toldB js)) ∧ Bw w w' := by
  have HS := Lib.hid hs
  clear hs
  go_enter Tryd.func31, Tryd.ntmps31
  go_wp2
  go_loopw [7] (fun i wr => ∃ k : Nat, k ≤ js.length ∧ i = .int .i64 k ∧ Hid (js.all tellB = (js.drop k).all tellB) ∧ Bw w wr) (fun i _ => js.length - (intOf i).toNat)
  case atStart => exact ⟨0, Nat.zero_le _, rfl, rfl, Bw.refl _⟩
  case round =>
    obtain ⟨k, hk, rfl, hx, hbw⟩ := hrel
    by_cases hlt : k < js.length
    · obtain ⟨⟨x, y, z⟩, b, off, hjk, hbo, hbs, c0, c1, c2⟩ := HS.out.get hbw hlt
      dsimp only at c0 c1 c2
      subst hbo
      have hst : (js.drop k).all tellB = (tellB ⟨x, y, z⟩ && (js.drop (k + 1)).all tellB) := by rw [drop_cons hjk]; rfl
      have HJK := Lib.hid hjk
      have HST := Lib.hid hst
      clear hjk hst
      by_cases hb : 0 ≤ x ∧ x ≤ 4 ∧ 0 ≤ y ∧ y ≤ 200 ∧ 1 ≤ z ∧ z ≤ 20
      · have HB : Hid (tellB ⟨x, y, z⟩ = true) := decide_eq_true hb
        obtain ⟨h0, h1, h2, h3, h4, h5⟩ := hb
        have d0 : decide (x < 0) = false := decide_eq_false (by omega)
        have d1 : decide (4 < x) = false := decide_eq_false (by omega)
        have d2 : decide (y < 0) = false := decide_eq_false (by omega)
        have d3 : decide (200 < y) = false := decide_eq_false (by omega)
        have d4 : decide (z < 1) = false := decide_eq_false (by omega)
        have d5 : decide (20 < z) = false := decide_eq_false (by omega)
        go_wp2
        go_roundw
        case rel => exact ⟨k + 1, by omega, by go_num, by show _ = _; rw [hx.out, HST.out, HB.out, Bool.true_and], bw_trans hbw (bw_alloc _ _)⟩
        case measure => simp [intOf]; omega
      · have HB : Hid (tellB ⟨x, y, z⟩ = false) := decide_eq_false hb
        have HF := Lib.hid (told_no HJK.out HB.out)
        have HBB := Lib.hid hb
        clear hb
        go_wp2
        all_goals first
          | (go_ret; exact ⟨ret_b (by rw [HF.out]), bw_trans hbw (bw_alloc _ _)⟩)
          | (exfalso; have := HBB.out; omega)
    · have HD : Hid (decide ((js.length : Int) ≤ 60) = toldB js) := by
        show _ = _
        rw [toldB, hx.out, drop_end hlt]
        simp only [List.all_nil, Bool.true_and]
        rw [decide_eq_decide]; omega
      go_wp2
      all_goals
        go_ret
        exact ⟨ret_b HD.out, hbw⟩
theorem told_any (bo : Option Addr) (d : Nat) (w : World) (js : List Jb) (hj : js.length ≤ 1048576) (hs : RJ w bo js) :
    Calls Tryd.prog 31 #[.slice bo js.length d] w fun r w' => r = .returned (.bool (toldB js)) ∧ Bw w w' := told_anyB bo d w js (by omega) hs

set_option maxHeartbeats 1600000 in
theorem l6Text_any (x y z : Int) (w : World) :
    Calls Tryd.prog 35 #[.agg #[.int .i64 x, .int .i64 y, .int .i64 z]] w fun r w' => r = .returned (.bool (tellB ⟨x, y, z⟩)) ∧ Bw w w' := by
  by_cases hb : 0 ≤ x ∧ x ≤ 4 ∧ 0 ≤ y ∧ y ≤ 200 ∧ 1 ≤ z ∧ z ≤ 20
  · have HB : Hid (tellB ⟨x, y, z⟩ = true) := decide_eq_true hb
    obtain ⟨h0, h1, h2, h3, h4, h5⟩ := hb
    have h1' : x < 5 := by omega
    go_enter Tryd.func35, Tryd.ntmps35
    go_wp2
    go_ret
    exact ⟨ret_b HB.out.symm, bw_alloc _ _⟩
  · have HB : Hid (tellB ⟨x, y, z⟩ = false) := decide_eq_false hb
    have HBB := Lib.hid hb
    clear hb
    go_enter Tryd.func35, Tryd.ntmps35
    go_wp2
    · go_ret
      exact ⟨ret_b (by rw [HB.out]; exact decide_eq_false (by have := HBB.out; omega)), bw_alloc _ _⟩
    all_goals
      go_ret
      exact ⟨ret_b (by rw [HB.out]), bw_alloc _ _⟩

end Go.Proofs.YtnmpilmjkgdpgaaDoor
