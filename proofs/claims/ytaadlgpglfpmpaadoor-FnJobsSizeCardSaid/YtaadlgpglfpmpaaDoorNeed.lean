/-
  The walks of told, l6Text and NeedOf; of the reference's DueAt; of DemandOf.
-/
import Derived.Test.YtaadlgpglfpmpaaDoorGB


namespace Go.Proofs.YtaadlgpglfpmpaaDoor
open Go.RowKit

def tellB (j : Jb) : Bool := decide (0 ≤ j.task ∧ j.task ≤ 4 ∧ 0 ≤ j.at_ ∧ j.at_ ≤ 200 ∧ 1 ≤ j.need ∧ j.need ≤ 20)
def toldB (js : List Jb) : Bool := js.all tellB && decide (js.length ≤ 60)
def sumN (t : Int) : List Jb → Int
  | [] => 0
  | j :: l => (if j.task = t then j.need else 0) + sumN t l
def needOf (js : List Jb) (t : Int) : Int := if toldB js = true then sumN t js else 0
theorem sumN_append (t : Int) (a b : List Jb) : sumN t (a ++ b) = sumN t a + sumN t b := by
  induction a with
  | nil => simp [sumN]
  | cons x a ih => simp only [List.cons_append, sumN, ih]; omega
theorem sumN_bd (t : Int) (l : List Jb) (h : ∀ j ∈ l, tellB j = true) : 0 ≤ sumN t l ∧ sumN t l ≤ 20 * l.length := by
  induction l with
  | nil => simp [sumN]
  | cons x l ih =>
    have hx := h x (by simp)
    simp only [tellB, decide_eq_true_eq] at hx
    have := ih (fun j hj => h j (by simp [hj]))
    simp only [sumN, List.length_cons]
    split <;> omega
theorem told_all {js : List Jb} (h : toldB js = true) : ∀ j ∈ js, tellB j = true := by simp [toldB] at h; simpa using h.1
theorem told_len {js : List Jb} (h : toldB js = true) : js.length ≤ 60 := by simp [toldB] at h; exact h.2
theorem needOf_bd (js : List Jb) (t : Int) : 0 ≤ needOf js t ∧ needOf js t ≤ 1200 := by
  unfold needOf
  split
  · rename_i h
    have := sumN_bd t js (told_all h)
    have := told_len h
    omega
  · omega
theorem sumN_snoc {t : Int} {js : List Jb} {k : Nat} {x y z : Int} (h : js[k]? = some ⟨x, y, z⟩) : sumN t (js.take (k + 1)) = sumN t (js.take k) + if x = t then z else 0 := by
  rw [take_snoc h, sumN_append]; simp [sumN]
theorem told_no {js : List Jb} {k : Nat} {j : Jb} (h : js[k]? = some j) (hj : tellB j = false) : toldB js = false := by
  cases hq : toldB js with
  | false => rfl
  | true => rw [told_all hq j (List.mem_of_getElem? h)] at hj; cases hj

set_option maxHeartbeats 1600000 in
theorem told_any (bo : Option Addr) (d : Nat) (w : World) (js : List Jb) (hj : js.length ≤ 1048576) (hs : RJ w bo js) :
    Calls Tryd.prog 60 #[.slice bo js.length d] w fun r w' => r = .returned (.bool (toldB js)) ∧ Bw w w' := by
  have HS := Lib.hid hs
  clear hs
  go_enter Tryd.func60, Tryd.ntmps60
  go_wp2
  go_loopw [7] (fun i wr => ∃ k : Nat, k ≤ js.length ∧ i = .int .i64 k ∧ Hid (js.all tellB = (js.drop k).all tellB) ∧ Bw w wr) (fun i _ => js.length - (intOf i).toNat)
  case atStart => exact ⟨0, Nat.zero_le _, rfl, rfl, Bw.refl _⟩
  case round =>
    obtain ⟨k, hk, rfl, hx, hbw⟩ := hrel
    by_cases hlt : k < js.length
    · obtain ⟨⟨x, y, z⟩, b, off, hjk, hbo, hbs, c0, c1, c2⟩ := HS.out.get hbw hlt
      dsimp only at c0 c1 c2
      subst hbo
      have hst : (js.drop k).all tellB = (tellB ⟨x, y, z⟩ && (js.drop (k + 1)).all tellB) := by rw [drop_cons hjk]; rfl
      have HJK := Lib.hid hjk
      have HST := Lib.hid hst
      clear hjk hst
      by_cases hb : 0 ≤ x ∧ x ≤ 4 ∧ 0 ≤ y ∧ y ≤ 200 ∧ 1 ≤ z ∧ z ≤ 20
      · have HB : Hid (tellB ⟨x, y, z⟩ = true) := decide_eq_true hb
        obtain ⟨h0, h1, h2, h3, h4, h5⟩ := hb
        have d0 : decide (x < 0) = false := decide_eq_false (by omega)
        have d1 : decide (4 < x) = false := decide_eq_false (by omega)
        have d2 : decide (y < 0) = false := decide_eq_false (by omega)
        have d3 : decide (200 < y) = false := decide_eq_false (by omega)
        have d4 : decide (z < 1) = false := decide_eq_false (by omega)
        have d5 : decide (20 < z) = false := decide_eq_false (by omega)
        go_wp2
        go_roundw
        case rel => exact ⟨k + 1, by omega, by go_num, by show _ = _; rw [hx.out, HST.out, HB.out, Bool.true_and], bw_trans hbw (bw_alloc _ _)⟩
        case measure => simp [intOf]; omega
      · have HB : Hid (tellB ⟨x, y, z⟩ = false) := decide_eq_false hb
        have HF := Lib.hid (told_no HJK.out HB.out)
        have HBB := Lib.hid hb
        clear hb
        go_wp2
        all_goals first
          | (go_ret; exact ⟨ret_b (by rw [HF.out]), bw_trans hbw (bw_alloc _ _)⟩)
          | (exfalso; have := HBB.out; omega)
    · have HD : Hid (decide ((js.length : Int) ≤ 60) = toldB js) := by
        show _ = _
        rw [toldB, hx.out, drop_end hlt]
        simp only [List.all_nil, Bool.true_and]
        rw [decide_eq_decide]; omega
      go_wp2
      all_goals
        go_ret
        exact ⟨ret_b HD.out, hbw⟩

set_option maxHeartbeats 1600000 in
theorem l6Text_any (x y z : Int) (w : World) :
    Calls Tryd.prog 57 #[.agg #[.int .i64 x, .int .i64 y, .int .i64 z]] w fun r w' => r = .returned (.bool (tellB ⟨x, y, z⟩)) ∧ Bw w w' := by
  by_cases hb : 0 ≤ x ∧ x ≤ 4 ∧ 0 ≤ y ∧ y ≤ 200 ∧ 1 ≤ z ∧ z ≤ 20
  · have HB : Hid (tellB ⟨x, y, z⟩ = true) := decide_eq_true hb
    obtain ⟨h0, h1, h2, h3, h4, h5⟩ := hb
    have h1' : x < 5 := by omega
    go_enter Tryd.func57, Tryd.ntmps57
    go_wp2
    go_ret
    exact ⟨ret_b HB.out.symm, bw_alloc _ _⟩
  · have HB : Hid (tellB ⟨x, y, z⟩ = false) := decide_eq_false hb
    have HBB := Lib.hid hb
    clear hb
    go_enter Tryd.func57, Tryd.ntmps57
    go_wp2
    · go_ret
      exact ⟨ret_b (by rw [HB.out]; exact decide_eq_false (by have := HBB.out; omega)), bw_alloc _ _⟩
    all_goals
      go_ret
      exact ⟨ret_b (by rw [HB.out]), bw_alloc _ _⟩

set_option maxHeartbeats 1600000 in
theorem NeedOf_impl (bo : Option Addr) (d : Nat) (w : World) (js : List Jb) (t : Int) (hj : js.length ≤ 1048576) (hs : RJ w bo js) :
    Calls Tryd.prog 36 #[.slice bo js.length d, .int .i64 t] w fun r w' => r = .returned (.int .i64 (needOf js t)) ∧ Bw w w' := by
  have HS := Lib.hid hs
  clear hs
  go_enter Tryd.func36, Tryd.ntmps36
  go_wp2_with fail
  refine (told_any _ _ _ js hj HS.out).mono ?_
  obtain ⟨g, HG⟩ : ∃ g, Hid (toldB js = g) := ⟨_, rfl⟩
  rw [HG.out]
  rintro e w1 ⟨rfl, hb1⟩
  cases g with
  | false =>
    have HF : Hid (needOf js t = 0) := by show _ = _; rw [needOf, HG.out]; rfl
    go_wp2
    go_ret
    exact ⟨ret_i HF.out.symm, hb1⟩
  | true =>
    have HF : Hid (needOf js t = sumN t js) := by show _ = _; rw [needOf, if_pos HG.out]
    have h60 := told_len HG.out
    go_wp2
    go_loopw [5, 13] (fun m i wr => ∃ (k : Nat) (s : Int), k ≤ js.length ∧ i = .int .i64 k ∧ m = .int .i64 s ∧ Hid (s = sumN t (js.take k)) ∧ 0 ≤ s ∧ s ≤ 20 * k ∧ Bw w wr) (fun _ i _ => js.length - (intOf i).toNat)
    case atStart => exact ⟨0, 0, Nat.zero_le _, rfl, rfl, by simp [Hid, sumN], by omega, by omega, hb1⟩
    case round =>
      obtain ⟨k, s, hk, rfl, rfl, hx, hs0, hs1, hbw⟩ := hrel
      by_cases hlt : k < js.length
      · obtain ⟨⟨x, y, z⟩, b, off, hjk, hbo, hbs, c0, c1, c2⟩ := HS.out.get hbw hlt
        dsimp only at c0 c1 c2
        subst hbo
        have htl := told_all HG.out _ (List.mem_of_getElem? hjk)
        simp only [tellB, decide_eq_true_eq] at htl
        obtain ⟨_, _, _, _, z0, z1⟩ := htl
        have hst := sumN_snoc (t := t) hjk
        have HJK := Lib.hid hjk
        have HST := Lib.hid hst
        clear hjk hst
        by_cases he : x = t
        · have he' : (x == t) = true := by simp [he]
          have HE := Lib.hid he
          clear he
          go_wp2
          go_roundw
          case rel => exact ⟨k + 1, s + z, by omega, by go_num, rfl, by show _ = _; rw [HST.out, if_pos HE.out, hx.out], by omega, by omega, bw_trans hbw (bw_alloc _ _)⟩
          case measure => simp [intOf]; omega
        · have he' : (x == t) = false := by simp [he]
          have HE := Lib.hid he
          clear he
          go_wp2
          go_roundw
          case rel => exact ⟨k + 1, s, by omega, by go_num, rfl, by show _ = _; rw [HST.out, if_neg HE.out, hx.out, Int.add_zero], by omega, by omega, bw_trans hbw (bw_alloc _ _)⟩
          case measure => simp [intOf]; omega
      · have HD : Hid (s = needOf js t) := by show _ = _; rw [HF.out, hx.out, take_end hlt]
        go_wp2
        go_ret
        exact ⟨ret_i HD.out, hbw⟩

set_option maxHeartbeats 1600000 in
theorem NeedOf_spec (bo : Option Addr) (d : Nat) (w : World) (js : List Jb) (t : Int) (hj : js.length ≤ 1048576) (hs : RJ w bo js) :
    Calls Tryd.prog 37 #[.slice bo js.length d, .int .i64 t] w fun r w' => r = .returned (.int .i64 (needOf js t)) ∧ Bw w w' := by
  have HS := Lib.hid hs
  clear hs
  by_cases h60 : js.length ≤ 60
  · have hd : decide (60 < js.length) = false := decide_eq_false (by omega)
    go_enter Tryd.func37, Tryd.ntmps37
    go_wp2
    go_loopw [5, 6] (fun m i wr => ∃ (k : Nat) (s : Int), k ≤ js.length ∧ i = .int .i64 k ∧ m = .int .i64 s ∧ Hid (∀ j ∈ js.take k, tellB j = true) ∧ Hid (s = sumN t (js.take k)) ∧ 0 ≤ s ∧ s ≤ 20 * k ∧ Bw w wr) (fun _ i _ => js.length - (intOf i).toNat)
    case atStart => exact ⟨0, 0, Nat.zero_le _, rfl, rfl, by intro j hj; simp at hj, by simp [Hid, sumN], by omega, by omega, Bw.refl _⟩
    case round =>
      obtain ⟨k, s, hk, rfl, rfl, hall, hx, hs0, hs1, hbw⟩ := hrel
      by_cases hlt : k < js.length
      · obtain ⟨⟨x, y, z⟩, b, off, hjk, hbo, hbs, c0, c1, c2⟩ := HS.out.get hbw hlt
        dsimp only at c0 c1 c2
        subst hbo
        go_wp2_with fail
        refine (l6Text_any _ _ _ _).mono ?_
        obtain ⟨g, HG⟩ : ∃ g, Hid (tellB ⟨x, y, z⟩ = g) := ⟨_, rfl⟩
        rw [HG.out]
        rintro e w1 ⟨rfl, hb1⟩
        have hw1 := bw_trans hbw hb1
        cases g with
        | false =>
          have HF : Hid (needOf js t = 0) := by show _ = _; rw [needOf, told_no hjk HG.out]; rfl
          have HJK := Lib.hid hjk
          clear hjk
          go_wp2
          go_ret
          exact ⟨ret_i HF.out.symm, hw1⟩
        | true =>
          have htl := HG.out
          simp only [tellB, decide_eq_true_eq] at htl
          obtain ⟨_, _, _, _, z0, z1⟩ := htl
          have d0 := cell_bw hb1 c0
          have d2 := cell_bw hb1 c2
          have hst := sumN_snoc (t := t) hjk
          have HA2 : Hid (∀ j ∈ js.take (k + 1), tellB j = true) := by
            intro j hj
            rw [take_snoc hjk] at hj
            rcases List.mem_append.1 hj with hj | hj
            · exact hall.out j hj
            · simp at hj; subst hj; exact HG.out
          have HJK := Lib.hid hjk
          have HST := Lib.hid hst
          clear hjk hst
          clear c0 c1 c2
          have hb1r := Nat.lt_of_lt_of_le hbs hb1.size
          by_cases he : x = t
          · have he' : (x == t) = true := by simp [he]
            have HE := Lib.hid he
            clear he
            go_wp2
            go_roundw
            case rel => exact ⟨k + 1, s + z, by omega, by go_num, rfl, HA2.out, by show _ = _; rw [HST.out, if_pos HE.out, hx.out], by omega, by omega, hw1⟩
            case measure => simp [intOf]; omega
          · have he' : (x == t) = false := by simp [he]
            have HE := Lib.hid he
            clear he
            go_wp2
            go_roundw
            case rel => exact ⟨k + 1, s, by omega, by go_num, rfl, HA2.out, by show _ = _; rw [HST.out, if_neg HE.out, hx.out, Int.add_zero], by omega, by omega, hw1⟩
            case measure => simp [intOf]; omega
      · have HD : Hid (s = needOf js t) := by
          have ht : toldB js = true := by
            have := hall.out
            rw [take_end hlt] at this
            simp only [toldB, Bool.and_eq_true, List.all_eq_true, decide_eq_true_eq]
            exact ⟨this, h60⟩
          show _ = _; rw [needOf, if_pos ht, hx.out, take_end hlt]
        go_wp2
        go_ret
        exact ⟨ret_i HD.out, hbw⟩
  · have HF : Hid (needOf js t = 0) := by
      show _ = _
      rw [needOf, if_neg]
      intro h; exact h60 (told_len h)
    have hd : 60 < js.length := by omega
    go_enter Tryd.func37, Tryd.ntmps37
    go_wp2
    go_ret
    exact ⟨ret_i HF.out.symm, Bw.refl _⟩

end Go.Proofs.YtaadlgpglfpmpaaDoor
