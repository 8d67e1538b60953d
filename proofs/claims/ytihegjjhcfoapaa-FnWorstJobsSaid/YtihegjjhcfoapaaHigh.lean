/-
  The walks of HighJobs. Lengths at most 2^20.
-/
import Derived.Test.YtihegjjhcfoapaaJv
namespace Go.Proofs.Ytihegjjhcfoapaa
open Go.RowKit

theorem row_bw {w w' : World} {base E size n : Nat} {v : Value} {xs : List Value} (h : w.ownsRow base E size v n xs) (hb : Bw w w') : w'.ownsRow base E size v n xs :=
  h.kept (row := none) ⟨hb.os, hb.tape, hb.output, hb.size, fun k hk _ => hb.block k hk⟩ (by cases v.ownBlock <;> simp)

theorem jv_in {l : List Tk} : ∀ (js done : List Jb), jvFrom l done js = true → ∀ j ∈ js, jobIn l j = true
  | [], _, _ => by simp
  | j :: js, done, h => by
    simp only [jvFrom, Bool.and_eq_true] at h
    intro x hx
    rcases List.mem_cons.1 hx with rfl | hx
    · exact h.1
    · exact jv_in js _ h.2.2.2 x hx
theorem jobs_in {l : List Tk} {js : List Jb} (h : jobsOk l js = true) {k : Nat} {j : Jb} (hk : js[k]? = some j) : jobIn l j = true := by
  simp only [jobsOk, Bool.and_eq_true] at h
  exact jv_in js [] h.2.2 j (List.mem_of_getElem? hk)
theorem jobs_len {l : List Tk} {js : List Jb} (h : jobsOk l js = true) : js.length ≤ 60 := by
  simp only [jobsOk, Bool.and_eq_true, decide_eq_true_eq] at h
  exact h.2.1

/-- The numbers from i on, m of them, of which p speaks. -/
def pickFrom (p : Nat → Bool) : Nat → Nat → List Int
  | 0, _ => []
  | m + 1, i => if p i then (i : Int) :: pickFrom p m (i + 1) else pickFrom p m (i + 1)
theorem pick_len (p : Nat → Bool) : ∀ m i, (pickFrom p m i).length ≤ m
  | 0, _ => by simp [pickFrom]
  | m + 1, i => by
    have := pick_len p m (i + 1)
    simp only [pickFrom]
    split <;> simp <;> omega
theorem pick_step (p : Nat → Bool) {n k : Nat} (h : k < n) : pickFrom p (n - k) k = if p k then (k : Int) :: pickFrom p (n - (k + 1)) (k + 1) else pickFrom p (n - (k + 1)) (k + 1) := by
  obtain ⟨m, hm⟩ : ∃ m, n - k = m + 1 := ⟨n - k - 1, by omega⟩
  rw [hm, show n - (k + 1) = m by omega]; rfl
theorem pick_end (p : Nat → Bool) {n k : Nat} (h : ¬ k < n) : pickFrom p (n - k) k = [] := by
  rw [show n - k = 0 by omega]; rfl

def highP (l : List Tk) (js : List Jb) (i : Nat) : Bool := match js[i]? with
  | some j => match l[j.task.toNat]? with
    | some t => decide (t.low < j.need)
    | none => false
  | none => false
def highs (l : List Tk) (js : List Jb) : List Int := if jobsOk l js then pickFrom (highP l js) js.length 0 else []
theorem highs_len (l : List Tk) (js : List Jb) : (highs l js).length ≤ js.length := by
  unfold highs
  split
  · exact pick_len _ _ _
  · simp

set_option maxHeartbeats 2400000 in
theorem HighJobs_impl (ao bo : Option Addr) (c d : Nat) (w : World) (l : List Tk) (js : List Jb) (hl : l.length ≤ 1048576) (hj : js.length ≤ 1048576) (hd : js.length ≤ d) (hr : RT w ao l) (hs : RJ w bo js) :
    Calls Try.prog 24 #[.slice ao l.length c, .slice bo js.length d] w (Ret w 3 1 (ints (highs l js)) (highs l js).length) := by
  obtain ⟨i0, hi0, hz0, hz1, hz2⟩ := info_parts infoInt
  have HR := Lib.hid hr
  have HS := Lib.hid hs
  clear hr hs
  go_enter Try.func24, Try.ntmps24
  go_wp2_with fail
  refine (JobsValid_impl _ _ _ _ _ l js hl hj hd HR.out HS.out).mono ?_
  obtain ⟨q, HQ⟩ : ∃ q, Hid (jobsOk l js = q) := ⟨_, rfl⟩
  rw [HQ.out]
  rintro e w1 ⟨rfl, hb1⟩
  cases q with
  | false =>
    have hf : highs l js = [] := by rw [highs, HQ.out]; rfl
    have HF := Lib.hid hf
    clear hf
    go_wp2
    go_ret
    exact ⟨none, 0, by rw [HF.out]; rfl, by rw [HF.out]; exact World.ownsRow_nil _ _ _ _, hb1⟩
  | true =>
    have hx0 : highs l js = pickFrom (highP l js) (js.length - 0) 0 := by rw [highs, HQ.out]; rfl
    have hz1' := hb1.size
    have HX0 := Lib.hid hx0
    clear hx0
    go_wp2
    go_loopw [5, 15] (fun u i wr => ∃ (k : Nat) (q : List Int), k ≤ js.length ∧ i = .int .i64 k ∧ wr.ownsRow w.heap.size 3 1 u q.length (ints q) ∧ q.length ≤ k ∧ Hid (highs l js = q ++ pickFrom (highP l js) (js.length - k) k) ∧ Bw w wr) (fun _ i _ => js.length - (intOf i).toNat)
    case atStart => exact ⟨0, [], Nat.zero_le _, rfl, by simpa [ints] using World.ownsRow_made (base := w.heap.size) w1 #[] 0 (by omega) (by simp) rfl, Nat.le_refl _, HX0.out, bw_trans hb1 (bw_alloc _ _)⟩
    case round =>
      obtain ⟨k, q, hk, rfl, hown, hq, hx, hbw⟩ := hrel
      by_cases hlt : k < js.length
      · obtain ⟨⟨x, y, z⟩, b, off, hjk, hbo, hbs, c0, c1, c2⟩ := HS.out.get hbw hlt
        dsimp only at c0 c1 c2
        obtain ⟨_, ht0, htl, _, _, _, t, htk, _⟩ := jobIn_spec (jobs_in HQ.out hjk)
        dsimp only at ht0 htl htk
        obtain ⟨x, rfl⟩ : ∃ n : Nat, x = (n : Int) := ⟨x.toNat, by omega⟩
        have hx' : x < l.length := by omega
        have htk' : l[x]? = some t := by simpa using htk
        obtain ⟨t', b2, off2, htk2, hao2, hbs2, r0, _, _, _, _⟩ := HR.out.get (bw_trans hbw (bw_alloc wr (.cells #[.int .i64 x, .int .i64 y, .int .i64 z] 38))) hx'
        have htt : t' = t := by rw [htk'] at htk2; simpa using htk2.symm
        subst htt
        have hpk : highP l js k = decide (t'.low < z) := by rw [highP, hjk]; dsimp only; rw [htk]
        have hstep := pick_step (highP l js) hlt
        rw [hpk] at hstep
        have HJK := Lib.hid hjk
        have HTK := Lib.hid htk
        have HTK' := Lib.hid htk'
        have HTK2 := Lib.hid htk2
        have HPK := Lib.hid hpk
        have HSTEP := Lib.hid hstep
        clear hjk htk htk' htk2 hpk hstep
        subst hbo; subst hao2
        have hz := hbw.size
        have b0 : wr.heap.size < (wr.alloc (.cells #[.int .i64 x, .int .i64 y, .int .i64 z] 38)).heap.size := by simp
        by_cases he : t'.low < z
        · have hst2 : highs l js = (q ++ [(k : Int)]) ++ pickFrom (highP l js) (js.length - (k + 1)) (k + 1) := by rw [hx.out, HSTEP.out]; simp [he]
          have HST2 := Lib.hid hst2
          clear hst2
          go_wp2_with fail
          go_quiet (fail)
          go_wp2_with (at_builtin; refine wpList_append_own _ rfl _ _ 39 rfl w.heap.size 3 i0 (.int .i64 0) 1 8 Try.underlying39 hi0 hz0 hz1 hz2 rfl (by decide) _ _ _ rfl ((row_bw hown (blw_drewN (bw_alloc _ _) _)).alloc _) ⟨wr.heap.size + 1, 0, none⟩ 1 1 [.int .i64 k] rfl rfl (by have := cell_one_new ((wr.alloc (.cells #[.int .i64 x, .int .i64 y, .int .i64 z] 38)).drewN nq) (.int .i64 k) 3; simpa using this) (oneI _) (by unfold maxLen; omega) (by omega) (by simp; omega) ?_; intro v' w2 hown' hgrow _)
          have hb1 : Bw w w2 := Below.grown (Below.alloc (blw_drewN (bw_trans hbw (bw_alloc _ _)) _) (by simp; omega) _) hgrow (by simp; omega) (fun g hg => by have := own_cap0 hown g hg; omega)
          have hown2 : w2.ownsRow w.heap.size 3 1 v' (q ++ [(k : Int)]).length (ints (q ++ [(k : Int)])) := by simpa [ints] using hown'
          clear hown' hgrow hown
          go_wp2
          go_roundw
          case rel => exact ⟨k + 1, q ++ [(k : Int)], by omega, by go_num, hown2, by simp; omega, HST2.out, hb1⟩
          case measure => simp [intOf]; omega
        · have hd2 : decide (t'.low < z) = false := by simp [he]
          have hst2 : highs l js = q ++ pickFrom (highP l js) (js.length - (k + 1)) (k + 1) := by rw [hx.out, HSTEP.out]; simp [he]
          have HST2 := Lib.hid hst2
          have HE := Lib.hid he
          clear hst2 he
          go_wp2_with fail
          go_quiet (fail)
          go_wp2
          go_roundw
          case rel => exact ⟨k + 1, q, by omega, by go_num, row_bw hown (blw_drewN (bw_alloc _ _) _), by omega, HST2.out, blw_drewN (bw_trans hbw (bw_alloc _ _)) _⟩
          case measure => simp [intOf]; omega
      · have hfin : highs l js = q := by rw [hx.out, pick_end _ hlt]; simp
        have HFIN := Lib.hid hfin
        clear hfin
        obtain ⟨ao', c', hu⟩ := own_form hown
        subst hu
        go_wp2
        go_ret
        exact ⟨ao', c', by rw [HFIN.out]; rfl, by rw [HFIN.out]; exact hown, hbw⟩

set_option maxHeartbeats 2400000 in
theorem HighJobs_spec (ao bo : Option Addr) (c d : Nat) (w : World) (l : List Tk) (js : List Jb) (hl : l.length ≤ 1048576) (hj : js.length ≤ 1048576) (hr : RT w ao l) (hs : RJ w bo js) :
    Calls Try.prog 38 #[.slice ao l.length c, .slice bo js.length d] w (Ret w 3 1 (ints (highs l js)) (highs l js).length) := by
  obtain ⟨i0, hi0, hz0, hz1, hz2⟩ := info_parts infoInt
  have HR := Lib.hid hr
  have HS := Lib.hid hs
  clear hr hs
  go_enter Try.func38, Try.ntmps38
  go_wp2
  go_loopw [5, 6] (fun u i wr => ∃ (k : Nat) (q : List Int), k ≤ js.length ∧ i = .int .i64 k ∧ wr.ownsRow w.heap.size 3 1 u q.length (ints q) ∧ q.length ≤ k ∧ Hid (highs l js = q ++ (if jobsOk l js then pickFrom (highP l js) (js.length - k) k else [])) ∧ Bw w wr) (fun _ i _ => js.length - (intOf i).toNat)
  case atStart => exact ⟨0, [], Nat.zero_le _, rfl, by simpa [ints] using World.ownsRow_made (base := w.heap.size) w #[] 0 (by omega) (by simp) rfl, Nat.le_refl _, rfl, bw_alloc _ _⟩
  case round =>
    obtain ⟨k, q, hk, rfl, hown, hq, hx, hbw⟩ := hrel
    by_cases hlt : k < js.length
    · go_wp2_with fail
      refine (JobsValid_spec _ _ _ _ _ l js hl hj (HR.out.bw hbw) (HS.out.bw hbw)).mono ?_
      obtain ⟨g, HQ⟩ : ∃ g, Hid (jobsOk l js = g) := ⟨_, rfl⟩
      rw [HQ.out]
      rintro e w1 ⟨rfl, hb1⟩
      have hw1 := bw_trans hbw hb1
      have hown1 := row_bw hown hb1
      clear hown
      cases g with
      | false =>
        have hfin : highs l js = q := by rw [hx.out, HQ.out]; simp
        have HFIN := Lib.hid hfin
        clear hfin
        obtain ⟨ao', c', hu⟩ := own_form hown1
        subst hu
        go_wp2
        go_ret
        exact ⟨ao', c', by rw [HFIN.out]; rfl, by rw [HFIN.out]; exact hown1, hw1⟩
      | true =>
        obtain ⟨⟨x, y, z⟩, b, off, hjk, hbo, hbs, c0, c1, c2⟩ := HS.out.get hw1 hlt
        dsimp only at c0 c1 c2
        obtain ⟨_, ht0, htl, _, _, _, t, htk, _⟩ := jobIn_spec (jobs_in HQ.out hjk)
        dsimp only at ht0 htl htk
        obtain ⟨x, rfl⟩ : ∃ n : Nat, x = (n : Int) := ⟨x.toNat, by omega⟩
        have hx' : x < l.length := by omega
        have htk' : l[x]? = some t := by simpa using htk
        obtain ⟨t', b2, off2, htk2, hao2, hbs2, r0, _, _, _, _⟩ := HR.out.get hw1 hx'
        have htt : t' = t := by rw [htk'] at htk2; simpa using htk2.symm
        subst htt
        have hpk : highP l js k = decide (t'.low < z) := by rw [highP, hjk]; dsimp only; rw [htk]
        have hstep := pick_step (highP l js) hlt
        rw [hpk] at hstep
        have HJK := Lib.hid hjk
        have HTK := Lib.hid htk
        have HTK' := Lib.hid htk'
        have HTK2 := Lib.hid htk2
        have HPK := Lib.hid hpk
        have HSTEP := Lib.hid hstep
        clear hjk htk htk' htk2 hpk hstep
        subst hbo; subst hao2
        have hz := hw1.size
        by_cases he : t'.low < z
        · have hst2 : highs l js = (q ++ [(k : Int)]) ++ (if jobsOk l js then pickFrom (highP l js) (js.length - (k + 1)) (k + 1) else []) := by rw [hx.out, HQ.out, if_pos rfl, if_pos rfl, HSTEP.out]; simp [he]
          have HST2 := Lib.hid hst2
          clear hst2
          go_wp2_with fail
          go_quiet (fail)
          go_wp2_with (at_builtin; refine wpList_append_own _ rfl _ _ 39 rfl w.heap.size 3 i0 (.int .i64 0) 1 8 Try.underlying39 hi0 hz0 hz1 hz2 rfl (by decide) _ _ _ rfl ((row_bw hown1 (bw_drewN _ _)).alloc _) ⟨w1.heap.size, 0, none⟩ 1 1 [.int .i64 k] rfl rfl (cell_one_new _ _ _) (oneI _) (by unfold maxLen; omega) (by omega) (by simp; omega) ?_; intro v' w2 hown' hgrow _)
          have hb2 : Bw w w2 := Below.grown (Below.alloc (blw_drewN hw1 _) hz _) hgrow (by simp; omega) (fun g hg => by have := own_cap0 hown1 g hg; omega)
          have hown2 : w2.ownsRow w.heap.size 3 1 v' (q ++ [(k : Int)]).length (ints (q ++ [(k : Int)])) := by simpa [ints] using hown'
          clear hown' hgrow hown1
          go_wp2
          go_roundw
          case rel => exact ⟨k + 1, q ++ [(k : Int)], by omega, by go_num, hown2, by simp; omega, HST2.out, hb2⟩
          case measure => simp [intOf]; omega
        · have hd2 : decide (t'.low < z) = false := by simp [he]
          have hst2 : highs l js = q ++ (if jobsOk l js then pickFrom (highP l js) (js.length - (k + 1)) (k + 1) else []) := by rw [hx.out, HQ.out, if_pos rfl, if_pos rfl, HSTEP.out]; simp [he]
          have HST2 := Lib.hid hst2
          have HE := Lib.hid he
          clear hst2 he
          go_wp2_with fail
          go_quiet (fail)
          go_wp2
          go_roundw
          case rel => exact ⟨k + 1, q, by omega, by go_num, row_bw hown1 (bw_drewN _ _), by omega, HST2.out, blw_drewN hw1 _⟩
          case measure => simp [intOf]; omega
    · have hfin : highs l js = q := by rw [hx.out, pick_end _ hlt]; simp
      have HFIN := Lib.hid hfin
      clear hfin
      obtain ⟨ao', c', hu⟩ := own_form hown
      subst hu
      go_wp2
      go_ret
      exact ⟨ao', c', by rw [HFIN.out]; rfl, by rw [HFIN.out]; exact hown, hbw⟩

theorem highs_impl {w : World} {v u : Value} {l : List Tk} {js : List Jb} (hl : ST w v l) (hj : SJ w u js) : Calls Try.prog 24 #[v, u] w (RS w 3 (ints (highs l js)) (highs l js).length) := by
  obtain ⟨⟨ao, c, rfl, hr, _⟩, hn⟩ := hl
  obtain ⟨⟨bo, d, rfl, hs, hd, _⟩, hm⟩ := hj
  first
    | exact (HighJobs_impl ao bo c d w l js hn hm hd hr hs).mono fun _ _ h => h.rs
    | exact (HighJobs_impl ao bo c d w l js hn hm hr hs).mono fun _ _ h => h.rs
theorem highs_spec {w : World} {v u : Value} {l : List Tk} {js : List Jb} (hl : ST w v l) (hj : SJ w u js) : Calls Try.prog 38 #[v, u] w (RS w 3 (ints (highs l js)) (highs l js).length) := by
  obtain ⟨⟨ao, c, rfl, hr, _⟩, hn⟩ := hl
  obtain ⟨⟨bo, d, rfl, hs, hd, _⟩, hm⟩ := hj
  first
    | exact (HighJobs_spec ao bo c d w l js hn hm hd hr hs).mono fun _ _ h => h.rs
    | exact (HighJobs_spec ao bo c d w l js hn hm hr hs).mono fun _ _ h => h.rs
end Go.Proofs.Ytihegjjhcfoapaa
