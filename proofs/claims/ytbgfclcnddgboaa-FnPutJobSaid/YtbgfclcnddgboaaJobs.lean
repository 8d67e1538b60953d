/-
  The walk of impl.JobsValid: it returns what its mirror says and writes nothing that was there.
-/
import Derived.Test.YtbgfclcnddgboaaJob
namespace Go.Proofs.Ytbgfclcnddgboaa
open Go.RowKit

/-- Two jobs of one task that come too close. -/
def clash (ev : Int) (j k : Jb) : Bool := decide (k.task = j.task ∧ j.at_ - k.at_ < ev)
/-- p is not ahead of j. -/
def ordBad (p j : Jb) : Bool := decide (j.at_ < p.at_ ∨ (p.at_ = j.at_ ∧ j.task ≤ p.task))
def evAt (l : List Tk) (j : Jb) : Int := match l[j.task.toNat]? with | some t => t.every | none => 0
/-- The last of the jobs done is not ahead of j. -/
def lastBad (done : List Jb) (j : Jb) : Bool := match done.getLast? with | some p => ordBad p j | none => false
def jvFrom (l : List Tk) : List Jb → List Jb → Bool
  | _, [] => true
  | done, j :: rest => jobIn l j && ((done.all fun k => !clash (evAt l j) j k) && (!lastBad done j && jvFrom l (done ++ [j]) rest))
def jobsOk (l : List Tk) (js : List Jb) : Bool := setOk l && (decide (js.length ≤ 60) && jvFrom l [] js)

theorem jobIn_spec {l : List Tk} {j : Jb} (h : jobIn l j = true) : setOk l = true ∧ 0 ≤ j.task ∧ j.task < l.length ∧ 0 ≤ j.at_ ∧ j.at_ ≤ 200 ∧ 1 ≤ j.need ∧ ∃ t, l[j.task.toNat]? = some t ∧ j.need ≤ t.high := by
  unfold jobIn l6In at h
  simp only [Bool.and_eq_true] at h
  obtain ⟨h1, h2⟩ := h
  split at h2
  · rename_i t ht
    simp only [decide_eq_true_eq] at h2
    exact ⟨h1, h2.1, h2.2.1, h2.2.2.1, h2.2.2.2.1, h2.2.2.2.2.1, t, ht, h2.2.2.2.2.2⟩
  · cases h2

set_option maxRecDepth 100000 in
set_option maxHeartbeats 4000000 in
theorem JobsValid_impl (ao bo : Option Addr) (c d : Nat) (w : World) (l : List Tk) (js : List Jb) (hl : l.length ≤ 1048576) (hj : js.length ≤ 1048576) (hd : js.length ≤ d) (hr : RT w ao l) (hs : RJ w bo js) :
    Calls Try.prog 19 #[.slice ao l.length c, .slice bo js.length d] w fun r w' => r = .returned (.bool (jobsOk l js)) ∧ Bw w w' := by
  have HR := Lib.hid hr
  have HS := Lib.hid hs
  clear hr hs
  go_enter Try.func19, Try.ntmps19
  go_wp2_with fail
  refine (impl.SetValid_walk _ _ _ l hl HR.out).mono ?_
  obtain ⟨q, HQ⟩ : ∃ q, Hid (setOk l = q) := ⟨_, rfl⟩
  rw [HQ.out]
  rintro e w1 ⟨rfl, hb1⟩
  cases q with
  | false =>
    go_wp2
    go_ret
    exact ⟨ret_b (by rw [jobsOk, HQ.out, Bool.false_and]), hb1⟩
  | true =>
    by_cases h60 : js.length ≤ 60
    · have hx0 : jobsOk l js = jvFrom l [] js := by rw [jobsOk, HQ.out, Bool.true_and, decide_eq_true h60, Bool.true_and]
      have HX0 := Lib.hid hx0
      clear hx0
      go_wp2
      go_loopw [19] (fun i wr => ∃ k : Nat, k ≤ js.length ∧ i = .int .i64 k ∧ Hid (jobsOk l js = jvFrom l (js.take k) (js.drop k)) ∧ Hid (∀ x ∈ js.take k, 0 ≤ x.at_ ∧ x.at_ ≤ 200) ∧ Bw w wr) (fun i _ => js.length - (intOf i).toNat)
      case atStart => exact ⟨0, Nat.zero_le _, rfl, HX0.out, by intro x hx; simp at hx, hb1⟩
      case round =>
        obtain ⟨k, hk, rfl, hx, hin, hbw⟩ := hrel
        obtain ⟨wo, rfl⟩ : ∃ wo : World, wo = wr := ⟨_, rfl⟩
        by_cases hlt : k < js.length
        · obtain ⟨⟨x, y, z⟩, b, off, hjk, hbo, hbs, c0, c1, c2⟩ := HS.out.get hbw hlt
          dsimp only at c0 c1 c2
          have HJK := Lib.hid hjk
          clear hjk
          subst hbo
          have hst : jvFrom l (js.take k) (js.drop k) = (jobIn l ⟨x, y, z⟩ && (((js.take k).all fun u => !clash (evAt l ⟨x, y, z⟩) ⟨x, y, z⟩ u) && (!lastBad (js.take k) ⟨x, y, z⟩ && jvFrom l (js.take (k + 1)) (js.drop (k + 1))))) := by
            rw [drop_cons HJK.out, take_snoc HJK.out]; rfl
          have HST := Lib.hid hst
          clear hst
          go_wp2_with fail
          refine (jobOf_any _ _ _ l _ _ _ hl (HR.out.bw (bw_trans hbw (bw_alloc _ _)))).mono ?_
          obtain ⟨q, HJ⟩ : ∃ q, Hid (jobIn l ⟨x, y, z⟩ = q) := ⟨_, rfl⟩
          rw [HJ.out]
          rintro e w2 ⟨rfl, hb2⟩
          have hw2 := bw_trans hbw (bw_trans (bw_alloc _ _) hb2)
          cases q with
          | false =>
            go_wp2
            go_ret
            exact ⟨ret_b (by rw [hx.out, HST.out, HJ.out, Bool.false_and]), hw2⟩
          | true =>
            obtain ⟨hso, ht0, htl, ha0, ha1, hn1, t, htk, hnh⟩ := jobIn_spec HJ.out
            dsimp only at ht0 htl ha0 ha1 hn1 htk hnh
            obtain ⟨x, rfl⟩ : ∃ n : Nat, x = (n : Int) := ⟨x.toNat, by omega⟩
            have hev : evAt l ⟨(x : Int), y, z⟩ = t.every := by simp [evAt] at htk ⊢; rw [htk]
            have hx' : x < l.length := by omega
            have htk' : l[x]? = some t := by simpa using htk
            obtain ⟨t', b2, off2, htk2, hao2, hbs2, _, _, _, r3, _⟩ := HR.out.get hw2 hx'
            have htt : t' = t := by rw [htk'] at htk2; simpa using htk2.symm
            subst htt
            have hte : 1 ≤ t'.every ∧ t'.every ≤ 20 := by have := (Tk.ok_iff _).1 (setOk_at hso htk'); omega
            obtain ⟨te1, te2⟩ := hte
            subst hao2
            have HTK := Lib.hid htk
            have HEV := Lib.hid hev
            have HTK' := Lib.hid htk'
            have HTK2 := Lib.hid htk2
            have HSO := Lib.hid hso
            have HNH := Lib.hid hnh
            clear htk hev htk' htk2 hso hnh
            clear c0 c1 c2
            have B2 := Lib.hid (box_last hb2)
            have c0 := blk_cell B2.out 0 rfl
            have c1 := blk_cell B2.out 1 rfl
            have c2 := blk_cell B2.out 2 rfl
            have hkd : k ≤ d := by omega
            have hd0 : ¬ d = 0 := by omega
            have hbx : wo.heap.size < w2.heap.size := by have := blk_lt B2.out; simpa using this
            go_wp2_with fail
            go_loopw [32] (fun i wi => ∃ m : Nat, m ≤ k ∧ i = .int .i64 m ∧ Hid (((js.take k).all fun u => !clash (evAt l ⟨x, y, z⟩) ⟨x, y, z⟩ u) = ((js.take k).drop m).all fun u => !clash (evAt l ⟨x, y, z⟩) ⟨x, y, z⟩ u) ∧ Bw w2 wi) (fun i _ => k - (intOf i).toNat)
            case atStart => exact ⟨0, Nat.zero_le _, rfl, rfl, Bw.refl _⟩
            case round =>
              obtain ⟨m, hm, rfl, hy, hbi⟩ := hrel
              have hbr : wo.heap.size < wr.heap.size := Nat.lt_of_lt_of_le hbx hbi.size
              have hb2r : b2 < wr.heap.size := Nat.lt_of_lt_of_le hbs2 hbi.size
              have e0 := cell_bw hbi c0
              have e1 := cell_bw hbi c1
              have er := cell_bw hbi r3
              by_cases hmk : m < k
              · obtain ⟨⟨x', y', z'⟩, b', off', hjm, hbo', hbs', d0, d1, d2⟩ := HS.out.get (bw_trans hw2 hbi) (k := m) (by omega)
                simp only [Option.some.injEq, Addr.mk.injEq, and_true] at hbo'
                obtain ⟨rfl, rfl⟩ := hbo'
                dsimp only at d0 d1 d2
                have hmt : (js.take k)[m]? = some ⟨x', y', z'⟩ := by rw [List.getElem?_take, if_pos hmk]; exact hjm
                obtain ⟨hy0, hy1⟩ := hin.out _ (List.mem_of_getElem? hmt)
                dsimp only at hy0 hy1
                have hst2 : (((js.take k).drop m).all fun u => !clash (evAt l ⟨x, y, z⟩) ⟨x, y, z⟩ u) = (!clash t'.every ⟨x, y, z⟩ ⟨x', y', z'⟩ && ((js.take k).drop (m + 1)).all fun u => !clash (evAt l ⟨x, y, z⟩) ⟨x, y, z⟩ u) := by
                  rw [drop_cons hmt]; simp only [List.all_cons, HEV.out]
                have HJM := Lib.hid hjm
                have HMT := Lib.hid hmt
                have HST2 := Lib.hid hst2
                clear hjm hmt hst2
                by_cases hxe : x' = (x : Int)
                · subst hxe
                  have hxq : ((x : Int) == (x : Int)) = true := by simp
                  have hwr : IntKind.i64.wrap (y - y') = y - y' := IntWalk.i64_in _ (by omega)
                  by_cases hlt2 : y - y' < t'.every
                  · have HC : Hid (clash t'.every ⟨x, y, z⟩ ⟨x, y', z'⟩ = true) := by simp [Hid, clash, hlt2]
                    go_wp2_with fail
                    go_quiet (fail)
                    go_wp2
                    go_ret
                    exact ⟨ret_b (by rw [hx.out, HST.out, hy.out, HST2.out, HC.out]; simp), blw_drewN (bw_trans (bw_trans hw2 hbi) (bw_alloc _ _)) _⟩
                  · have HC : Hid (clash t'.every ⟨x, y, z⟩ ⟨x, y', z'⟩ = false) := by simp [Hid, clash]; omega
                    go_wp2_with fail
                    go_quiet (fail)
                    go_wp2
                    go_roundw
                    case rel => exact ⟨m + 1, by omega, by go_num, by show _ = _; rw [hy.out, HST2.out, HC.out]; rfl, blw_drewN (bw_trans hbi (bw_alloc _ _)) _⟩
                    case measure => simp [intOf]; omega
                · have hxq : (x' == (x : Int)) = false := by simp [hxe]
                  have HC : Hid (clash t'.every ⟨x, y, z⟩ ⟨x', y', z'⟩ = false) := by simp [Hid, clash, hxe]
                  have HXE := Lib.hid hxe
                  clear hxe
                  go_wp2_with fail
                  go_quiet (fail)
                  go_wp2
                  go_roundw
                  case rel => exact ⟨m + 1, by omega, by go_num, by show _ = _; rw [hy.out, HST2.out, HC.out]; rfl, blw_drewN (bw_trans hbi (bw_alloc _ _)) _⟩
                  case measure => simp [intOf]; omega
              · have HAL : Hid (((js.take k).all fun u => !clash (evAt l ⟨x, y, z⟩) ⟨x, y, z⟩ u) = true) := by
                  show _ = _
                  rw [hy.out, drop_end (by rw [List.length_take]; omega)]; rfl
                clear er
                have hwi := bw_trans hw2 hbi
                have HX2 : Hid (jobsOk l js = (!lastBad (js.take k) ⟨x, y, z⟩ && jvFrom l (js.take (k + 1)) (js.drop (k + 1)))) := by
                  show _ = _
                  rw [hx.out, HST.out, HJ.out, HAL.out, Bool.true_and, Bool.true_and]
                have HIN2 : Hid (∀ u ∈ js.take (k + 1), 0 ≤ u.at_ ∧ u.at_ ≤ 200) := by
                  intro u hu
                  rw [take_snoc HJK.out, List.mem_append] at hu
                  rcases hu with hu | hu
                  · exact hin.out u hu
                  · simp at hu; subst hu; exact ⟨ha0, ha1⟩
                rcases Nat.eq_zero_or_pos k with hk0 | hk0
                · subst hk0
                  have HLB : Hid (lastBad (js.take 0) ⟨x, y, z⟩ = false) := by simp [Hid, lastBad]
                  go_wp2_with fail
                  go_quiet (fail)
                  go_wp2
                  go_roundw
                  case rel => exact ⟨0 + 1, by omega, by go_num, by show _ = _; rw [HX2.out, HLB.out]; rfl, HIN2.out, blw_drewN hwi _⟩
                  case measure => simp [intOf]; omega
                · obtain ⟨k, rfl⟩ : ∃ n, k = n + 1 := ⟨k - 1, by omega⟩
                  obtain ⟨⟨px, py, pz⟩, b', off', hjp, hbo', hbs', d0, d1, d2⟩ := HS.out.get hwi (k := k) (by omega)
                  simp only [Option.some.injEq, Addr.mk.injEq, and_true] at hbo'
                  obtain ⟨rfl, rfl⟩ := hbo'
                  dsimp only at d0 d1 d2
                  have hlb : lastBad (js.take (k + 1)) ⟨x, y, z⟩ = decide (y < py ∨ (py = y ∧ (x : Int) ≤ px)) := by
                    rw [take_snoc hjp]; simp [lastBad, ordBad]
                  have HJP := Lib.hid hjp
                  have HLB := Lib.hid hlb
                  clear hjp hlb
                  have yes : ∀ q, (q = true → ¬ (y < py ∨ (py = y ∧ (x : Int) ≤ px))) → (q = false → (y < py ∨ (py = y ∧ (x : Int) ≤ px))) → Hid (lastBad (js.take (k + 1)) ⟨x, y, z⟩ = !q) := by
                    intro q h1 h2
                    show _ = _
                    rw [HLB.out]
                    cases q
                    · simp [h2 rfl]
                    · simpa using h1 rfl
                  have YES := Lib.hid yes
                  clear yes
                  by_cases h1 : y < py
                  · have LB := YES.out false (by simp) (fun _ => .inl h1)
                    go_wp2_with fail
                    go_quiet (fail)
                    go_wp2
                    go_ret
                    exact ⟨ret_b (by rw [HX2.out, LB.out]; rfl), blw_drewN hwi _⟩
                  · by_cases h2 : py = y
                    · subst h2
                      have hq : (py == py) = true := by simp
                      by_cases h3 : (x : Int) ≤ px
                      · have LB := YES.out false (by simp) (fun _ => .inr ⟨rfl, h3⟩)
                        have hd1 : decide (py < py) = false := by simp
                        clear h1
                        go_wp2_with fail
                        go_quiet (fail)
                        go_wp2
                        go_ret
                        exact ⟨ret_b (by rw [HX2.out, LB.out]; rfl), blw_drewN hwi _⟩
                      · have LB := YES.out true (by simp; omega) (by simp)
                        have hd1 : decide (py < py) = false := by simp
                        have hd3 : decide ((x : Int) ≤ px) = false := by simp; omega
                        clear h1
                        go_wp2_with fail
                        go_quiet (fail)
                        go_wp2
                        go_roundw
                        case rel => exact ⟨k + 1 + 1, by omega, by go_num, by show _ = _; rw [HX2.out, LB.out]; rfl, HIN2.out, blw_drewN hwi _⟩
                        case measure => simp [intOf]; omega
                    · have LB := YES.out true (by simp; omega) (by simp)
                      have hq : (py == y) = false := by simp [h2]
                      have hd1 : decide (y < py) = false := by simp; omega
                      have H2 := Lib.hid h2
                      clear h2
                      go_wp2_with fail
                      go_quiet (fail)
                      go_wp2
                      go_roundw
                      case rel => exact ⟨k + 1 + 1, by omega, by go_num, by show _ = _; rw [HX2.out, LB.out]; rfl, HIN2.out, blw_drewN hwi _⟩
                      case measure => simp [intOf]; omega
        · have HD : Hid (true = jobsOk l js) := by show _ = _; rw [hx.out, drop_end hlt]; rfl
          go_wp2
          go_ret
          exact ⟨ret_b HD.out, hbw⟩
    · have HD : Hid (false = jobsOk l js) := by show _ = _; rw [jobsOk, decide_eq_false h60, Bool.false_and, Bool.and_false]
      go_wp2
      go_ret
      exact ⟨ret_b HD.out, hb1⟩
end Go.Proofs.Ytbgfclcnddgboaa
