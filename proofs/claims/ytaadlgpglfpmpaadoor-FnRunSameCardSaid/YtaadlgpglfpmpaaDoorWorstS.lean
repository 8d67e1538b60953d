/-
  The walk of spec.WorstJobs.
-/
import Derived.Test.YtaadlgpglfpmpaaDoorWorst
namespace Go.Proofs.YtaadlgpglfpmpaaDoor
open Go.RowKit

set_option maxRecDepth 100000 in
set_option maxHeartbeats 3200000 in
theorem WorstJobs_spec_true (ao : Option Addr) (c : Nat) (w : World) (l : List Tk) (u : Int) (hl : l.length ≤ 1048576) (hr : RT w ao l) :
    Calls Tryd.prog 90 #[.slice ao l.length c, .int .i64 u, .bool true] w (RetP w 57 3 (jbs (worst l u true).1) (worst l u true).1.length (worst l u true).2) := by
  obtain ⟨i0, hi0, hz0, hz1, hz2⟩ := info_parts infoJob
  have HR := Lib.hid hr
  clear hr
  go_enter Tryd.func90, Tryd.ntmps90
  go_wp2_with fail
  refine (spec.SetValid_walk _ _ _ l hl (HR.out.bw (bw_alloc _ _))).mono ?_
  obtain ⟨q, HQ⟩ : ∃ q, Hid (setOk l = q) := ⟨_, rfl⟩
  rw [HQ.out]
  rintro e w1 ⟨rfl, hb0⟩
  have hb1 := bw_trans (bw_alloc _ _) hb0
  have hown0 : w1.ownsRow w.heap.size 57 3 (.slice (some ⟨w.heap.size, 0, none⟩) 0 0) 0 (jbs []) := by
    have := row_bw (World.ownsRow_made (base := w.heap.size) (e := 57) (size := 3) w #[] 0 (by simp) (by simp) rfl) hb0
    simpa [jbs] using this
  have no : ¬ (setOk l = true ∧ 0 ≤ u ∧ u ≤ 200) → RetP w 57 3 (jbs (worst l u true).1) (worst l u true).1.length (worst l u true).2 (.returned (.tuple #[.slice (some ⟨w.heap.size, 0, none⟩) 0 0, .bool false])) w1 := by
    intro h
    have : worst l u true = ([], false) := by rw [worst, if_neg h]
    rw [this]
    exact ⟨_, _, rfl, hown0, hb1⟩
  have NO := Lib.hid no
  clear no
  cases q with
  | false =>
    go_wp2
    go_ret2
    exact NO.out (by rw [HQ.out]; simp)
  | true =>
    by_cases hu0 : u < 0
    · go_wp2
      go_ret2
      exact NO.out (by omega)
    · by_cases hu1 : 200 < u
      · have hd : decide (u < 0) = false := by simp; omega
        go_wp2
        go_ret2
        exact NO.out (by omega)
      · obtain ⟨n, rfl⟩ : ∃ n : Nat, u = n := ⟨u.toNat, by omega⟩
        have hd : decide ((n : Int) < 0) = false := by simp
        have hd2 : decide ((200 : Int) < n) = false := by simp; omega
        have hx0 : worst l n true = optJ (wjOut true l (n - 0) 0 []) := by rw [worst, if_pos ⟨HQ.out, by omega, by omega⟩]; rfl
        have hz1' := hb1.size
        have HX0 := Lib.hid hx0
        clear hx0
        have hn200 : n ≤ 200 := by omega
        clear hu0 hu1
        go_wp2
        go_loopw [8, 9] (fun v i wr => ∃ (k : Nat) (q : List Jb), k ≤ n ∧ i = .int .i64 k ∧ wr.ownsRow w.heap.size 57 3 v q.length (jbs q) ∧ q.length ≤ 60 ∧ Hid (worst l n true = optJ (wjOut true l (n - k) k q)) ∧ Bw w wr) (fun _ i _ => n - (intOf i).toNat)
        case atStart => exact ⟨0, [], Nat.zero_le _, rfl, hown0, by simp, HX0.out, hb1⟩
        case round =>
          obtain ⟨k, q, hk, rfl, hown, hq, hx, hbw⟩ := hrel
          by_cases hlt : k < n
          · have hst : worst l n true = optJ ((wjIn true k 0 l q).bind (wjOut true l (n - (k + 1)) (k + 1))) := by rw [hx.out, wjOut_step true l hlt]
            have HST := Lib.hid hst
            clear hst
            have hk200 : (k : Int) < 200 := by omega
            obtain ⟨wo, rfl⟩ : ∃ wo : World, wo = wr := ⟨_, rfl⟩
            go_wp2
            go_loopw [8, 10] (fun v i wi => ∃ (m : Nat) (q : List Jb), m ≤ l.length ∧ i = .int .i64 m ∧ wi.ownsRow w.heap.size 57 3 v q.length (jbs q) ∧ q.length ≤ 60 ∧ Hid (worst l n true = optJ ((wjIn true k m (l.drop m) q).bind (wjOut true l (n - (k + 1)) (k + 1)))) ∧ Bw w wi) (fun _ i _ => l.length - (intOf i).toNat)
            case atStart => exact ⟨0, q, Nat.zero_le _, rfl, hown, hq, HST.out, hbw⟩
            case round =>
              clear hown hq hx hbw HST
              clear q
              obtain ⟨m, q, hm, rfl, hown, hq, hx, hbw⟩ := hrel
              by_cases hmt : m < l.length
              · obtain ⟨t, b, off, htk, hao, hbs, c0, c1, c2, c3, c4⟩ := HR.out.get hbw hmt
                have hok := (Tk.ok_iff _).1 (setOk_at HQ.out htk)
                subst hao
                obtain ⟨ao', c', hu⟩ := own_form hown
                subst hu
                have hstep : wjIn true k m (l.drop m) q = if (k : Int).tmod t.every ≠ 0 then wjIn true k (m + 1) (l.drop (m + 1)) q else if q.length = 60 then none else wjIn true k (m + 1) (l.drop (m + 1)) (q ++ [⟨m, k, t.high⟩]) := by rw [drop_cons htk]; rfl
                have hte : 1 ≤ t.every := by omega
                have hte0 : ¬ t.every = 0 := by omega
                have hz := hbw.size
                have HTK := Lib.hid htk
                have HOK := Lib.hid hok
                have HSTEP := Lib.hid hstep
                clear htk hok hstep
                by_cases h0 : (k : Int).tmod t.every = 0
                · have hq0 : ((k : Int).tmod t.every != 0) = false := by simp [h0]
                  by_cases h60 : q.length = 60
                  · have hq6 : ((q.length : Int) == 60) = true := by simp [h60]
                    have hf : worst l n true = ([], false) := by rw [hx.out, HSTEP.out, if_neg (by simp [h0]), if_pos h60]; rfl
                    have HF := Lib.hid hf
                    clear hf
                    go_wp2
                    go_ret2
                    exact ⟨_, _, by rw [HF.out]; rfl, by rw [HF.out]; simpa [jbs] using World.ownsRow_made (base := w.heap.size) (e := 57) (size := 3) wr #[] 0 hz (by simp) rfl, bw_trans hbw (bw_alloc _ _)⟩
                  · have hq6 : ((q.length : Int) == 60) = false := by simp; omega
                    have hst : worst l n true = optJ ((wjIn true k (m + 1) (l.drop (m + 1)) (q ++ [⟨m, k, t.high⟩])).bind (wjOut true l (n - (k + 1)) (k + 1))) := by rw [hx.out, HSTEP.out, if_neg (by simp [h0]), if_neg h60]
                    have HST := Lib.hid hst
                    clear hst
                    go_wp2_with (at_builtin; refine wpList_append_own _ rfl _ _ 37 rfl w.heap.size 57 i0 zJob 3 24 Tryd.underlying37 hi0 hz0 hz1 hz2 rfl (by decide) _ _ _ rfl ((row_bw hown (bw_alloc _ _)).alloc _) ⟨wr.heap.size + 1, 0, none⟩ 1 1 (jbCells ⟨m, k, t.high⟩) rfl rfl (by have := cell_job_new (wr.alloc (.cells #[.int .i64 m, .int .i64 k, .int .i64 t.high] 57)) ⟨m, k, t.high⟩ 57; simpa using this) (oneJ _) (by unfold maxLen; omega) (by omega) (by simp; omega) ?_; intro v' w2 hown' hgrow _)
                    have hb2 : Bw w w2 := Below.grown (Below.alloc (bw_trans hbw (bw_alloc _ _)) (by simp; omega) _) hgrow (by simp; omega) (fun g hg => by have := own_cap0 hown g hg; omega)
                    have hown2 : w2.ownsRow w.heap.size 57 3 v' (q ++ [(⟨m, k, t.high⟩ : Jb)]).length (jbs (q ++ [⟨m, k, t.high⟩])) := by simpa [jbs] using hown'
                    clear hown' hgrow hown
                    go_wp2
                    go_roundw
                    case rel => exact ⟨m + 1, q ++ [(⟨m, k, t.high⟩ : Jb)], by omega, by go_num, hown2, by simp; omega, HST.out, hb2⟩
                    case measure => simp [intOf]; omega
                · have hq0 : ((k : Int).tmod t.every != 0) = true := by simp [h0]
                  have hq1 : ((k : Int) % t.every != 0) = true := by rw [← Int.tmod_eq_emod_of_nonneg (by omega)]; exact hq0
                  have hst : worst l n true = optJ ((wjIn true k (m + 1) (l.drop (m + 1)) q).bind (wjOut true l (n - (k + 1)) (k + 1))) := by rw [hx.out, HSTEP.out, if_pos h0]
                  have HST := Lib.hid hst
                  have H0 := Lib.hid h0
                  clear hst h0
                  go_wp2
                  go_roundw
                  case rel => exact ⟨m + 1, q, by omega, by go_num, hown, hq, HST.out, hbw⟩
                  case measure => simp [intOf]; omega
              · have hst : worst l n true = optJ (wjOut true l (n - (k + 1)) (k + 1) q) := by rw [hx.out, drop_end hmt]; rfl
                have HST := Lib.hid hst
                clear hst
                go_wp2
                go_roundw
                case rel => exact ⟨k + 1, q, by omega, by go_num, hown, hq, HST.out, hbw⟩
                case measure => simp [intOf]; omega
          · have hfin : worst l n true = (q, true) := by rw [hx.out, wjOut_end true l hlt]; rfl
            have HFIN := Lib.hid hfin
            clear hfin
            obtain ⟨ao', c', hu⟩ := own_form hown
            subst hu
            go_wp2
            go_ret2
            exact ⟨ao', c', by rw [HFIN.out]; rfl, by rw [HFIN.out]; exact hown, hbw⟩
set_option maxRecDepth 100000 in
set_option maxHeartbeats 3200000 in
theorem WorstJobs_spec_false (ao : Option Addr) (c : Nat) (w : World) (l : List Tk) (u : Int) (hl : l.length ≤ 1048576) (hr : RT w ao l) :
    Calls Tryd.prog 90 #[.slice ao l.length c, .int .i64 u, .bool false] w (RetP w 57 3 (jbs (worst l u false).1) (worst l u false).1.length (worst l u false).2) := by
  obtain ⟨i0, hi0, hz0, hz1, hz2⟩ := info_parts infoJob
  have HR := Lib.hid hr
  clear hr
  go_enter Tryd.func90, Tryd.ntmps90
  go_wp2_with fail
  refine (spec.SetValid_walk _ _ _ l hl (HR.out.bw (bw_alloc _ _))).mono ?_
  obtain ⟨q, HQ⟩ : ∃ q, Hid (setOk l = q) := ⟨_, rfl⟩
  rw [HQ.out]
  rintro e w1 ⟨rfl, hb0⟩
  have hb1 := bw_trans (bw_alloc _ _) hb0
  have hown0 : w1.ownsRow w.heap.size 57 3 (.slice (some ⟨w.heap.size, 0, none⟩) 0 0) 0 (jbs []) := by
    have := row_bw (World.ownsRow_made (base := w.heap.size) (e := 57) (size := 3) w #[] 0 (by simp) (by simp) rfl) hb0
    simpa [jbs] using this
  have no : ¬ (setOk l = true ∧ 0 ≤ u ∧ u ≤ 200) → RetP w 57 3 (jbs (worst l u false).1) (worst l u false).1.length (worst l u false).2 (.returned (.tuple #[.slice (some ⟨w.heap.size, 0, none⟩) 0 0, .bool false])) w1 := by
    intro h
    have : worst l u false = ([], false) := by rw [worst, if_neg h]
    rw [this]
    exact ⟨_, _, rfl, hown0, hb1⟩
  have NO := Lib.hid no
  clear no
  cases q with
  | false =>
    go_wp2
    go_ret2
    exact NO.out (by rw [HQ.out]; simp)
  | true =>
    by_cases hu0 : u < 0
    · go_wp2
      go_ret2
      exact NO.out (by omega)
    · by_cases hu1 : 200 < u
      · have hd : decide (u < 0) = false := by simp; omega
        go_wp2
        go_ret2
        exact NO.out (by omega)
      · obtain ⟨n, rfl⟩ : ∃ n : Nat, u = n := ⟨u.toNat, by omega⟩
        have hd : decide ((n : Int) < 0) = false := by simp
        have hd2 : decide ((200 : Int) < n) = false := by simp; omega
        have hx0 : worst l n false = optJ (wjOut false l (n - 0) 0 []) := by rw [worst, if_pos ⟨HQ.out, by omega, by omega⟩]; rfl
        have hz1' := hb1.size
        have HX0 := Lib.hid hx0
        clear hx0
        have hn200 : n ≤ 200 := by omega
        clear hu0 hu1
        go_wp2
        go_loopw [8, 9] (fun v i wr => ∃ (k : Nat) (q : List Jb), k ≤ n ∧ i = .int .i64 k ∧ wr.ownsRow w.heap.size 57 3 v q.length (jbs q) ∧ q.length ≤ 60 ∧ Hid (worst l n false = optJ (wjOut false l (n - k) k q)) ∧ Bw w wr) (fun _ i _ => n - (intOf i).toNat)
        case atStart => exact ⟨0, [], Nat.zero_le _, rfl, hown0, by simp, HX0.out, hb1⟩
        case round =>
          obtain ⟨k, q, hk, rfl, hown, hq, hx, hbw⟩ := hrel
          by_cases hlt : k < n
          · have hst : worst l n false = optJ ((wjIn false k 0 l q).bind (wjOut false l (n - (k + 1)) (k + 1))) := by rw [hx.out, wjOut_step false l hlt]
            have HST := Lib.hid hst
            clear hst
            have hk200 : (k : Int) < 200 := by omega
            obtain ⟨wo, rfl⟩ : ∃ wo : World, wo = wr := ⟨_, rfl⟩
            go_wp2
            go_loopw [8, 10] (fun v i wi => ∃ (m : Nat) (q : List Jb), m ≤ l.length ∧ i = .int .i64 m ∧ wi.ownsRow w.heap.size 57 3 v q.length (jbs q) ∧ q.length ≤ 60 ∧ Hid (worst l n false = optJ ((wjIn false k m (l.drop m) q).bind (wjOut false l (n - (k + 1)) (k + 1)))) ∧ Bw w wi) (fun _ i _ => l.length - (intOf i).toNat)
            case atStart => exact ⟨0, q, Nat.zero_le _, rfl, hown, hq, HST.out, hbw⟩
            case round =>
              clear hown hq hx hbw HST
              clear q
              obtain ⟨m, q, hm, rfl, hown, hq, hx, hbw⟩ := hrel
              by_cases hmt : m < l.length
              · obtain ⟨t, b, off, htk, hao, hbs, c0, c1, c2, c3, c4⟩ := HR.out.get hbw hmt
                have hok := (Tk.ok_iff _).1 (setOk_at HQ.out htk)
                subst hao
                obtain ⟨ao', c', hu⟩ := own_form hown
                subst hu
                have hstep : wjIn false k m (l.drop m) q = if (k : Int).tmod t.every ≠ 0 then wjIn false k (m + 1) (l.drop (m + 1)) q else if q.length = 60 then none else wjIn false k (m + 1) (l.drop (m + 1)) (q ++ [⟨m, k, t.low⟩]) := by rw [drop_cons htk]; rfl
                have hte : 1 ≤ t.every := by omega
                have hte0 : ¬ t.every = 0 := by omega
                have hz := hbw.size
                have HTK := Lib.hid htk
                have HOK := Lib.hid hok
                have HSTEP := Lib.hid hstep
                clear htk hok hstep
                by_cases h0 : (k : Int).tmod t.every = 0
                · have hq0 : ((k : Int).tmod t.every != 0) = false := by simp [h0]
                  by_cases h60 : q.length = 60
                  · have hq6 : ((q.length : Int) == 60) = true := by simp [h60]
                    have hf : worst l n false = ([], false) := by rw [hx.out, HSTEP.out, if_neg (by simp [h0]), if_pos h60]; rfl
                    have HF := Lib.hid hf
                    clear hf
                    go_wp2
                    go_ret2
                    exact ⟨_, _, by rw [HF.out]; rfl, by rw [HF.out]; simpa [jbs] using World.ownsRow_made (base := w.heap.size) (e := 57) (size := 3) wr #[] 0 hz (by simp) rfl, bw_trans hbw (bw_alloc _ _)⟩
                  · have hq6 : ((q.length : Int) == 60) = false := by simp; omega
                    have hst : worst l n false = optJ ((wjIn false k (m + 1) (l.drop (m + 1)) (q ++ [⟨m, k, t.low⟩])).bind (wjOut false l (n - (k + 1)) (k + 1))) := by rw [hx.out, HSTEP.out, if_neg (by simp [h0]), if_neg h60]
                    have HST := Lib.hid hst
                    clear hst
                    go_wp2_with (at_builtin; refine wpList_append_own _ rfl _ _ 37 rfl w.heap.size 57 i0 zJob 3 24 Tryd.underlying37 hi0 hz0 hz1 hz2 rfl (by decide) _ _ _ rfl ((row_bw hown (bw_alloc _ _)).alloc _) ⟨wr.heap.size + 1, 0, none⟩ 1 1 (jbCells ⟨m, k, t.low⟩) rfl rfl (by have := cell_job_new (wr.alloc (.cells #[.int .i64 m, .int .i64 k, .int .i64 t.low] 57)) ⟨m, k, t.low⟩ 57; simpa using this) (oneJ _) (by unfold maxLen; omega) (by omega) (by simp; omega) ?_; intro v' w2 hown' hgrow _)
                    have hb2 : Bw w w2 := Below.grown (Below.alloc (bw_trans hbw (bw_alloc _ _)) (by simp; omega) _) hgrow (by simp; omega) (fun g hg => by have := own_cap0 hown g hg; omega)
                    have hown2 : w2.ownsRow w.heap.size 57 3 v' (q ++ [(⟨m, k, t.low⟩ : Jb)]).length (jbs (q ++ [⟨m, k, t.low⟩])) := by simpa [jbs] using hown'
                    clear hown' hgrow hown
                    go_wp2
                    go_roundw
                    case rel => exact ⟨m + 1, q ++ [(⟨m, k, t.low⟩ : Jb)], by omega, by go_num, hown2, by simp; omega, HST.out, hb2⟩
                    case measure => simp [intOf]; omega
                · have hq0 : ((k : Int).tmod t.every != 0) = true := by simp [h0]
                  have hq1 : ((k : Int) % t.every != 0) = true := by rw [← Int.tmod_eq_emod_of_nonneg (by omega)]; exact hq0
                  have hst : worst l n false = optJ ((wjIn false k (m + 1) (l.drop (m + 1)) q).bind (wjOut false l (n - (k + 1)) (k + 1))) := by rw [hx.out, HSTEP.out, if_pos h0]
                  have HST := Lib.hid hst
                  have H0 := Lib.hid h0
                  clear hst h0
                  go_wp2
                  go_roundw
                  case rel => exact ⟨m + 1, q, by omega, by go_num, hown, hq, HST.out, hbw⟩
                  case measure => simp [intOf]; omega
              · have hst : worst l n false = optJ (wjOut false l (n - (k + 1)) (k + 1) q) := by rw [hx.out, drop_end hmt]; rfl
                have HST := Lib.hid hst
                clear hst
                go_wp2
                go_roundw
                case rel => exact ⟨k + 1, q, by omega, by go_num, hown, hq, HST.out, hbw⟩
                case measure => simp [intOf]; omega
          · have hfin : worst l n false = (q, true) := by rw [hx.out, wjOut_end false l hlt]; rfl
            have HFIN := Lib.hid hfin
            clear hfin
            obtain ⟨ao', c', hu⟩ := own_form hown
            subst hu
            go_wp2
            go_ret2
            exact ⟨ao', c', by rw [HFIN.out]; rfl, by rw [HFIN.out]; exact hown, hbw⟩

theorem RetP.rp {w : World} {E size : Nat} {xs : List Value} {n : Nat} {ok : Bool} {e : Ending} {w' : World} (h : RetP w E size xs n ok e w') : RP w E xs n ok e w' := by
  obtain ⟨ao, c, e1, h1, h2⟩ := h
  exact ⟨ao, c, e1, Own.ofRow h1, h2⟩
theorem worst_spec {w : World} {v : Value} {l : List Tk} (hl : ST w v l) (u : Int) (hi : Bool) : Calls Tryd.prog 90 #[v, .int .i64 u, .bool hi] w (RP w 57 (jbs (worst l u hi).1) (worst l u hi).1.length (worst l u hi).2) := by
  obtain ⟨⟨ao, c, rfl, hr, _⟩, hn⟩ := hl
  cases hi
  · exact (WorstJobs_spec_false ao c w l u hn hr).mono fun _ _ h => h.rp
  · exact (WorstJobs_spec_true ao c w l u hn hr).mono fun _ _ h => h.rp
end Go.Proofs.YtaadlgpglfpmpaaDoor
