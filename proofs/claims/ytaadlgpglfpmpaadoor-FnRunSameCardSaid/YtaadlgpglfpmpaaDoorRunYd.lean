/-
  The walk of the program's RunJobs where it runs: by deadlines.
-/
import Derived.Test.YtaadlgpglfpmpaaDoorGI
import Derived.Deep.DeepCutAuto
import Derived.Deep.CutRange
import Derived.Outline
import Derived.Deep.CutBlock




namespace Go.Proofs.YtaadlgpglfpmpaaDoor
open Go.RowKit

set_option maxRecDepth 100000 in
set_option maxHeartbeats 16000000 in
theorem RunI_yes_true (ao bo : Option Addr) (c d : Nat) (w : World) (l : List Tk) (js : List Jb) (N : Nat) (hl : l.length ≤ 1048576) (hj : js.length ≤ 1048576) (hd : js.length ≤ d) (hr : RT w ao l) (hs : RJ w bo js)
    (hok : jobsOk l js = true) (hf : true = true → (factor l).2 = true) (hN : N ≤ 200) :
    Calls Tryd.prog 24 #[.slice ao l.length c, .slice bo js.length d, .int .i64 1, .int .i64 N] w (RunR w (ticks l js true (factor l).1 N 0 (st0 js.length)).run true) := by
  have h60 := jobs_len hok
  have hmk := mkInt js.length (by omega)
  have hmf : ∀ (fn : Fn) (first cap : Array Value) (w : World), (Instr.makeFunc fn first cap).run Tryd.prog w = .ok (.func fn first cap) w := fun _ _ _ _ => rfl
  have hsf := fun (a : Addr) (c : Array Value) (w : World) => run_store Tryd.prog w a (.func (.func 49) #[] c) .plain rfl
  have HR := Lib.hid hr
  have HS := Lib.hid hs
  have HOK := Lib.hid hok
  have HF := Lib.hid hf
  clear hr hs hok hf
  go_enter Tryd.func24, Tryd.ntmps24
  go_wp2_with fail
  refine (FactorOf_impl _ _ _ l hl (HR.out.bw (bw_trans (bw_trans (bw_trans (bw_alloc _ _) (bw_alloc _ _)) (bw_alloc _ _)) (bw_alloc _ _)))).mono ?_
  obtain ⟨x, hx⟩ : ∃ x, (factor l).1 = x := ⟨_, rfl⟩
  obtain ⟨o, ho⟩ : ∃ o, (factor l).2 = o := ⟨_, rfl⟩
  have hfb := factor_bd (l := l)
  rw [ho] at HF
  rw [hx] at hfb
  rw [hx, ho]
  have HX := Lib.hid hx
  have HO := Lib.hid ho
  clear hx ho
  rintro e w1 ⟨rfl, hb1⟩
  have hw1 := bw_trans (bw_trans (bw_trans (bw_trans (bw_alloc _ _) (bw_alloc _ _)) (bw_alloc _ _)) (bw_alloc _ _)) hb1
  obtain ⟨hb4, hb5, hb6, hb8⟩ := box_four hb1
  have HB4 := Lib.hid hb4
  have HB5 := Lib.hid hb5
  have HB6 := Lib.hid hb6
  have HB8 := Lib.hid hb8
  clear hb4 hb5 hb6 hb8
  have p4 := blk_cell HB4.out 0 rfl
  have p5 := blk_cell HB5.out 0 rfl
  have l4 := blk_lt HB4.out
  have l5 := blk_lt HB5.out
  have l6 := blk_lt HB6.out
  have l8 := blk_lt HB8.out
  go_wp2_with fail
  refine (JobsValid_impl _ _ _ _ _ l js hl hj hd (HR.out.bw (bw_trans hw1 (bw_alloc _ _))) (HS.out.bw (bw_trans hw1 (bw_alloc _ _)))).mono ?_
  rw [HOK.out]
  rintro e wA ⟨rfl, hb2⟩
  have hw12 := bw_trans (bw_alloc w1 _) hb2
  have hw2 := bw_trans hw1 hw12
  clear p4 p5 l4 l5 l6 l8
  have HB4 := Lib.hid (blk_bw hw12 HB4.out)
  have HB5 := Lib.hid (blk_bw hw12 HB5.out)
  have HB6 := Lib.hid (blk_bw hw12 HB6.out)
  have HB8 := Lib.hid (blk_bw hw12 HB8.out)
  have HB10 := Lib.hid (box_last hb2)
  have p5 := blk_cell HB5.out 0 rfl
  have p6 := blk_cell HB6.out 0 rfl
  have l5 := blk_lt HB5.out
  have l6 := blk_lt HB6.out
  have e0 : ((0 : Int) != 0) = false := rfl
  have e1 : ((1 : Int) != 1) = false := rfl
  have en0 : decide ((N : Int) < 0) = false := decide_eq_false (by omega)
  have en1 : decide (200 < (N : Int)) = false := decide_eq_false (by omega)
  first | (have e := HF.out (by trivial); subst e) | skip
  go_wp2
  have hq0 := pre_start wA js.length
  have HQ0 := Lib.hid hq0
  clear hq0
  go_loopw [73] (fun i wr => ∃ k : Nat, k ≤ js.length ∧ i = .int .i64 k ∧ Hid (Pre wA wr js.length k)) (fun i _ => js.length - (intOf i).toNat)
  case atStart => exact ⟨0, Nat.zero_le _, rfl, HQ0.out⟩
  case round =>
    clear p5 p6 l5 l6
    obtain ⟨k, hk, rfl, hp⟩ := hrel
    by_cases hlt : k < js.length
    · obtain ⟨v, hv⟩ := hp.out.cells hlt
      have hfr := hp.out.free k
      have q0 := blk_cell hp.out.r 0 rfl
      have ltr := hp.out.lt
      go_wp2
      go_roundw
      case rel => exact ⟨k + 1, by omega, by go_num, hp.out.step hlt⟩
      case measure => simp [intOf]; omega
    · obtain rfl : k = js.length := by omega
      have q5 := blk_cell (blk_bw hp.out.bw HB5.out) 0 rfl
      have l5 := blk_lt (blk_bw hp.out.bw HB5.out)
      have hM := fun fv TF => hp.out.mem fv TF
      have HM := Lib.hid hM
      clear hM
      obtain ⟨wo, rfl⟩ : ∃ wo : World, wo = wr := ⟨_, rfl⟩
      go_wp2
      clear hmk hmf hsf q5 l5
      go_loopg [15, 88] N (fun g vl i wr => ∃ (k : Nat) (s : St) (vt vs : Value), k ≤ N ∧ g = N - k ∧ i = .int .i64 k ∧ Hid (MM w w1 wA wo wr vt vs vl (.slice none 0 0) s []) ∧ Hid (Inv l js (Here js k) k s) ∧ Hid (s.trace.length = k) ∧ Hid (ticks l js true x N 0 (st0 js.length) = ticks l js true x (N - k) k s))
      case atStart => exact ⟨0, _, _, _, Nat.zero_le _, rfl, rfl, HM.out _ _, inv_start HOK.out, rfl, rfl⟩
      case round =>
        obtain ⟨k, s, vt, vs, hk, rfl, rfl, hM, hI, htl, hx⟩ := hrel
        obtain ⟨al, cl, hvl⟩ := own_form hM.out.l
        subst hvl
        have hllen := hI.out.len
        by_cases hlt : k < N
        · go_upto_if 93 with fail
          go_cut [15] (fun u wc => ∃ s1, Hid (low0 s = s1) ∧ u = .slice al s1.left.length cl ∧ Hid (MM w w1 wA wo wc vt vs (.slice al s1.left.length cl) (.slice none 0 0) s1 []))
          case first =>
            as_aux_lemma =>
              by_cases hl0 : s.left = []
              · have hlow : low0 s = { s with high := false } := by rw [low0, if_pos hl0]
                have e93 : ((s.left.length : Int) == 0) = true := by rw [hl0]; rfl
                have r3 := blk_cell hM.out.r 3 rfl
                have rf := blk_free hM.out.r 3
                have HL0 := Lib.hid hl0
                have HLOW := Lib.hid hlow
                clear hl0 hlow
                go_wp2_with fail
                go_meet
                exact ⟨_, HLOW.out, rfl, hM.out.setHigh false⟩
              · have hlow : low0 s = s := by rw [low0, if_neg hl0]
                have e93 : ((s.left.length : Int) == 0) = false := by
                  have := List.length_pos_iff.2 hl0
                  simp; exact hl0
                have HL0 := Lib.hid hl0
                have HLOW := Lib.hid hlow
                clear hl0 hlow
                go_wp2_with fail
                go_meet
                exact ⟨_, HLOW.out, rfl, hM.out⟩
          case rest =>
            obtain ⟨s1, hs1, rfl, hM1⟩ := hcut
            have hI1 : Hid (Inv l js (Come js k 0) k s1) := by rw [← hs1.out]; exact hI.out.low0.congr (fun i _ => by unfold Here Come; omega)
            have hbA := hM1.out.bw
            have q5 := blk_cell (blk_bw hbA HB5.out) 0 rfl
            have l5 := blk_lt (blk_bw hbA HB5.out)
            clear hllen hM
            go_wp2_with fail
            obtain ⟨wb, rfl⟩ : ∃ wb : World, wb = wc := ⟨_, rfl⟩
            go_loopw [15, 97] (fun u i wr => ∃ (m : Nat) (s2 : St) (al : Option Addr) (cl : Nat), m ≤ js.length ∧ i = .int .i64 m ∧ u = .slice al s2.left.length cl ∧ Hid (MM w w1 wA wo wr vt vs (.slice al s2.left.length cl) (.slice none 0 0) s2 []) ∧ Hid (comeFrom l js k js.length 0 s1 = comeFrom l js k (js.length - m) m s2) ∧ Hid (Inv l js (Come js k m) k s2)) (fun _ i _ => js.length - (intOf i).toNat)
            case atStart => exact ⟨0, s1, al, cl, Nat.zero_le _, rfl, rfl, hM1.out, rfl, hI1.out⟩
            case round =>
              clear q5 l5 hbA hM1 hI1
              obtain ⟨m, s2, al, cl, hm, rfl, rfl, hM2, hc2, hI2⟩ := hrel
              have hbA := hM2.out.bw
              have hbw := bw_trans hw2 hbA
              by_cases hmlt : m < js.length
              · obtain ⟨q, y, z, T, hjk, htk, hTo, hy0, hy1, hz1, hzh, hql⟩ := job_task HOK.out hmlt
                obtain ⟨b, off, hbo, hbs, c0, c1, c2⟩ := (HS.out.bw hbw) m _ hjk
                dsimp only at c0 c1 c2
                subst hbo
                as_aux_lemma =>
                  have hstep := come_step l js (k : Int) hmlt s2
                  have hInext := hI2.out.come1 HOK.out hmlt
                  have hat := at_eq hjk
                  have hcr : critOf l js m = T.crit := by simp [critOf, tkOf, hjk, htk]
                  dsimp only at hat
                  have HSTEP := Lib.hid hstep
                  have HINEXT := Lib.hid hInext
                  clear hstep hInext
                  have hM3 := hM2.out.on (bw_alloc wr (.cells #[.int .i64 q, .int .i64 y, .int .i64 z] 57))
                  by_cases hyk : y = k
                  · subst hyk
                    have e110 : ((k : Int) != (k : Int)) = false := by simp
                    have r3 := blk_cell hM2.out.r 3 rfl
                    have lR := blk_lt hM2.out.r
                    have q4 := blk_cell (blk_bw hbA HB4.out) 0 rfl
                    have l4 := blk_lt (blk_bw hbA HB4.out)
                    obtain ⟨b2, off2, hao, hbs2, t0, t1, t2, t3, t4⟩ := (HR.out.bw hbw) q _ htk
                    subst hao
                    have hsz := hbA.size
                    have hlen2 := hI2.out.len
                    obtain ⟨hh, eh⟩ : ∃ hh, s2.high = hh := ⟨_, rfl⟩
                    obtain ⟨cr, ec⟩ : ∃ cr, T.crit = cr := ⟨_, rfl⟩
                    rw [ec] at t4 hcr
                    rw [eh] at r3
                    by_cases hdrop : hh = true ∧ cr = false
                    · obtain ⟨rfl, rfl⟩ := hdrop
                      have hcm : come1 l js k m s2 = { s2 with ended := s2.ended.set m (-2) } := by rw [come1, if_neg (by rw [hat]; simp), if_pos ⟨eh, hcr⟩]
                      have hml : m < s2.ended.length := by rw [hI2.out.elen]; exact hmlt
                      obtain ⟨ev, hev⟩ := getSome hml
                      obtain ⟨hce, hfe⟩ := hM2.out.cellE hev
                      have lE := World.block_lt_of_cell? wr _ hce
                      have r0 := blk_cell hM2.out.r 0 rfl
                      have HCM := Lib.hid hcm
                      have HAT := Lib.hid hat
                      have HJK := Lib.hid hjk
                      have HTK := Lib.hid htk
                      have HTO := Lib.hid hTo
                      have EC := Lib.hid ec
                      have EH := Lib.hid eh
                      have HCR := Lib.hid hcr
                      have HEV := Lib.hid hev
                      have HM3 := Lib.hid hM3
                      clear hcm hat hjk htk hTo ec eh hcr hev hM3
                      go_wp2_with fail
                      go_roundw
                      case rel => exact ⟨m + 1, { s2 with ended := s2.ended.set m (-2) }, al, cl, by omega, by go_num, rfl, (hM2.out.setEnded m (-2)).on (bw_alloc _ _), by show _ = _; rw [hc2.out, HSTEP.out, HCM.out], by have := HINEXT.out; rw [HCM.out] at this; exact this⟩
                      case measure => simp [intOf]; omega
                    · have hcm : come1 l js k m s2 = { s2 with left := s2.left ++ [m] } := by rw [come1, if_neg (by rw [hat]; simp), if_neg (by rw [eh, hcr]; exact hdrop)]
                      have hM4 := hM3.on (bw_alloc _ (.cells #[.int .i64 m] 3))
                      have HCM := Lib.hid hcm
                      have HAT := Lib.hid hat
                      have HJK := Lib.hid hjk
                      have HTK := Lib.hid htk
                      have HTO := Lib.hid hTo
                      have EC := Lib.hid ec
                      have EH := Lib.hid eh
                      have HCR := Lib.hid hcr
                      clear hcm hat hjk htk hTo ec eh hcr
                      cases hh <;> cases cr
                      all_goals first | exact absurd ⟨rfl, rfl⟩ hdrop | skip
                      all_goals
                        clear hdrop
                        have HM3 := Lib.hid hM3
                        have HM4 := Lib.hid hM4
                        clear hM3 hM4
                        go_wp2_with (at_builtin; refine wpList_app_int rfl _ _ rfl wA.heap.size s2.left.length _ (nats s2.left) (m : Int) rfl HM4.out.l _ rfl (cell_new1 _ _ _ _) (by omega) HM4.out.bw.size ?_; intro ao' c' w3 hown' hgrow' hwhere'; have HM5 := Lib.hid (HM4.out.app_l hown' hgrow' hwhere'); clear hown' hgrow' hwhere')
                        go_roundw
                        case rel => exact ⟨m + 1, { s2 with left := s2.left ++ [m] }, ao', c', by omega, by go_num, by simp, by simpa [Hid] using HM5.out, by show _ = _; rw [hc2.out, HSTEP.out, HCM.out], by have := HINEXT.out; rw [HCM.out] at this; exact this⟩
                        case measure => simp [intOf]; omega
                  · have e110 : (y != (k : Int)) = true := by simp [hyk]
                    have hcm : come1 l js k m s2 = s2 := by rw [come1, if_pos (by rw [hat]; exact hyk)]
                    have HCM := Lib.hid hcm
                    have HYK := Lib.hid hyk
                    have HAT := Lib.hid hat
                    have HJK := Lib.hid hjk
                    have HTK := Lib.hid htk
                    have HTO := Lib.hid hTo
                    have HM3 := Lib.hid hM3
                    have HCR := Lib.hid hcr
                    clear hcm hyk hat hjk htk hTo hM3 hcr
                    go_wp2_with fail
                    go_roundw
                    case rel => exact ⟨m + 1, s2, al, cl, by omega, by go_num, rfl, HM3.out, by show _ = _; rw [hc2.out, HSTEP.out, HCM.out], by have := HINEXT.out; rw [HCM.out] at this; exact this⟩
                    case measure => simp [intOf]; omega
              · obtain rfl : m = js.length := by omega
                have hc3 : comeFrom l js k js.length 0 (low0 s) = s2 := by rw [hs1.out, hc2.out, Nat.sub_self]; rfl
                have hI3 : Inv l js (Here js (k + 1)) k s2 := hI2.out.congr (fun i hi => by unfold Here Come; omega)
                have hlen2 := hI3.len
                have htr2 : s2.trace.length = k := by
                  have h1 := (comeFrom_keep l js k js.length 0 (low0 s)).1
                  rw [hc3, (low0_keep s).1] at h1
                  rw [h1]; exact htl.out
                have htick : tick l js true x k s = work l js true x ((k : Int) + 1) s2 := by rw [tick, hc3]
                have HC3 := Lib.hid hc3
                have HI3 := Lib.hid hI3
                have HTR2 := Lib.hid htr2
                have HTICK := Lib.hid htick
                clear hc3 hI3 htr2 htick
                clear hc2 hI2 hs1 hI
                by_cases hne : s2.left = []
                · as_aux_lemma =>
                    have e130 : ((s2.left.length : Int) == 0) = true := by rw [hne]; rfl
                    have r1 := blk_cell hM2.out.r 1 rfl
                    have lR := blk_lt hM2.out.r
                    have hwk : work l js true x ((k : Int) + 1) s2 = { s2 with trace := s2.trace ++ [-1] } := by rw [work, hne]
                    have hIn := HI3.out.work HOK.out true x
                    rw [hwk] at hIn
                    have hM4 := hM2.out.on (bw_alloc _ (.cells #[.int .i64 (-1)] 3))
                    have h200 : s2.trace.length ≤ 1000000 := by rw [HTR2.out]; omega
                    have HNE := Lib.hid hne
                    have HWK := Lib.hid hwk
                    have HIN := Lib.hid hIn
                    have HM4 := Lib.hid hM4
                    clear hne hwk hIn hM4
                    go_wp2_with (at_builtin; refine wpList_app_int rfl _ _ rfl wA.heap.size s2.trace.length _ s2.trace (-1) rfl HM4.out.t _ rfl (cell_new0 _ _ _) h200 HM4.out.bw.size ?_; intro ao' c' w3 hown' hgrow' hwhere'; have hA := HM4.out.app_t hown' hgrow' hwhere'; have r1' := blk_cell hA.1 1 rfl; have r1f := blk_free hA.1 1; have HM5 := Lib.hid hA.2; clear hA hown' hgrow' hwhere' r1)
                    go_roundg (N - (k + 1))
                    case measure => omega
                    case rel => exact ⟨k + 1, { s2 with trace := s2.trace ++ [-1] }, _, vs, by omega, rfl, by go_num, HM5.out, HIN.out, by show _ = _; simp [HTR2.out], by show _ = _; rw [hx.out, ticks_step l js true x hlt, HTICK.out, HWK.out]⟩
                · have e130 : ((s2.left.length : Int) == 0) = false := by simp; exact hne
                  have hl1 := List.length_pos_iff.2 hne
                  obtain ⟨r0, q, hrq⟩ : ∃ r0 q, s2.left = r0 :: q := by
                    cases h : s2.left with
                    | nil => exact absurd h hne
                    | cons a b => exact ⟨a, b, rfl⟩
                  obtain ⟨r, j, T, dd, hrm, ⟨r0', q', hrq', hbest⟩, hjr, hTr, htkr, hcrr, hTo, hdr, her, _, hd0, hdn, hdt, hdl, ht0, htl', hwk⟩ := work_some HOK.out HI3.out true x ((k : Int) + 1) hne
                  rw [hrq] at hrq'
                  obtain ⟨rfl, rfl⟩ := List.cons.inj hrq'
                  have hqlen : q.length + 1 = s2.left.length := by rw [hrq]; rfl
                  obtain ⟨g, cl', hvl, hclc, hgl, hc0⟩ := hM2.out.cellL (p := 0) (i := r0) (by rw [hrq]; rfl)
                  simp only [Value.slice.injEq] at hvl
                  obtain ⟨rfl, _, rfl⟩ := hvl
                  obtain ⟨jt, y, z⟩ := j
                  dsimp only at hdn hdt ht0 htl' hTr
                  obtain ⟨tq, rfl⟩ : ∃ n : Nat, jt = (n : Int) := ⟨jt.toNat, by omega⟩
                  rw [show ((tq : Int)).toNat = tq by omega] at hTr
                  have htql : tq < l.length := by omega
                  have hr0l : r0 < js.length := HI3.out.lt r0 (by rw [hrq]; simp)
                  have hlm : ∀ i ∈ s2.left, i < js.length := HI3.out.lt
                  have HNE := Lib.hid hne
                  have HRQ := Lib.hid hrq
                  have HBEST := Lib.hid hbest
                  have HJR := Lib.hid hjr
                  have HTR := Lib.hid hTr
                  have HTKR := Lib.hid htkr
                  have HCRR := Lib.hid hcrr
                  have HTO := Lib.hid hTo
                  have HDR := Lib.hid hdr
                  have HER := Lib.hid her
                  have HWK := Lib.hid hwk
                  have HDL := Lib.hid hdl
                  have HRM := Lib.hid hrm
                  have HLM := Lib.hid hlm
                  clear hne hrq hbest hjr hTr htkr hcrr hTo hdr her hwk hdl hrm hlm
                  go_upto_block 7 with fail
                  obtain ⟨A, hA⟩ : ∃ A, (if cl = 1 then some (⟨g, 0, none⟩ : Addr) else some ⟨g, 1, none⟩) = A := ⟨_, rfl⟩
                  rw [hA, show s2.left.length - 1 = q.length by omega]
                  have HA := Lib.hid hA
                  clear hA
                  have HGC := Lib.hid hc0
                  clear hc0
                  go_wp2_with fail
                  obtain ⟨wb2, rfl⟩ : ∃ wb2 : World, wb2 = wr := ⟨_, rfl⟩
                  go_loopw [21, 142] (fun u i wq => ∃ p r' : Nat, p ≤ q.length ∧ i = .int .i64 p ∧ u = .int .i64 r' ∧ Hid (bestOf (goesB l js true x s2.high) r' (q.drop p) = r) ∧ r' < js.length ∧ Bw wb2 wq) (fun _ i _ => q.length - (intOf i).toNat)
                  case atStart => exact ⟨0, r0, Nat.zero_le _, rfl, rfl, HBEST.out.symm, hr0l, Bw.refl _⟩
                  case round =>
                    obtain ⟨p, r', hp, rfl, rfl, hb, hr'l, hbq⟩ := hrel
                    obtain ⟨wq, rfl⟩ : ∃ wq : World, wq = wr := ⟨_, rfl⟩
                    have hAq := bw_trans hbA hbq
                    have hwq := bw_trans hw2 hAq
                    by_cases hplt : p < q.length
                    · obtain ⟨iq, hiq⟩ := getSome hplt
                      have hil : iq < js.length := HLM.out iq (by rw [HRQ.out]; simp [List.mem_of_getElem? hiq])
                      obtain ⟨g', cl'', hvl, hclc', _, hcp⟩ := hM2.out.cellL (p := p + 1) (i := iq) (by rw [HRQ.out]; simpa using hiq)
                      simp only [Value.slice.injEq, Option.some.injEq, Addr.mk.injEq] at hvl
                      obtain ⟨⟨rfl, _, _⟩, _, rfl⟩ := hvl
                      as_aux_lemma =>
                        obtain rfl : some (⟨g, 1, none⟩ : Addr) = A := by rw [← HA.out, if_neg (by omega)]
                        have hcp1 : wq.cell? ⟨g, 1 + p, none⟩ = some (vi iq) := by rw [Nat.add_comm]; exact cell_bw hbq hcp
                        have lg := Nat.lt_of_lt_of_le hgl hbq.size
                        have hE : Env wq w.heap.size (w.heap.size + 1) (wA.heap.size + 1 + 1 + 1) w1.heap.size l js x s2.high := ⟨⟨_, c, blk_bw hAq HB4.out, HR.out.bw hwq⟩, ⟨_, d, blk_bw hAq HB5.out, HS.out.bw hwq⟩, ⟨_, _, _, (hM2.out.on hbq).r⟩, blk_bw hAq HB10.out, HOK.out, hfb.1, hfb.2⟩
                        have hdr : q.drop p = iq :: q.drop (p + 1) := by
                          rw [List.drop_eq_getElem_cons hplt]
                          rw [List.getElem?_eq_getElem hplt] at hiq
                          simp at hiq; rw [hiq]
                        have hCG := fun (a b : Nat) (ha : a < js.length) (hb : b < js.length) => goes_due hE (blk_bw hAq HB6.out) ⟨_,  (hM2.out.on hbq).f⟩ ha hb
                        clear hcp
                        have HDR2 := Lib.hid hdr
                        clear hdr
                        have HE := Lib.hid hE
                        have HIQ := Lib.hid hiq
                        have HCG := Lib.hid hCG
                        clear hE hiq hCG
                        go_wp2_with fail
                        refine (HCG.out iq r' hil hr'l).mono ?_
                        obtain ⟨gg, HGG⟩ : ∃ gg, Hid (goesB l js true x s2.high iq r' = gg) := ⟨_, rfl⟩
                        rw [HGG.out]
                        rintro e w6 ⟨rfl, hb6⟩
                        have hst : bestOf (goesB l js true x s2.high) (if gg = true then iq else r') (q.drop (p + 1)) = r := by rw [← HGG.out, ← hb.out, HDR2.out]; rfl
                        have HST := Lib.hid hst
                        clear hst
                        cases gg
                        · go_wp2_with fail
                          go_roundw
                          case rel => exact ⟨p + 1, r', by omega, by go_num, rfl, HST.out, hr'l, bw_trans hbq hb6⟩
                          case measure => simp [intOf]; omega
                        · go_wp2_with fail
                          go_roundw
                          case rel => exact ⟨p + 1, iq, by omega, by go_num, rfl, HST.out, hil, bw_trans hbq hb6⟩
                          case measure => simp [intOf]; omega
                    · obtain rfl : p = q.length := by omega
                      have hrr : r' = r := by have := hb.out; rw [List.drop_length] at this; exact this
                      subst hrr
                      clear hb
                      have hM6 := hM2.out.on hbq
                      have q5 := blk_cell (blk_bw hAq HB5.out) 0 rfl
                      have l5 := blk_lt (blk_bw hAq HB5.out)
                      obtain ⟨bj, oj, hboj, hbsj, c0, c1, c2⟩ := (HS.out.bw hwq) _ _ HJR.out
                      dsimp only at c0 c1 c2
                      subst hboj
                      have m1 := blk_cell hM6.r 1 rfl
                      have lR := blk_lt hM6.r
                      have h200 : s2.trace.length ≤ 1000000 := by rw [HTR2.out]; omega
                      have hM7 := hM6.on (bw_alloc _ (.cells #[.int .i64 tq] 3))
                      have HM6 := Lib.hid hM6
                      have HM7 := Lib.hid hM7
                      clear hM6 hM7
                      go_upto_region 38 with (at_builtin; refine wpList_app_int rfl _ _ rfl wA.heap.size s2.trace.length _ s2.trace (tq : Int) rfl HM7.out.t _ rfl (cell_new0 _ _ _) h200 HM7.out.bw.size ?_; intro ao' c' w3 hown' hgrow' hwhere'; have hA := HM7.out.app_t hown' hgrow' hwhere'; have r1' := blk_cell hA.1 1 rfl; have r1f := blk_free hA.1 1; have HM8 := Lib.hid hA.2; clear hA hown' hgrow' hwhere' m1)
                      obtain ⟨vt2, hvt2⟩ : ∃ v, Value.slice ao' (s2.trace.length + 1) c' = v := ⟨_, rfl⟩
                      rw [hvt2] at HM8 ⊢
                      obtain ⟨w4, e4⟩ : ∃ w4 : World, w3.setCell ⟨wA.heap.size + 1 + 1 + 1, 1, none⟩ vt2 = w4 := ⟨_, rfl⟩
                      rw [e4] at HM8 ⊢
                      clear e4 r1' r1f c0 c1 c2 q5 l5 hvt2
                      obtain ⟨dcell, dfr⟩ := HM8.out.cellD HDR.out
                      have lD := World.block_lt_of_cell? w4 _ dcell
                      obtain ⟨_, _, _, hy0, _, _, T2, hT2, hzh⟩ := jobIn_spec (jobs_in HOK.out HJR.out)
                      dsimp only at hy0 hT2 hzh
                      have hM9 := HM8.out.setDone r' (dd + 1)
                      have HM9 := Lib.hid hM9
                      have HT2 := Lib.hid hT2
                      have HZH := Lib.hid hzh
                      clear hM9 hT2 hzh
                      go_upto_block 9 with fail
                      obtain ⟨w5, e5⟩ : ∃ w5 : World, w4.setCell ⟨wo.heap.size, r', none⟩ (vi (dd + 1)) = w5 := ⟨_, rfl⟩
                      rw [e5] at HM9 ⊢
                      clear e5 dcell dfr lD
                      have hb5 := HM9.out.bw
                      obtain ⟨s3, es3⟩ : ∃ s3 : St, ({ s2 with trace := s2.trace ++ [(tq : Int)], done := s2.done.set r' (dd + 1) } : St) = s3 := ⟨_, rfl⟩
                      have h3l : s3.left = s2.left := by rw [← es3]
                      have h3e : s3.ended = s2.ended := by rw [← es3]
                      have h3h : s3.high = s2.high := by rw [← es3]
                      have h3d : s3.done[r']? = some (dd + 1) := by rw [← es3]; exact set_at (List.getElem?_eq_some_iff.1 HDR.out).1
                      have HM9 : Hid (MM w w1 wA wo w5 vt2 vs (Value.slice (some ⟨g, 0, none⟩) s2.left.length cl) (Value.slice none 0 0) s3 []) := by rw [← es3]; exact HM9.out
                      have HWK2 : Hid (work l js true x ((k : Int) + 1) s2 = { ran l js ((k : Int) + 1) r' (dd + 1) ⟨tq, y, z⟩ T s3 with left := s2.left.filter (still (ran l js ((k : Int) + 1) r' (dd + 1) ⟨tq, y, z⟩ T s3).ended) }) := by rw [← es3]; exact HWK.out
                      clear HWK HM8
                      have ES3 := Lib.hid es3
                      have H3L := Lib.hid h3l
                      have H3E := Lib.hid h3e
                      have H3H := Lib.hid h3h
                      have H3D := Lib.hid h3d
                      clear es3 h3l h3e h3h h3d
                      go_cut [] (fun wc => ∃ (s4 : St) (vs2 : Value), Hid (ran l js ((k : Int) + 1) r' (dd + 1) ⟨tq, y, z⟩ T s3 = s4) ∧ Hid (MM w w1 wA wo wc vt2 vs2 (Value.slice (some ⟨g, 0, none⟩) s2.left.length cl) (Value.slice none 0 0) s4 []))
                      case first =>
                        as_aux_lemma =>
                          have q4 := blk_cell (blk_bw hb5 HB4.out) 0 rfl
                          have l4 := blk_lt (blk_bw hb5 HB4.out)
                          have q5 := blk_cell (blk_bw hb5 HB5.out) 0 rfl
                          have l5 := blk_lt (blk_bw hb5 HB5.out)
                          obtain ⟨bj', oj', e', hbsj', c0, c1, c2⟩ := (HS.out.bw (bw_trans hw2 hb5)) _ _ HJR.out
                          simp only [Option.some.injEq, Addr.mk.injEq] at e'
                          obtain ⟨rfl, rfl, _⟩ := e'
                          dsimp only at c0 c1 c2
                          obtain ⟨b2, off2, hao, hbs2, t0, t1, t2, t3, t4⟩ := (HR.out.bw (bw_trans hw2 hb5)) _ _ HTR.out
                          subst hao
                          have d1 := (HM9.out.cellD H3D.out).1
                          have lD := World.block_lt_of_cell? w5 _ d1
                          have he3 : s3.ended[r']? = some (-1) := by rw [H3E.out]; exact HER.out
                          have hel := (List.getElem?_eq_some_iff.1 he3).1
                          obtain ⟨ce, cf⟩ := HM9.out.cellE he3
                          have r0 := blk_cell HM9.out.r 0 rfl
                          have r3 := blk_cell HM9.out.r 3 rfl
                          have lR := blk_lt HM9.out.r
                          have lE := World.block_lt_of_cell? w5 _ ce
                          obtain ⟨hh, eh⟩ : ∃ hh, s3.high = hh := ⟨_, rfl⟩
                          obtain ⟨cr, ec⟩ : ∃ cr, T.crit = cr := ⟨_, rfl⟩
                          rw [ec] at t4
                          rw [eh] at r3
                          have HE3 := Lib.hid he3
                          have EH := Lib.hid eh
                          have EC := Lib.hid ec
                          clear he3 eh ec
                          have hran : ran l js ((k : Int) + 1) r' (dd + 1) ⟨tq, y, z⟩ T s3 = if dd + 1 = z then { s3 with ended := s3.ended.set r' ((k : Int) + 1) } else if hh = false ∧ cr = true ∧ dd + 1 = T.low then { s3 with high := true, switches := s3.switches ++ [(k : Int) + 1], ended := dropAll l js s3.left s3.ended } else s3 := by rw [ran, EH.out, EC.out]
                          by_cases hz : dd + 1 = z
                          · have e179 : (dd + 1 == z) = true := by simp [hz]
                            rw [if_pos hz] at hran
                            have HRAN := Lib.hid hran
                            have HZ := Lib.hid hz
                            clear hran hz
                            go_wp2_with fail
                            go_quiet (fail)
                            go_wp2_with fail
                            go_meet
                            exact ⟨_, vs, HRAN.out, (HM9.out.on (bw_drewN _ _)).setEnded r' ((k : Int) + 1)⟩
                          · have e179 : (dd + 1 == z) = false := by simp [hz]
                            rw [if_neg hz] at hran
                            have HZ := Lib.hid hz
                            clear hz
                            by_cases hsw : hh = false ∧ cr = true ∧ dd + 1 = T.low
                            · rw [if_pos hsw] at hran
                              obtain ⟨rfl, rfl, hlw⟩ := hsw
                              have e207 : (dd + 1 == T.low) = true := by simp [hlw]
                              have HRAN := Lib.hid hran
                              have HLW := Lib.hid hlw
                              clear hran hlw
                              go_wp2_with fail
                              go_quiet (fail)
                              obtain ⟨n1, rfl⟩ : ∃ n1 : Nat, n1 = nq := ⟨_, rfl⟩
                              go_wp2_with fail
                              go_quiet (fail)
                              go_upto_region 42 with fail
                              have HMA := Lib.hid ((HM9.out.on (bw_drewN w5 n1)).on (bw_drewN _ nq))
                              obtain ⟨w6, e6⟩ : ∃ w6 : World, (w5.drewN n1).drewN nq = w6 := ⟨_, rfl⟩
                              rw [e6] at HMA ⊢
                              clear e6 d1 lD ce cf r0 r3 lR lE c0 c1 c2 t0 t1 t2 t3 t4 q4 q5 l4 l5
                              have r3 := blk_cell HMA.out.r 3 rfl
                              have rf := blk_free HMA.out.r 3
                              have lR := blk_lt HMA.out.r
                              have HMB := Lib.hid (HMA.out.setHigh true)
                              go_upto_region 43 with fail
                              obtain ⟨w7, e7⟩ : ∃ w7 : World, w6.setCell ⟨wA.heap.size + 1 + 1 + 1, 3, none⟩ (.bool true) = w7 := ⟨_, rfl⟩
                              rw [e7] at HMB ⊢
                              clear e7 r3 rf lR
                              have r2 := blk_cell HMB.out.r 2 rfl
                              have lR := blk_lt HMB.out.r
                              have HMC := Lib.hid (HMB.out.on (bw_alloc w7 (.cells #[.int .i64 ((k : Int) + 1)] 3)))
                              have hsl : s3.switches.length ≤ 1000000 := by
                                have h1 := HI3.out.swlen
                                rw [← ES3.out]; dsimp only; omega
                              go_upto_region 44 with (at_builtin; refine wpList_app_int rfl _ _ rfl wA.heap.size s3.switches.length _ s3.switches ((k : Int) + 1) rfl HMC.out.sw _ rfl (cell_new0 _ _ _) hsl HMC.out.bw.size ?_; intro ao' c' w8 hown' hgrow' hwhere'; have hA := HMC.out.app_s hown' hgrow' hwhere'; have r2' := blk_cell hA.1 2 rfl; have r2f := blk_free hA.1 2; have HMD := Lib.hid hA.2; clear hA hown' hgrow' hwhere' r2)
                              obtain ⟨vs2, hvs2⟩ : ∃ v, Value.slice ao' (s3.switches.length + 1) c' = v := ⟨_, rfl⟩
                              rw [hvs2] at HMD ⊢
                              obtain ⟨w9, e9⟩ : ∃ w9 : World, w8.setCell ⟨wA.heap.size + 1 + 1 + 1, 2, none⟩ vs2 = w9 := ⟨_, rfl⟩
                              rw [e9] at HMD ⊢
                              clear e9 r2' r2f hvs2 HMA HMB HMC lR
                              have h3el : s3.ended.length = js.length := by rw [H3E.out]; exact HI3.out.elen
                              have H3EL := Lib.hid h3el
                              clear h3el
                              go_wp2_with fail
                              go_loopw [219] (fun i wq => ∃ (p : Nat) (e' : List Int), p ≤ s2.left.length ∧ i = .int .i64 p ∧ Hid (MM w w1 wA wo wq vt2 vs2 (Value.slice (some ⟨g, 0, none⟩) s2.left.length cl) (.slice none 0 0) { s3 with high := true, switches := s3.switches ++ [(k : Int) + 1], ended := e' } []) ∧ Hid (e'.length = js.length) ∧ Hid (dropAll l js s2.left s3.ended = dropAll l js (s2.left.drop p) e')) (fun i _ => s2.left.length - (intOf i).toNat)
                              case atStart => exact ⟨0, s3.ended, Nat.zero_le _, rfl, HMD.out, H3EL.out, rfl⟩
                              case round =>
                                obtain ⟨p, e', hp, rfl, hM12, hel', hdp⟩ := hrel
                                obtain ⟨wq2, rfl⟩ : ∃ wq2 : World, wq2 = wr := ⟨_, rfl⟩
                                by_cases hplt : p < s2.left.length
                                · obtain ⟨iq, hiq⟩ := getSome hplt
                                  have hil : iq < js.length := HLM.out iq (List.mem_of_getElem? hiq)
                                  obtain ⟨g', cl'', hvl, hclc', lg, hcp⟩ := hM12.out.cellL (p := p) (i := iq) (by show s3.left[p]? = _; rw [H3L.out]; exact hiq)
                                  simp only [Value.slice.injEq, Option.some.injEq, Addr.mk.injEq] at hvl
                                  obtain ⟨⟨rfl, _, _⟩, hq9, rfl⟩ := hvl
                                  clear hq9 hclc'
                                  have hbq := hM12.out.bw
                                  have hwq := bw_trans hw2 hbq
                                  obtain ⟨qk, yk, zk, Tk', hjk, htk, hTo, _, _, _, _, hql⟩ := job_task HOK.out hil
                                  obtain ⟨bj', oj', e1', hbsj', c0, c1, c2⟩ := (HS.out.bw hwq) _ _ hjk
                                  simp only [Option.some.injEq, Addr.mk.injEq] at e1'
                                  obtain ⟨rfl, rfl, _⟩ := e1'
                                  dsimp only at c0 c1 c2
                                  obtain ⟨b3, off3, hao3, hbs3, t0, t1, t2, t3, t4⟩ := (HR.out.bw hwq) _ _ htk
                                  simp only [Option.some.injEq, Addr.mk.injEq] at hao3
                                  obtain ⟨rfl, rfl, _⟩ := hao3
                                  have hcr : critOf l js iq = Tk'.crit := by simp [critOf, tkOf, hjk, htk]
                                  have q4 := blk_cell (blk_bw hbq HB4.out) 0 rfl
                                  have l4 := blk_lt (blk_bw hbq HB4.out)
                                  have q5 := blk_cell (blk_bw hbq HB5.out) 0 rfl
                                  have l5 := blk_lt (blk_bw hbq HB5.out)
                                  have hdr : s2.left.drop p = iq :: s2.left.drop (p + 1) := by
                                    rw [List.drop_eq_getElem_cons hplt]
                                    rw [List.getElem?_eq_getElem hplt] at hiq
                                    simp at hiq; rw [hiq]
                                  have hdp2 := hdp.out
                                  rw [hdr, dropAll] at hdp2
                                  obtain ⟨cr, ec⟩ : ∃ cr, Tk'.crit = cr := ⟨_, rfl⟩
                                  rw [ec] at t4 hcr
                                  rw [hcr] at hdp2
                                  clear hdr
                                  have HIQ := Lib.hid hiq
                                  have HJK := Lib.hid hjk
                                  have HTK := Lib.hid htk
                                  have HTO := Lib.hid hTo
                                  have HCR := Lib.hid hcr
                                  have EC := Lib.hid ec
                                  have HDP2 := Lib.hid hdp2
                                  clear hiq hjk htk hTo hcr ec hdp2
                                  cases cr with
                                  | true =>
                                    go_wp2_with fail
                                    go_quiet (fail)
                                    go_wp2_with fail
                                    go_roundw
                                    case rel => exact ⟨p + 1, e', by omega, by go_num, hM12.out.on (bw_drewN _ _), hel'.out, HDP2.out⟩
                                    case measure => simp [intOf]; omega
                                  | false =>
                                    obtain ⟨ev, hev⟩ := getSome (l := e') (k := iq) (by rw [hel'.out]; exact hil)
                                    have hell := (List.getElem?_eq_some_iff.1 hev).1
                                    obtain ⟨ce, cf⟩ := hM12.out.cellE hev
                                    have r0 := blk_cell hM12.out.r 0 rfl
                                    have lR := blk_lt hM12.out.r
                                    have lE := World.block_lt_of_cell? wq2 _ ce
                                    have HEV := Lib.hid hev
                                    clear hev
                                    go_wp2_with fail
                                    go_quiet (fail)
                                    go_wp2_with fail
                                    go_roundw
                                    case rel => exact ⟨p + 1, e'.set iq (-2), by omega, by go_num, (hM12.out.on (bw_drewN _ _)).setEnded iq (-2), by show _ = _; rw [List.length_set]; exact hel'.out, HDP2.out⟩
                                    case measure => simp [intOf]; omega
                                · obtain rfl : p = s2.left.length := by omega
                                  have hde : dropAll l js s3.left s3.ended = e' := by rw [H3L.out, hdp.out, List.drop_length]; rfl
                                  rw [hde] at HRAN
                                  clear hdp
                                  have HDE := Lib.hid hde
                                  clear hde
                                  go_wp2_with fail
                                  go_meet
                                  exact ⟨_, vs2, HRAN.out, hM12.out⟩
                            · rw [if_neg hsw] at hran
                              have HRAN := Lib.hid hran
                              clear hran
                              cases hh with
                              | true =>
                                clear hsw
                                go_wp2_with fail
                                go_quiet (fail)
                                go_wp2_with fail
                                go_quiet (fail)
                                go_wp2_with fail
                                go_meet
                                exact ⟨_, vs, HRAN.out, (HM9.out.on (bw_drewN _ _)).on (bw_drewN _ _)⟩
                              | false =>
                                cases cr with
                                | false =>
                                  clear hsw
                                  go_wp2_with fail
                                  go_quiet (fail)
                                  go_wp2_with fail
                                  go_quiet (fail)
                                  go_wp2_with fail
                                  go_meet
                                  exact ⟨_, vs, HRAN.out, (HM9.out.on (bw_drewN _ _)).on (bw_drewN _ _)⟩
                                | true =>
                                  have hlw : dd + 1 ≠ T.low := fun h => hsw ⟨rfl, rfl, h⟩
                                  have e207 : (dd + 1 == T.low) = false := by simp [hlw]
                                  clear hsw
                                  have HLW := Lib.hid hlw
                                  clear hlw
                                  go_wp2_with fail
                                  go_quiet (fail)
                                  go_wp2_with fail
                                  go_quiet (fail)
                                  go_wp2_with fail
                                  go_meet
                                  exact ⟨_, vs, HRAN.out, (HM9.out.on (bw_drewN _ _)).on (bw_drewN _ _)⟩
                      case rest =>
                        as_aux_lemma =>
                          obtain ⟨s4, vs2, hs4, hM10⟩ := hcut
                          obtain ⟨wd, rfl⟩ : ∃ W : World, W = wc := ⟨_, rfl⟩
                          have hbc := hM10.out.bw
                          have hlk : s4.left = s2.left := by rw [← hs4.out, ran_left, H3L.out]
                          have h4e : s4.ended.length = js.length := by rw [← hs4.out, ran_elen, H3E.out]; exact HI3.out.elen
                          have h4t : s4.trace.length = k + 1 := by rw [← hs4.out, ran_trace, ← ES3.out]; simp [HTR2.out]
                          have hInx := HI3.out.work HOK.out true x
                          rw [HWK2.out, hs4.out] at hInx
                          have hwk4 : work l js true x ((k : Int) + 1) s2 = { s4 with left := s2.left.filter (still s4.ended) } := by rw [HWK2.out, hs4.out]
                          have hM11 := hM10.out.new_k hbc.size
                          have HLK := Lib.hid hlk
                          have HM11 := Lib.hid hM11
                          have H4E := Lib.hid h4e
                          have H4T := Lib.hid h4t
                          have HINX := Lib.hid hInx
                          have HWK4 := Lib.hid hwk4
                          clear hlk hM11 h4e h4t hInx hwk4
                          clear hM10 HM9 HWK2 hs4
                          go_wp2_with fail
                          go_loopw [27, 241] (fun u i wq => ∃ (p : Nat) (ks : List Nat) (ak : Option Addr) (ck : Nat), p ≤ s2.left.length ∧ i = .int .i64 p ∧ u = .slice ak ks.length ck ∧ Hid (MM w w1 wA wo wq vt2 vs2 (Value.slice (some ⟨g, 0, none⟩) s2.left.length cl) (.slice ak ks.length ck) s4 ks) ∧ Hid (s2.left.filter (still s4.ended) = ks ++ (s2.left.drop p).filter (still s4.ended))) (fun _ i _ => s2.left.length - (intOf i).toNat)
                          case atStart => exact ⟨0, [], some ⟨wd.heap.size, 0, none⟩, 0, Nat.zero_le _, rfl, rfl, HM11.out, rfl⟩
                          case round =>
                            obtain ⟨p, ks, ak, ck, hp, rfl, rfl, hM12, hfl⟩ := hrel
                            obtain ⟨wq2, rfl⟩ : ∃ wq2 : World, wq2 = wr := ⟨_, rfl⟩
                            by_cases hplt : p < s2.left.length
                            · obtain ⟨iq, hiq⟩ := getSome hplt
                              have hil : iq < js.length := HLM.out iq (List.mem_of_getElem? hiq)
                              obtain ⟨g', cl'', hvl, hclc', lg, hcp⟩ := hM12.out.cellL (p := p) (i := iq) (by rw [HLK.out]; exact hiq)
                              simp only [Value.slice.injEq, Option.some.injEq, Addr.mk.injEq] at hvl
                              obtain ⟨⟨rfl, _, _⟩, hq9, rfl⟩ := hvl
                              clear hq9
                              obtain ⟨ev, hev⟩ := getSome (l := s4.ended) (k := iq) (by rw [H4E.out]; exact hil)
                              have hel := (List.getElem?_eq_some_iff.1 hev).1
                              obtain ⟨ce, cf⟩ := hM12.out.cellE hev
                              have r0 := blk_cell hM12.out.r 0 rfl
                              have lR := blk_lt hM12.out.r
                              have lE := World.block_lt_of_cell? wq2 _ ce
                              have hdr : s2.left.drop p = iq :: s2.left.drop (p + 1) := by
                                rw [List.drop_eq_getElem_cons hplt]
                                rw [List.getElem?_eq_getElem hplt] at hiq
                                simp at hiq; rw [hiq]
                              have hkl : ks.length ≤ 60 := by
                                have h1 := congrArg List.length hfl.out
                                have h2 := List.length_filter_le (still s4.ended) s2.left
                                simp at h1; omega
                              have hfl2 := hfl.out
                              rw [hdr, List.filter_cons, still_at hev] at hfl2
                              have hbq := hM12.out.bw
                              have HIQ := Lib.hid hiq
                              have HEV := Lib.hid hev
                              clear hiq hev
                              clear hdr cf
                              by_cases hev1 : ev = -1
                              · have e250 : (ev == -1) = true := by simp [hev1]
                                rw [if_pos (by simp [hev1])] at hfl2
                                have hM13 := hM12.out.on (bw_alloc _ (.cells #[.int .i64 iq] 3))
                                have HFL2 := Lib.hid hfl2
                                have HM13 := Lib.hid hM13
                                have HEV1 := Lib.hid hev1
                                clear hfl2 hM13 hev1
                                go_wp2_with (at_builtin; refine wpList_app_int rfl _ _ rfl wA.heap.size ks.length _ (nats ks) (iq : Int) rfl HM13.out.k _ rfl (cell_new0 _ _ _) (by omega) HM13.out.bw.size ?_; intro ao' c' w7 hown' hgrow' hwhere'; have HM14 := Lib.hid (HM13.out.app_k hown' hgrow' hwhere'); clear hown' hgrow' hwhere')
                                go_roundw
                                case rel => exact ⟨p + 1, ks ++ [iq], ao', c', by omega, by go_num, by simp, by simpa [Hid] using HM14.out, by show _ = _; rw [HFL2.out]; simp⟩
                                case measure => simp [intOf]; omega
                              · have e250 : (ev == -1) = false := by simp [hev1]
                                rw [if_neg (by simp [hev1])] at hfl2
                                have HFL2 := Lib.hid hfl2
                                have HEV1 := Lib.hid hev1
                                clear hfl2 hev1
                                go_wp2_with fail
                                go_roundw
                                case rel => exact ⟨p + 1, ks, ak, ck, by omega, by go_num, rfl, hM12.out, HFL2.out⟩
                                case measure => simp [intOf]; omega
                            · obtain rfl : p = s2.left.length := by omega
                              have hks : s2.left.filter (still s4.ended) = ks := by rw [hfl.out, List.drop_length]; simp
                              have hM15 := hM12.out.move_k
                              have hInx := HINX.out
                              have hwk4 := HWK4.out
                              rw [hks] at hInx hwk4
                              have HINX2 := Lib.hid hInx
                              have HWK42 := Lib.hid hwk4
                              clear hInx hwk4
                              have HM15 := Lib.hid hM15
                              have HKS := Lib.hid hks
                              clear hM15 hks
                              clear hfl
                              go_wp2
                              go_roundg (N - (k + 1))
                              case measure => omega
                              case rel => exact ⟨k + 1, { s4 with left := ks }, vt2, vs2, by omega, rfl, by go_num, HM15.out, HINX2.out, H4T.out, by show _ = _; rw [hx.out, ticks_step l js true x hlt, HTICK.out, HWK42.out]⟩
        · as_aux_lemma =>
            obtain rfl : k = N := by omega
            have hfin : ticks l js true x k 0 (st0 js.length) = s := by rw [hx.out, Nat.sub_self]; rfl
            obtain ⟨a2, c2, e2⟩ := own_form hM.out.t
            obtain ⟨a3, c3, e3⟩ := own_form hM.out.sw
            subst e2 e3
            have r0 := blk_cell hM.out.r 0 rfl
            have r1 := blk_cell hM.out.r 1 rfl
            have r2 := blk_cell hM.out.r 2 rfl
            have r3 := blk_cell hM.out.r 3 rfl
            have lR := blk_lt hM.out.r
            have p8 := blk_bw hM.out.bw HB8.out
            have l8 := blk_lt HB8.out
            have s0 := blk_cell p8 0 rfl
            have s1 := blk_cell p8 1 rfl
            have s2 := blk_cell p8 2 rfl
            have s3 := blk_cell p8 3 rfl
            have fr := fun j => blk_free p8 j
            have hwz := bw_trans hw2 hM.out.bw
            obtain ⟨ce, hce, hce2⟩ := hM.out.e
            have o1 : Own wr wA.heap.size 3 (some ⟨wA.heap.size, 0, none⟩) (ints s.ended) := .inr ⟨_, ce, rfl, Nat.le_refl _, hce, by rw [← hce2]; exact List.take_length⟩
            have o2 := Own.ofRow hM.out.t
            have q2 := own_le hM.out.t
            have q3 := own_le hM.out.sw
            have o3 := Own.ofRow hM.out.sw
            have hd : Dj [(some (⟨wA.heap.size, 0, none⟩ : Addr)).map (·.block), a2.map (·.block), a3.map (·.block)] := hM.out.dj.pick [1, 4, 5] (by decide) (by cases a2 <;> cases a3 <;> rfl)
            have HFIN := Lib.hid hfin
            have P8 := Lib.hid p8
            have O1 := Lib.hid o1
            have O2 := Lib.hid o2
            have O3 := Lib.hid o3
            have HD := Lib.hid hd
            have HCE := Lib.hid hce
            have HCE2 := Lib.hid hce2
            clear hfin p8 o1 o2 o3 hd hce hce2
            go_wp2
            refine bodyPost_ret (v := .tuple #[rnVal (some ⟨wA.heap.size, 0, none⟩) s.ended.length s.ended.length a2 s.trace.length c2 a3 s.switches.length c3 s.high, .bool true]) (by simp [results, Tryd.results24, go_sem, s0, s1, s2, s3, rnVal]) rfl ?_
            have hsz := hw2.size
            rw [HX.out, HFIN.out]
            exact ⟨_, _, _, _, _, _, rfl, ((((O1.out.set l8 _ _).set l8 _ _).set l8 _ _).set l8 _ _).mono hsz, ((((O2.out.set l8 _ _).set l8 _ _).set l8 _ _).set l8 _ _).mono hsz, ((((O3.out.set l8 _ _).set l8 _ _).set l8 _ _).set l8 _ _).mono hsz, HD.out, bw_set (bw_set (bw_set (bw_set hwz (by omega) _ _) (by omega) _ _) (by omega) _ _) (by omega) _ _, Nat.le_refl _, q2, q3⟩
end Go.Proofs.YtaadlgpglfpmpaaDoor