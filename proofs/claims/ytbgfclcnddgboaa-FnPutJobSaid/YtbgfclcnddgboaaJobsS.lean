/-
  The walk of spec.JobsValid: it returns what impl.JobsValid's mirror says and writes nothing that was there.
-/
import Derived.Test.YtbgfclcnddgboaaJobs
import Derived.Test.YtbgfclcnddgboaaTo
namespace Go.Proofs.Ytbgfclcnddgboaa
open Go.RowKit

/-- When the last job of a task came; -20 where none did. -/
def lastAt (x : Int) : List Jb → Int
  | [] => -20
  | u :: l => let r := lastAt x l; if l.any (fun v => decide (v.task = x)) then r else if u.task = x then u.at_ else -20
theorem lastAt_snoc (x : Int) (l : List Jb) (j : Jb) : lastAt x (l ++ [j]) = if j.task = x then j.at_ else lastAt x l := by
  induction l with
  | nil => simp [lastAt]
  | cons u l ih =>
    simp only [List.cons_append, lastAt, ih, List.any_append, List.any_cons, List.any_nil, Bool.or_false]
    by_cases h : j.task = x
    · simp [h]
    · simp [h]
theorem lastAt_none (x : Int) (l : List Jb) (h : l.any (fun v => decide (v.task = x)) = false) : lastAt x l = -20 := by
  induction l with
  | nil => rfl
  | cons u l ih =>
    simp only [List.any_cons, Bool.or_eq_false_iff, decide_eq_false_iff_not] at h
    simp [lastAt, h.1, h.2]
/-- The jobs done came one after the other. -/
def Rising : List Jb → Prop
  | [] => True
  | u :: l => (∀ v ∈ l, u.at_ ≤ v.at_) ∧ Rising l
theorem rising_snoc (l : List Jb) (j : Jb) : Rising (l ++ [j]) ↔ Rising l ∧ ∀ u ∈ l, u.at_ ≤ j.at_ := by
  induction l with
  | nil => simp [Rising]
  | cons u l ih =>
    simp only [List.cons_append, Rising, ih, List.mem_append, List.mem_cons, List.not_mem_nil, or_false]
    constructor
    · rintro ⟨h1, h2, h3⟩
      refine ⟨⟨fun v hv => h1 v (.inl hv), h2⟩, fun v hv => ?_⟩
      rcases hv with rfl | hv
      · exact h1 j (.inr rfl)
      · exact h3 v hv
    · rintro ⟨⟨h1, h2⟩, h3⟩
      refine ⟨fun v hv => ?_, h2, fun v hv => h3 v (.inr hv)⟩
      rcases hv with hv | rfl
      · exact h1 v hv
      · exact h3 u (.inl rfl)
/-- Of all jobs done the last one of the task decides. -/
theorem clash_last (ev : Int) (j : Jb) (h0 : 0 ≤ j.at_) (h20 : ev ≤ 20) (l : List Jb) (hr : Rising l) : (l.all fun u => !clash ev j u) = !decide (j.at_ - lastAt j.task l < ev) := by
  induction l with
  | nil => simp [lastAt]; omega
  | cons u l ih =>
    simp only [List.all_cons, ih hr.2]
    by_cases ha : l.any (fun v => decide (v.task = j.task)) = true
    · have hl : lastAt j.task (u :: l) = lastAt j.task l := by simp [lastAt, ha]
      rw [hl]
      by_cases hc : j.at_ - lastAt j.task l < ev
      · simp [hc]
      · have hu : u.at_ ≤ lastAt j.task l := by
          clear ih hl hc
          have h1 := hr.1
          clear hr
          induction l with
          | nil => simp at ha
          | cons v l ih2 =>
            by_cases hb : l.any (fun v => decide (v.task = j.task)) = true
            · have : lastAt j.task (v :: l) = lastAt j.task l := by simp [lastAt, hb]
              rw [this]; exact ih2 hb (fun q hq => h1 q (List.mem_cons_of_mem _ hq))
            · have hb' : l.any (fun v => decide (v.task = j.task)) = false := by simpa using hb
              have hv : v.task = j.task := by
                rw [List.any_cons, hb', Bool.or_false] at ha; simpa using ha
              have : lastAt j.task (v :: l) = v.at_ := by simp [lastAt, hb', hv]
              rw [this]; exact h1 v (List.mem_cons_self ..)
        simp [hc, clash]; omega
    · have ha' : l.any (fun v => decide (v.task = j.task)) = false := by simpa using ha
      rw [lastAt_none _ _ ha']
      have e1 : (!decide (j.at_ - (-20) < ev)) = true := by simp; omega
      rw [e1, Bool.and_true]
      by_cases hu : u.task = j.task
      · simp [lastAt, ha', hu, clash]
      · simp [lastAt, ha', hu, clash]; omega

theorem before_last (p j : Jb) : (!ordBad p j) = jbBefore p.task p.at_ j.task j.at_ := by
  unfold ordBad jbBefore
  rw [Bool.eq_iff_iff]; simp; omega

theorem lastAt_bd (x : Int) (l : List Jb) (h : ∀ u ∈ l, 0 ≤ u.at_ ∧ u.at_ ≤ 200) : -20 ≤ lastAt x l ∧ lastAt x l ≤ 200 := by
  induction l with
  | nil => simp [lastAt]
  | cons u l ih =>
    have h1 := h u (List.mem_cons_self ..)
    have h2 := ih fun v hv => h v (List.mem_cons_of_mem _ hv)
    simp only [lastAt]
    split
    · exact h2
    · split <;> omega
theorem rising_next {l : List Jb} {j : Jb} (h : Rising l) (hb : lastBad l j = false) : Rising (l ++ [j]) := by
  rw [rising_snoc]
  refine ⟨h, fun u hu => ?_⟩
  rcases List.eq_nil_or_concat l with rfl | ⟨i, p, rfl⟩
  · cases hu
  · simp [lastBad, ordBad] at hb
    rw [List.concat_eq_append] at h hu
    rw [rising_snoc] at h
    rcases List.mem_append.1 hu with hu | hu
    · have := h.2 u hu; omega
    · simp at hu; subst hu; exact hb.1

set_option maxRecDepth 100000 in
set_option maxHeartbeats 6000000 in
theorem JobsValid_spec (ao bo : Option Addr) (c d : Nat) (w : World) (l : List Tk) (js : List Jb) (hl : l.length ≤ 1048576) (hj : js.length ≤ 1048576) (hr : RT w ao l) (hs : RJ w bo js) :
    Calls Try.prog 50 #[.slice ao l.length c, .slice bo js.length d] w fun r w' => r = .returned (.bool (jobsOk l js)) ∧ Bw w w' := by
  have HR := Lib.hid hr
  have HS := Lib.hid hs
  clear hr hs
  go_enter Try.func50, Try.ntmps50
  go_wp2_with fail
  refine (spec.SetValid_walk _ _ _ l hl HR.out).mono ?_
  obtain ⟨q, HQ⟩ : ∃ q, Hid (setOk l = q) := ⟨_, rfl⟩
  rw [HQ.out]
  rintro e w1 ⟨rfl, hb1⟩
  cases q with
  | false =>
    go_wp2
    go_ret
    exact ⟨ret_b (by rw [jobsOk, HQ.out, Bool.false_and]), hb1⟩
  | true =>
    by_cases h60 : js.length ≤ 60
    · have hx0 : jobsOk l js = jvFrom l [] js := by rw [jobsOk, HQ.out, Bool.true_and, decide_eq_true h60, Bool.true_and]
      have hl5 := setOk_len HQ.out
      have hmk := mkInt l.length (by omega)
      have HX0 := Lib.hid hx0
      clear hx0
      go_wp2
      clear hmk
      go_loopw [6] (fun i wr => ∃ (k : Nat) (cur : Array Value), k ≤ l.length ∧ i = .int .i64 k ∧ Hid (wr.heap[w1.heap.size]? = some (.cells cur 3 (0, 0))) ∧ Hid (cur.size = l.length) ∧ Hid (cur.toList.take k = ints (List.replicate k (-20))) ∧ Bw w1 wr) (fun i _ => l.length - (intOf i).toNat)
      case atStart => exact ⟨0, _, Nat.zero_le _, rfl, heap_alloc_new w1 _, by simp [Hid, madeCells], by simp [Hid, ints], bw_alloc _ _⟩
      case round =>
        obtain ⟨k, cur, hk, rfl, HB, HC, hx, hbw⟩ := hrel
        by_cases hlt : k < l.length
        · have hk2 : k < cur.size := by rw [HC.out]; exact hlt
          have hold := blk_cell HB.out k (v := cur[k]) (by simp [hk2])
          have hfree := blk_free HB.out k
          obtain ⟨vo, HVO⟩ : ∃ v, Hid (cur[k] = v) := ⟨cur[k], rfl⟩
          rw [HVO.out] at hold
          go_wp2
          go_roundw
          case rel => exact ⟨k + 1, cur.setIfInBounds k (vi (-20)), by omega, by go_num, blk_set HB.out k _, by show _ = _; simp [HC.out], by
              show _ = _
              rw [fill_one hx.out hk2, List.replicate_succ', ints_append]; rfl, bw_set hbw (Nat.le_refl _) _ _⟩
          case measure => simp [intOf]; omega
        · have hcu : cur.toList = ints (List.replicate l.length (-20)) := by
            have := hx.out
            have hkl : k = l.length := by omega
            rw [List.take_of_length_le (by simp [HC.out]; omega), hkl] at this
            exact this
          have HCU := Lib.hid hcu
          clear hcu
          obtain ⟨wo, rfl⟩ : ∃ wo : World, wo = wr := ⟨_, rfl⟩
          go_wp2
          go_loopw [7] (fun i wr => ∃ (k : Nat) (cu : Array Value), k ≤ js.length ∧ i = .int .i64 k ∧ Hid (jobsOk l js = jvFrom l (js.take k) (js.drop k)) ∧ Hid (∀ x ∈ js.take k, 0 ≤ x.at_ ∧ x.at_ ≤ 200) ∧ Hid (Rising (js.take k)) ∧ Hid (wr.heap[w1.heap.size]? = some (.cells cu 3 (0, 0))) ∧ Hid (cu.size = l.length ∧ ∀ i, i < l.length → cu[i]? = some (vi (lastAt i (js.take k)))) ∧ Bw w1 wr) (fun i _ => js.length - (intOf i).toNat)
          case atStart => exact ⟨0, cur, Nat.zero_le _, rfl, HX0.out, by intro x hx; simp at hx, trivial, HB.out, ⟨HC.out, fun i hi => by
              rw [← Array.getElem?_toList, HCU.out]; simp [ints, lastAt, hi]⟩, hbw⟩
          case round =>
            clear hbw hk hlt
            obtain ⟨k, cu, hk, rfl, hx, hin, hri, HB2, hc2, hbw⟩ := hrel
            obtain ⟨wv, rfl⟩ : ∃ wv : World, wv = wr := ⟨_, rfl⟩
            have hwk := bw_trans hb1 hbw
            by_cases hlt : k < js.length
            · obtain ⟨⟨x, y, z⟩, b, off, hjk, hbo, hbs, c0, c1, c2⟩ := HS.out.get hwk hlt
              dsimp only at c0 c1 c2
              have HJK := Lib.hid hjk
              clear hjk
              subst hbo
              have hst : jvFrom l (js.take k) (js.drop k) = (jobIn l ⟨x, y, z⟩ && (((js.take k).all fun u => !clash (evAt l ⟨x, y, z⟩) ⟨x, y, z⟩ u) && (!lastBad (js.take k) ⟨x, y, z⟩ && jvFrom l (js.take (k + 1)) (js.drop (k + 1))))) := by
                rw [drop_cons HJK.out, take_snoc HJK.out]; rfl
              have HST := Lib.hid hst
              clear hst
              obtain ⟨q, HJ⟩ : ∃ q, Hid (l6In l ⟨x, y, z⟩ = q) := ⟨_, rfl⟩
              have HJI : Hid (jobIn l ⟨x, y, z⟩ = q) := by show _ = _; rw [jobIn, HQ.out, Bool.true_and, HJ.out]
              have hpc := fun (W : World) (hW : Bw w W) => l6Job_any ao c W l x y z hl (HR.out.bw hW)
              simp only [HJ.out] at hpc
              have HPC := Lib.hid hpc
              clear hpc
              cases q with
              | false =>
                have b0 := fun d os => cell_regrown (w := wv.alloc (.cells #[.int .i64 x, .int .i64 y, .int .i64 z] 26)) (a := ⟨wv.heap.size, 0, none⟩) (v := .int .i64 x) (by simp) d os
                have b1 := fun d os => cell_regrown (w := wv.alloc (.cells #[.int .i64 x, .int .i64 y, .int .i64 z] 26)) (a := ⟨wv.heap.size, 1, none⟩) (v := .int .i64 y) (by simp) d os
                have b2 := fun d os => cell_regrown (w := wv.alloc (.cells #[.int .i64 x, .int .i64 y, .int .i64 z] 26)) (a := ⟨wv.heap.size, 2, none⟩) (v := .int .i64 z) (by simp) d os
                go_wp2_with fail
                refine wp_region_quiet_below (by kernel_rfl) (by kernel_rfl) ?_
                repeat (go_big_quiet_step ((go_at_call 80; exact Calls.regrown_of (HPC.out _ (bw_trans (bw_trans hwk (bw_alloc _ _)) (below_regrown _ _ _))))))
                refine wpQuiet_nil ?_
                intro wq hw'
                have hbq := bw_of_ex hw'
                clear hw'
                go_wp2
                go_ret
                exact ⟨ret_b (by rw [hx.out, HST.out, HJI.out, Bool.false_and]), bw_trans (bw_trans hwk (bw_alloc _ _)) hbq⟩
              | true =>
                obtain ⟨hso, ht0, htl, ha0, ha1, hn1, t, htk, hnh⟩ := jobIn_spec HJI.out
                dsimp only at ht0 htl ha0 ha1 hn1 htk hnh
                obtain ⟨x, rfl⟩ : ∃ n : Nat, x = (n : Int) := ⟨x.toNat, by omega⟩
                have hev : evAt l ⟨(x : Int), y, z⟩ = t.every := by simp [evAt] at htk ⊢; rw [htk]
                have hx' : x < l.length := by omega
                have htk' : l[x]? = some t := by simpa using htk
                obtain ⟨t', b2, off2, htk2, hao2, hbs2, _, _, _, r3, _⟩ := HR.out.get hwk hx'
                have htt : t' = t := by rw [htk'] at htk2; simpa using htk2.symm
                subst htt
                have hte : 1 ≤ t'.every ∧ t'.every ≤ 20 := by have := (Tk.ok_iff _).1 (setOk_at hso htk'); omega
                obtain ⟨te1, te2⟩ := hte
                subst hao2
                obtain ⟨hL0, hL1⟩ := lastAt_bd (x : Int) _ hin.out
                have hcl := clash_last t'.every ⟨x, y, z⟩ ha0 te2 _ hri.out
                rw [← hev] at hcl
                dsimp only at hcl
                have cl := blk_cell HB2.out x (hc2.out.2 x hx')
                obtain ⟨L, HLA⟩ : ∃ L, Hid (lastAt (x : Int) (js.take k) = L) := ⟨_, rfl⟩
                rw [HLA.out] at hL0 hL1 hcl cl
                rw [hev] at hcl
                have hw := IntWalk.i64_in (y - L) (by omega)
                have hin2 : ∀ u ∈ js.take (k + 1), 0 ≤ u.at_ ∧ u.at_ ≤ 200 := by
                  intro u hu
                  rw [take_snoc HJK.out, List.mem_append] at hu
                  rcases hu with hu | hu
                  · exact hin.out u hu
                  · simp at hu; subst hu; exact ⟨ha0, ha1⟩
                have hri2 : lastBad (js.take k) ⟨x, y, z⟩ = false → Rising (js.take (k + 1)) := by
                  intro h; rw [take_snoc HJK.out]; exact rising_next hri.out h
                have hcu2 : (cu.setIfInBounds x (vi y)).size = l.length ∧ ∀ i, i < l.length → (cu.setIfInBounds x (vi y))[i]? = some (vi (lastAt i (js.take (k + 1)))) := by
                  refine ⟨by simp [hc2.out.1], fun i hi => ?_⟩
                  rw [take_snoc HJK.out, lastAt_snoc]
                  dsimp only
                  by_cases hxi : x = i
                  · subst hxi
                    rw [if_pos rfl, Array.getElem?_setIfInBounds_self_of_lt (by rw [hc2.out.1]; exact hi)]
                  · rw [if_neg (by omega), Array.getElem?_setIfInBounds_ne hxi]; exact hc2.out.2 i hi
                have HTK := Lib.hid htk
                have HEV := Lib.hid hev
                have HTK' := Lib.hid htk'
                have HTK2 := Lib.hid htk2
                have HSO := Lib.hid hso
                have HNH := Lib.hid hnh
                have HCL := Lib.hid hcl
                have HIN2 := Lib.hid hin2
                have HRI2 := Lib.hid hri2
                have HCU2 := Lib.hid hcu2
                clear htk hev htk' htk2 hso hnh hcl hin2 hri2 hcu2
                clear c0 c1 c2
                obtain ⟨⟨_, _, _⟩, _, _, hjk2, hbo2, _, c0, c1, c2⟩ := HS.out.get hwk hlt
                simp only [Option.some.injEq, Addr.mk.injEq, and_true] at hbo2
                obtain ⟨rfl, rfl⟩ := hbo2
                rw [HJK.out] at hjk2
                simp only [Option.some.injEq, Jb.mk.injEq] at hjk2
                obtain ⟨rfl, rfl, rfl⟩ := hjk2
                dsimp only at c0 c1 c2
                have b0 := fun d os => cell_regrown (w := wv.alloc (.cells #[.int .i64 x, .int .i64 y, .int .i64 z] 26)) (a := ⟨wv.heap.size, 0, none⟩) (v := .int .i64 x) (by simp) d os
                have b1 := fun d os => cell_regrown (w := wv.alloc (.cells #[.int .i64 x, .int .i64 y, .int .i64 z] 26)) (a := ⟨wv.heap.size, 1, none⟩) (v := .int .i64 y) (by simp) d os
                have b2 := fun d os => cell_regrown (w := wv.alloc (.cells #[.int .i64 x, .int .i64 y, .int .i64 z] 26)) (a := ⟨wv.heap.size, 2, none⟩) (v := .int .i64 z) (by simp) d os
                have nl := fun d os => cell_regrown (cell_bw (bw_alloc wv (.cells #[.int .i64 x, .int .i64 y, .int .i64 z] 26)) cl) d os
                have nr := fun d os => cell_regrown (cell_bw (bw_alloc wv (.cells #[.int .i64 x, .int .i64 y, .int .i64 z] 26)) r3) d os
                clear cl r3
                have HALL : Hid (t'.every ≤ y - L → ((js.take k).all fun u => !clash (evAt l ⟨x, y, z⟩) ⟨x, y, z⟩ u) = true) := by
                  intro h; rw [HEV.out, HCL.out]; simp; omega
                have HX2' : Hid (t'.every ≤ y - L → jobsOk l js = (!lastBad (js.take k) ⟨x, y, z⟩ && jvFrom l (js.take (k + 1)) (js.drop (k + 1)))) := by
                  intro h; rw [hx.out, HST.out, HJI.out, HALL.out h, Bool.true_and, Bool.true_and]
                have HXN : Hid (y - L < t'.every → jobsOk l js = false) := by
                  intro h; rw [hx.out, HST.out, HJI.out, HEV.out, HCL.out]; simp; omega
                have HXM : Hid (lastBad (js.take k) ⟨x, y, z⟩ = true → jobsOk l js = false) := by
                  intro h; rw [hx.out, HST.out, HJI.out, h]; simp
                rcases Nat.eq_zero_or_pos k with hk0 | hk0
                · subst hk0
                  simp only [Nat.zero_mul, Nat.add_zero] at c0 c1 c2
                  have HLB : Hid (lastBad (js.take 0) ⟨x, y, z⟩ = false) := by simp [Hid, lastBad]
                  by_cases hlt2 : y - L < t'.every
                  · go_wp2_with fail
                    refine wp_region_quiet_below (by kernel_rfl) (by kernel_rfl) ?_
                    repeat (go_big_quiet_step ((go_at_call 80; exact Calls.regrown_of (HPC.out _ (bw_trans (bw_trans hwk (bw_alloc _ _)) (below_regrown _ _ _))))))
                    refine wpQuiet_nil ?_
                    intro wq hw'
                    have hbq := bw_of_ex hw'
                    clear hw'
                    go_wp2
                    go_ret
                    exact ⟨ret_b (HXN.out hlt2).symm, bw_trans (bw_trans hwk (bw_alloc _ _)) hbq⟩
                  · have hdl : decide (y - L < t'.every) = false := by simp; omega
                    have HX2 := Lib.hid (HX2'.out (by omega))
                    go_wp2_with fail
                    refine wp_region_quiet_below (by kernel_rfl) (by kernel_rfl) ?_
                    repeat (go_big_quiet_step ((go_at_call 80; exact Calls.regrown_of (HPC.out _ (bw_trans (bw_trans hwk (bw_alloc _ _)) (below_regrown _ _ _))))))
                    refine wpQuiet_nil ?_
                    intro wq hw'
                    have hbq := bw_of_ex hw'
                    clear hw'
                    have d0 := cell_bw hbq (b := wv.heap.size) (o := 0) (v := .int .i64 x) (by simp)
                    have d1 := cell_bw hbq (b := wv.heap.size) (o := 1) (v := .int .i64 y) (by simp)
                    have HB3 := Lib.hid (blk_bw (bw_trans (bw_alloc _ _) hbq) HB2.out)
                    have hfree := blk_free HB3.out x
                    have hold := blk_cell HB3.out x (hc2.out.2 x hx')
                    have hlw : w1.heap.size < wq.heap.size := blk_lt HB3.out
                    clear b0 b1 b2
                    have HBQ := Lib.hid hbq
                    clear hbq
                    go_wp2
                    go_roundw
                    case rel => exact ⟨0 + 1, cu.setIfInBounds x (vi y), by omega, by go_num, by show _ = _; rw [HX2.out, HLB.out]; rfl, HIN2.out, (HRI2.out HLB.out), blk_set HB3.out x _, HCU2.out, bw_set (bw_trans (bw_trans hbw (bw_alloc _ _)) HBQ.out) (Nat.le_refl _) _ _⟩
                    case measure => simp [intOf]; omega
                · obtain ⟨k, rfl⟩ : ∃ n, k = n + 1 := ⟨k - 1, by omega⟩
                  obtain ⟨⟨px, py, pz⟩, b', off', hjp, hbo', hbs', p0, p1, p2⟩ := HS.out.get hwk (k := k) (by omega)
                  simp only [Option.some.injEq, Addr.mk.injEq, and_true] at hbo'
                  obtain ⟨rfl, rfl⟩ := hbo'
                  dsimp only at p0 p1 p2
                  have hlb : (!lastBad (js.take (k + 1)) ⟨x, y, z⟩) = jbBefore px py x y := by
                    rw [take_snoc hjp, ← before_last ⟨px, py, pz⟩ ⟨x, y, z⟩]; simp [lastBad]
                  have HJP := Lib.hid hjp
                  have HLB := Lib.hid hlb
                  clear hjp hlb
                  have m0 := fun d os => cell_regrown (cell_bw (bw_alloc wv (.cells #[.int .i64 x, .int .i64 y, .int .i64 z] 26)) p0) d os
                  have m1 := fun d os => cell_regrown (cell_bw (bw_alloc wv (.cells #[.int .i64 x, .int .i64 y, .int .i64 z] 26)) p1) d os
                  have m2 := fun d os => cell_regrown (cell_bw (bw_alloc wv (.cells #[.int .i64 x, .int .i64 y, .int .i64 z] 26)) p2) d os
                  clear p0 p1 p2
                  obtain ⟨g, HG⟩ : ∃ g, Hid (jbBefore px py x y = g) := ⟨_, rfl⟩
                  have HLB0 : Hid (lastBad (js.take (k + 1)) ⟨x, y, z⟩ = !g) := by show _ = _; rw [← HG.out, ← HLB.out, Bool.not_not]
                  have hbc := fun (W : World) => l6Before_any px py pz x y z W
                  simp only [HG.out] at hbc
                  have HBC := Lib.hid hbc
                  clear hbc
                  cases g with
                  | false =>
                    go_wp2_with fail
                    refine wp_region_quiet_below (by kernel_rfl) (by kernel_rfl) ?_
                    repeat (go_big_quiet_step ((first | (go_at_call 80; exact Calls.regrown_of (HPC.out _ (bw_trans (bw_trans hwk (bw_alloc _ _)) (below_regrown _ _ _)))) | (go_at_call 51; exact Calls.regrown_of (HBC.out _)))))
                    refine wpQuiet_nil ?_
                    intro wq hw'
                    have hbq := bw_of_ex hw'
                    clear hw'
                    go_wp2
                    go_ret
                    exact ⟨ret_b (HXM.out HLB0.out).symm, bw_trans (bw_trans hwk (bw_alloc _ _)) hbq⟩
                  | true =>
                    clear HLB
                    have HLB : Hid (lastBad (js.take (k + 1)) ⟨x, y, z⟩ = false) := HLB0
                    by_cases hlt2 : y - L < t'.every
                    · go_wp2_with fail
                      refine wp_region_quiet_below (by kernel_rfl) (by kernel_rfl) ?_
                      repeat (go_big_quiet_step ((first | (go_at_call 80; exact Calls.regrown_of (HPC.out _ (bw_trans (bw_trans hwk (bw_alloc _ _)) (below_regrown _ _ _)))) | (go_at_call 51; exact Calls.regrown_of (HBC.out _)))))
                      refine wpQuiet_nil ?_
                      intro wq hw'
                      have hbq := bw_of_ex hw'
                      clear hw'
                      go_wp2
                      go_ret
                      exact ⟨ret_b (HXN.out hlt2).symm, bw_trans (bw_trans hwk (bw_alloc _ _)) hbq⟩
                    · have hdl : decide (y - L < t'.every) = false := by simp; omega
                      have HX2 := Lib.hid (HX2'.out (by omega))
                      go_wp2_with fail
                      refine wp_region_quiet_below (by kernel_rfl) (by kernel_rfl) ?_
                      repeat (go_big_quiet_step ((first | (go_at_call 80; exact Calls.regrown_of (HPC.out _ (bw_trans (bw_trans hwk (bw_alloc _ _)) (below_regrown _ _ _)))) | (go_at_call 51; exact Calls.regrown_of (HBC.out _)))))
                      refine wpQuiet_nil ?_
                      intro wq hw'
                      have hbq := bw_of_ex hw'
                      clear hw'
                      have d0 := cell_bw hbq (b := wv.heap.size) (o := 0) (v := .int .i64 x) (by simp)
                      have d1 := cell_bw hbq (b := wv.heap.size) (o := 1) (v := .int .i64 y) (by simp)
                      have HB3 := Lib.hid (blk_bw (bw_trans (bw_alloc _ _) hbq) HB2.out)
                      have hfree := blk_free HB3.out x
                      have hold := blk_cell HB3.out x (hc2.out.2 x hx')
                      have hlw : w1.heap.size < wq.heap.size := blk_lt HB3.out
                      clear b0 b1 b2
                      have HBQ := Lib.hid hbq
                      clear hbq
                      go_wp2
                      go_roundw
                      case rel => exact ⟨k + 1 + 1, cu.setIfInBounds x (vi y), by omega, by go_num, by show _ = _; rw [HX2.out, HLB.out]; rfl, HIN2.out, (HRI2.out HLB.out), blk_set HB3.out x _, HCU2.out, bw_set (bw_trans (bw_trans hbw (bw_alloc _ _)) HBQ.out) (Nat.le_refl _) _ _⟩
                      case measure => simp [intOf]; omega
            · have HD : Hid (true = jobsOk l js) := by show _ = _; rw [hx.out, drop_end hlt]; rfl
              go_wp2
              go_ret
              exact ⟨ret_b HD.out, hwk⟩
    · have HD : Hid (false = jobsOk l js) := by show _ = _; rw [jobsOk, decide_eq_false h60, Bool.false_and, Bool.and_false]
      go_wp2
      go_ret
      exact ⟨ret_b HD.out, hb1⟩
end Go.Proofs.Ytbgfclcnddgboaa
