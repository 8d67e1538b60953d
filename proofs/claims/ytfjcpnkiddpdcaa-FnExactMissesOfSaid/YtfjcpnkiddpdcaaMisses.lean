/-
  The walks of DueAt (impl) and of MissesOf. Lengths at most 2^20.
-/
import Derived.Test.YtfjcpnkiddpdcaaHigh
namespace Go.Proofs.Ytfjcpnkiddpdcaa
open Go.RowKit

def dueV (l : List Tk) (j : Jb) : Int := if jobIn l j then match l[j.task.toNat]? with
  | some t => j.at_ + t.due
  | none => 0
  else 0

set_option maxRecDepth 100000 in
set_option maxHeartbeats 1600000 in
theorem DueAt_impl (ao : Option Addr) (c : Nat) (w : World) (l : List Tk) (x y z : Int) (hl : l.length ≤ 1048576) (hr : RT w ao l) :
    Calls Try.prog 74 #[.slice ao l.length c, .agg #[.int .i64 x, .int .i64 y, .int .i64 z]] w fun r w' => r = .returned (.tuple #[.int .i64 (dueV l ⟨x, y, z⟩), .bool (jobIn l ⟨x, y, z⟩)]) ∧ Bw w w' := by
  have HR := Lib.hid hr
  clear hr
  go_enter Try.func74, Try.ntmps74
  go_wp2_with fail
  refine (jobOf_any _ _ _ l _ _ _ hl (HR.out.bw (bw_alloc _ _))).mono ?_
  obtain ⟨q, HQ⟩ : ∃ q, Hid (jobIn l ⟨x, y, z⟩ = q) := ⟨_, rfl⟩
  rw [HQ.out]
  rintro e w1 ⟨rfl, hb1⟩
  have hw1 := bw_trans (bw_alloc _ _) hb1
  cases q with
  | false =>
    have hd : dueV l ⟨x, y, z⟩ = 0 := by rw [dueV, HQ.out]; rfl
    have HD := Lib.hid hd
    clear hd
    go_wp2
    go_ret2
    exact ⟨by rw [HD.out, HQ.out]; rfl, hw1⟩
  | true =>
    obtain ⟨hso, ht0, htl, ha0, ha1, hn1, t, htk, hnh⟩ := jobIn_spec HQ.out
    dsimp only at ht0 htl ha0 ha1 hn1 htk hnh
    obtain ⟨x, rfl⟩ : ∃ n : Nat, x = (n : Int) := ⟨x.toNat, by omega⟩
    have hx' : x < l.length := by omega
    have htk' : l[x]? = some t := by simpa using htk
    obtain ⟨t', b2, off2, htk2, hao2, hbs2, _, _, r2, _, _⟩ := HR.out.get hw1 hx'
    have htt : t' = t := by rw [htk'] at htk2; simpa using htk2.symm
    subst htt
    have hok := (Tk.ok_iff _).1 (setOk_at hso htk')
    have hdv : dueV l ⟨(x : Int), y, z⟩ = y + t'.due := by rw [dueV, HQ.out]; dsimp only; rw [htk]; rfl
    have hwr := IntWalk.i64_in (y + t'.due) (by omega)
    subst hao2
    have B := Lib.hid (box_last hb1)
    have c0 := blk_cell B.out 0 rfl
    have c1 := blk_cell B.out 1 rfl
    have HTK := Lib.hid htk
    have HTK' := Lib.hid htk'
    have HTK2 := Lib.hid htk2
    have HOK := Lib.hid hok
    have HDV := Lib.hid hdv
    have HSO := Lib.hid hso
    have HNH := Lib.hid hnh
    clear htk htk' htk2 hok hdv hso hnh
    go_wp2_with fail
    go_quiet (fail)
    go_wp2
    go_ret2
    exact ⟨by rw [HDV.out, HQ.out]; rfl, blw_drewN hw1 _⟩

def missP (l : List Tk) (js : List Jb) (es : List Int) (n : Nat) (i : Nat) : Bool := match js[i]? with
  | some j => match es[i]? with
    | some e => decide (dueV l j < e ∨ (e = -1 ∧ dueV l j ≤ n))
    | none => false
  | none => false
def misses (l : List Tk) (js : List Jb) (es : List Int) (n : Nat) : List Int := if jobsOk l js = true ∧ es.length = js.length then pickFrom (missP l js es n) js.length 0 else []
theorem misses_len (l : List Tk) (js : List Jb) (es : List Int) (n : Nat) : (misses l js es n).length ≤ js.length := by
  unfold misses
  split
  · exact pick_len _ _ _
  · simp

set_option maxRecDepth 100000 in
set_option maxHeartbeats 3200000 in
theorem misses_impl {w : World} {v u s : Value} {l : List Tk} {js : List Jb} {r : Rn} (hl : ST w v l) (hj : SJ w u js) (hr : RR w s r) : Calls Try.prog 56 #[v, u, s] w (RS w 3 (ints (misses l js r.ended r.trace.length)) (misses l js r.ended r.trace.length).length) := by
  obtain ⟨⟨ao, c, rfl, hlr, _⟩, hn⟩ := hl
  obtain ⟨⟨bo, d, rfl, hjs, hd⟩, hm⟩ := hj
  obtain ⟨⟨a1, c1, a2, c2, a3, c3, rfl, h1, h2, h3⟩, n1, n2, n3, ng⟩ := hr
  obtain ⟨i0, hi0, hz0, hz1, hz2⟩ := info_parts infoInt
  clear h2 h3 n1 n3
  have ng1 := ng.1
  have HLR := Lib.hid hlr
  have HJS := Lib.hid hjs
  have H1 := Lib.hid h1
  have NG1 := Lib.hid ng1
  clear hlr hjs h1 ng1
  clear ng
  suffices hS : Calls Try.prog 56 #[.slice ao l.length c, .slice bo js.length d, .agg #[.slice a1 r.ended.length c1, .slice a2 r.trace.length c2, .slice a3 r.switches.length c3, .bool r.high]] w (Ret w 3 1 (ints (misses l js r.ended r.trace.length)) (misses l js r.ended r.trace.length).length) from hS.mono fun _ _ h => h.rs
  go_enter Try.func56, Try.ntmps56
  go_wp2_with fail
  refine (JobsValid_impl _ _ _ _ _ l js hn hm hd (HLR.out.bw (bw_alloc _ _)) (HJS.out.bw (bw_alloc _ _))).mono ?_
  obtain ⟨q, HQ⟩ : ∃ q, Hid (jobsOk l js = q) := ⟨_, rfl⟩
  rw [HQ.out]
  rintro e w1 ⟨rfl, hb1⟩
  have hw1 := bw_trans (bw_alloc _ _) hb1
  have B := Lib.hid (box_last hb1)
  have p0 := blk_cell B.out 0 rfl
  have hbl : w.heap.size < w1.heap.size := blk_lt B.out
  cases q with
  | false =>
    have hf : misses l js r.ended r.trace.length = [] := by rw [misses, if_neg]; rw [HQ.out]; simp
    have HF := Lib.hid hf
    clear hf
    go_wp2
    go_ret
    exact ⟨none, 0, by rw [HF.out]; rfl, by rw [HF.out]; exact World.ownsRow_nil _ _ _ _, hw1⟩
  | true =>
    by_cases hle : r.ended.length = js.length
    · have hx0 : misses l js r.ended r.trace.length = pickFrom (missP l js r.ended r.trace.length) (js.length - 0) 0 := by rw [misses, if_pos ⟨HQ.out, hle⟩]; rfl
      have hq : ((r.ended.length : Int) != (js.length : Int)) = false := by simp [hle]
      have HX0 := Lib.hid hx0
      have HLE := Lib.hid hle
      clear hx0 hle
      have hbz := hw1.size
      go_wp2
      go_loopw [7, 27] (fun u i wr => ∃ (k : Nat) (q : List Int), k ≤ js.length ∧ i = .int .i64 k ∧ wr.ownsRow (w.heap.size + 1) 3 1 u q.length (ints q) ∧ q.length ≤ k ∧ Hid (misses l js r.ended r.trace.length = q ++ pickFrom (missP l js r.ended r.trace.length) (js.length - k) k) ∧ Bw w wr ∧ Hid (wr.heap[w.heap.size]? = some (.cells #[.slice a1 r.ended.length c1, .slice a2 r.trace.length c2, .slice a3 r.switches.length c3, .bool r.high] 27 (0, 0)))) (fun _ i _ => js.length - (intOf i).toNat)
      case atStart => exact ⟨0, [], Nat.zero_le _, rfl, by simpa [ints] using World.ownsRow_made (base := w.heap.size + 1) w1 #[] 0 (by omega) (by simp) rfl, Nat.le_refl _, HX0.out, bw_trans hw1 (bw_alloc _ _), blk_bw (bw_alloc _ _) B.out⟩
      case round =>
        clear p0 hbl
        obtain ⟨k, q, hk, rfl, hown, hq, hx, hbw, hbox⟩ := hrel
        by_cases hlt : k < js.length
        · have hlt2 : k < r.ended.length := by rw [HLE.out]; exact hlt
          obtain ⟨⟨x, y, z⟩, b, off, hjk, hbo, hbs, c0, c1', c2'⟩ := HJS.out.get hbw hlt
          dsimp only at c0 c1' c2'
          have HJK := Lib.hid hjk
          clear hjk
          subst hbo
          have hbr : w.heap.size < wr.heap.size := blk_lt hbox.out
          go_wp2_with fail
          refine (DueAt_impl _ _ _ l x y z hn (HLR.out.bw (bw_trans hbw (bw_alloc _ _)))).mono ?_
          obtain ⟨D, HD⟩ : ∃ D, Hid (dueV l ⟨x, y, z⟩ = D) := ⟨_, rfl⟩
          rw [HD.out]
          rintro e w2 ⟨rfl, hb2⟩
          have hs2 := bw_trans (bw_alloc wr (.cells #[.int .i64 x, .int .i64 y, .int .i64 z] 63)) hb2
          have hw2 := bw_trans hbw hs2
          clear c0 c1' c2'
          obtain ⟨ee, b2, off2, hek, ha1, hbs2, d0⟩ := H1.out.get hw2 hlt2
          subst ha1
          have hown1 := row_bw hown hs2
          have hbox1 := Lib.hid (blk_bw hs2 hbox.out)
          have p0 := blk_cell hbox1.out 0 rfl
          have p1 := blk_cell hbox1.out 1 rfl
          have hbl : w.heap.size < w2.heap.size := blk_lt hbox1.out
          have hz := hw2.size
          have hpk : missP l js r.ended r.trace.length k = decide (D < ee ∨ (ee = -1 ∧ D ≤ r.trace.length)) := by rw [missP, HJK.out]; dsimp only; rw [hek]; dsimp only; rw [HD.out]
          have hstep := pick_step (missP l js r.ended r.trace.length) hlt
          rw [hpk] at hstep
          clear hown hbox hb2 hs2 hbr
          have HEK := Lib.hid hek
          have HPK := Lib.hid hpk
          have HSTEP := Lib.hid hstep
          clear hek hpk hstep
          by_cases h1 : D < ee
          · have hst2 : misses l js r.ended r.trace.length = (q ++ [(k : Int)]) ++ pickFrom (missP l js r.ended r.trace.length) (js.length - (k + 1)) (k + 1) := by rw [hx.out, HSTEP.out, if_pos (decide_eq_true (.inl h1))]; simp
            have HST2 := Lib.hid hst2
            clear hst2
            go_wp2_with (at_builtin; refine wpList_append_own _ rfl _ _ 22 rfl (w.heap.size + 1) 3 i0 (.int .i64 0) 1 8 Try.underlying22 hi0 hz0 hz1 hz2 rfl (by decide) _ _ _ rfl (hown1.alloc _) ⟨w2.heap.size, 0, none⟩ 1 1 [.int .i64 k] rfl rfl (cell_one_new _ _ _) (oneI _) (by unfold maxLen; omega) (by omega) (by simp; omega) ?_; intro v' w3 hown' hgrow _)
            have hb3 : Bw w w3 := Below.grown (Below.alloc hw2 hz _) hgrow (by simp; omega) (fun g hg => by have := own_cap0 hown1 g hg; omega)
            have hbox3 : Hid (w3.heap[w.heap.size]? = some (.cells #[.slice (some ⟨b2, off2, none⟩) r.ended.length c1, .slice a2 r.trace.length c2, .slice a3 r.switches.length c3, .bool r.high] 27 (0, 0))) := by
              show _ = _
              rw [hgrow.block w.heap.size (by simp; omega) (fun e => by have := own_cap0 hown1 w.heap.size e.symm; omega)]
              exact blk_bw (bw_alloc _ _) hbox1.out
            have hown2 : w3.ownsRow (w.heap.size + 1) 3 1 v' (q ++ [(k : Int)]).length (ints (q ++ [(k : Int)])) := by simpa [ints] using hown'
            clear hown' hgrow hown1 hbox1 p0 p1 d0
            go_wp2
            go_roundw
            case rel => exact ⟨k + 1, q ++ [(k : Int)], by omega, by go_num, hown2, by simp; omega, HST2.out, hb3, hbox3⟩
            case measure => simp [intOf]; omega
          · have hd1 : decide (D < ee) = false := by simp; omega
            by_cases h2 : ee = -1
            · subst h2
              have he : ((-1 : Int) == -1) = true := by simp
              by_cases h3 : D ≤ r.trace.length
              · have hst2 : misses l js r.ended r.trace.length = (q ++ [(k : Int)]) ++ pickFrom (missP l js r.ended r.trace.length) (js.length - (k + 1)) (k + 1) := by rw [hx.out, HSTEP.out, if_pos (decide_eq_true (.inr ⟨rfl, h3⟩))]; simp
                have HST2 := Lib.hid hst2
                clear hst2
                go_wp2_with (at_builtin; refine wpList_append_own _ rfl _ _ 22 rfl (w.heap.size + 1) 3 i0 (.int .i64 0) 1 8 Try.underlying22 hi0 hz0 hz1 hz2 rfl (by decide) _ _ _ rfl (hown1.alloc _) ⟨w2.heap.size, 0, none⟩ 1 1 [.int .i64 k] rfl rfl (cell_one_new _ _ _) (oneI _) (by unfold maxLen; omega) (by omega) (by simp; omega) ?_; intro v' w3 hown' hgrow _)
                have hb3 : Bw w w3 := Below.grown (Below.alloc hw2 hz _) hgrow (by simp; omega) (fun g hg => by have := own_cap0 hown1 g hg; omega)
                have hbox3 : Hid (w3.heap[w.heap.size]? = some (.cells #[.slice (some ⟨b2, off2, none⟩) r.ended.length c1, .slice a2 r.trace.length c2, .slice a3 r.switches.length c3, .bool r.high] 27 (0, 0))) := by
                  show _ = _
                  rw [hgrow.block w.heap.size (by simp; omega) (fun e => by have := own_cap0 hown1 w.heap.size e.symm; omega)]
                  exact blk_bw (bw_alloc _ _) hbox1.out
                have hown2 : w3.ownsRow (w.heap.size + 1) 3 1 v' (q ++ [(k : Int)]).length (ints (q ++ [(k : Int)])) := by simpa [ints] using hown'
                clear hown' hgrow hown1 hbox1 p0 p1 d0
                go_wp2
                go_roundw
                case rel => exact ⟨k + 1, q ++ [(k : Int)], by omega, by go_num, hown2, by simp; omega, HST2.out, hb3, hbox3⟩
                case measure => simp [intOf]; omega
              · have hd3 : decide (D ≤ r.trace.length) = false := by simp; omega
                have hst2 : misses l js r.ended r.trace.length = q ++ pickFrom (missP l js r.ended r.trace.length) (js.length - (k + 1)) (k + 1) := by rw [hx.out, HSTEP.out, if_neg (by simp; omega)]
                have HST2 := Lib.hid hst2
                clear hst2
                go_wp2
                go_roundw
                case rel => exact ⟨k + 1, q, by omega, by go_num, hown1, by omega, HST2.out, hw2, hbox1⟩
                case measure => simp [intOf]; omega
            · have he : (ee == -1) = false := by simp [h2]
              have hst2 : misses l js r.ended r.trace.length = q ++ pickFrom (missP l js r.ended r.trace.length) (js.length - (k + 1)) (k + 1) := by rw [hx.out, HSTEP.out, if_neg (by simp; omega)]
              have HST2 := Lib.hid hst2
              clear hst2
              go_wp2
              go_roundw
              case rel => exact ⟨k + 1, q, by omega, by go_num, hown1, by omega, HST2.out, hw2, hbox1⟩
              case measure => simp [intOf]; omega
        · have hfin : misses l js r.ended r.trace.length = q := by rw [hx.out, pick_end _ hlt]; simp
          have HFIN := Lib.hid hfin
          clear hfin
          obtain ⟨ao', c', hu⟩ := own_form hown
          subst hu
          go_wp2
          go_ret
          exact ⟨ao', c', by rw [HFIN.out]; rfl, by rw [HFIN.out]; exact Go.Joins.ownsRow_le hown (by omega), hbw⟩
    · have hf : misses l js r.ended r.trace.length = [] := by rw [misses, if_neg]; intro h; exact hle h.2
      have hq : ((r.ended.length : Int) != (js.length : Int)) = true := by simp; omega
      have HF := Lib.hid hf
      clear hf
      go_wp2
      go_ret
      exact ⟨none, 0, by rw [HF.out]; rfl, by rw [HF.out]; exact World.ownsRow_nil _ _ _ _, hw1⟩

theorem due_val {l : List Tk} {x y z : Int} {t : Tk} (h : jobIn l ⟨x, y, z⟩ = true) (ht : l[x.toNat]? = some t) : dueV l ⟨x, y, z⟩ = y + t.due := by rw [dueV, h]; dsimp only; rw [ht]; rfl

set_option maxRecDepth 100000 in
set_option maxHeartbeats 3200000 in
theorem misses_spec {w : World} {v u s : Value} {l : List Tk} {js : List Jb} {r : Rn} (hl : ST w v l) (hj : SJ w u js) (hr : RR w s r) : Calls Try.prog 55 #[v, u, s] w (RS w 3 (ints (misses l js r.ended r.trace.length)) (misses l js r.ended r.trace.length).length) := by
  obtain ⟨⟨ao, c, rfl, hlr, _⟩, hn⟩ := hl
  obtain ⟨⟨bo, d, rfl, hjs, hd⟩, hm⟩ := hj
  obtain ⟨⟨a1, c1, a2, c2, a3, c3, rfl, h1, h2, h3⟩, n1, n2, n3, ng⟩ := hr
  obtain ⟨i0, hi0, hz0, hz1, hz2⟩ := info_parts infoInt
  clear h2 h3 n1 n3
  have ng1 := ng.1
  have HLR := Lib.hid hlr
  have HJS := Lib.hid hjs
  have H1 := Lib.hid h1
  have NG1 := Lib.hid ng1
  clear hlr hjs h1 ng1
  clear ng
  suffices hS : Calls Try.prog 55 #[.slice ao l.length c, .slice bo js.length d, .agg #[.slice a1 r.ended.length c1, .slice a2 r.trace.length c2, .slice a3 r.switches.length c3, .bool r.high]] w (Ret w 3 1 (ints (misses l js r.ended r.trace.length)) (misses l js r.ended r.trace.length).length) from hS.mono fun _ _ h => h.rs
  go_enter Try.func55, Try.ntmps55
  go_wp2_with fail
  refine (JobsValid_spec _ _ _ _ _ l js hn hm (HLR.out.bw (bw_trans (bw_alloc _ _) (bw_alloc _ _))) (HJS.out.bw (bw_trans (bw_alloc _ _) (bw_alloc _ _)))).mono ?_
  obtain ⟨q, HQ⟩ : ∃ q, Hid (jobsOk l js = q) := ⟨_, rfl⟩
  rw [HQ.out]
  rintro e w1 ⟨rfl, hb1⟩
  have hw1 := bw_trans (bw_trans (bw_alloc _ _) (bw_alloc _ _)) hb1
  have B := Lib.hid (box_two hb1).1
  have p0 := blk_cell B.out 0 rfl
  have hbl : w.heap.size < w1.heap.size := blk_lt B.out
  have hown0 : w1.ownsRow (w.heap.size + 1) 3 1 (.slice (some ⟨w.heap.size + 1, 0, none⟩) 0 0) 0 (ints []) := by
    have := row_bw (World.ownsRow_made (base := w.heap.size + 1) (e := 3) (size := 1) (w.alloc (.cells #[.slice a1 r.ended.length c1, .slice a2 r.trace.length c2, .slice a3 r.switches.length c3, .bool r.high] 27 (0, 0))) #[] 0 (by simp) (by simp) rfl) hb1
    simpa [ints] using this
  cases q with
  | false =>
    have hf : misses l js r.ended r.trace.length = [] := by rw [misses, if_neg]; rw [HQ.out]; simp
    have HF := Lib.hid hf
    clear hf
    go_wp2
    go_ret
    exact ⟨_, _, by rw [HF.out]; rfl, by rw [HF.out]; exact Go.Joins.ownsRow_le hown0 (by omega), hw1⟩
  | true =>
    by_cases hle : r.ended.length = js.length
    · have hx0 : misses l js r.ended r.trace.length = pickFrom (missP l js r.ended r.trace.length) (js.length - 0) 0 := by rw [misses, if_pos ⟨HQ.out, hle⟩]; rfl
      have hq : ((r.ended.length : Int) != (js.length : Int)) = false := by simp [hle]
      have HX0 := Lib.hid hx0
      have HLE := Lib.hid hle
      clear hx0 hle
      have hbz := hw1.size
      go_wp2
      go_loopw [7, 8] (fun u i wr => ∃ (k : Nat) (q : List Int), k ≤ js.length ∧ i = .int .i64 k ∧ wr.ownsRow (w.heap.size + 1) 3 1 u q.length (ints q) ∧ q.length ≤ k ∧ Hid (misses l js r.ended r.trace.length = q ++ pickFrom (missP l js r.ended r.trace.length) (js.length - k) k) ∧ Bw w wr ∧ Hid (wr.heap[w.heap.size]? = some (.cells #[.slice a1 r.ended.length c1, .slice a2 r.trace.length c2, .slice a3 r.switches.length c3, .bool r.high] 27 (0, 0)))) (fun _ i _ => js.length - (intOf i).toNat)
      case atStart => exact ⟨0, [], Nat.zero_le _, rfl, hown0, Nat.le_refl _, HX0.out, hw1, B.out⟩
      case round =>
        clear p0 hbl hown0
        obtain ⟨k, q, hk, rfl, hown, hq, hx, hbw, hbox⟩ := hrel
        by_cases hlt : k < js.length
        · have hlt2 : k < r.ended.length := by rw [HLE.out]; exact hlt
          obtain ⟨⟨x, y, z⟩, b, off, hjk, hbo, hbs, c0, c1', c2'⟩ := HJS.out.get hbw hlt
          dsimp only at c0 c1' c2'
          have hji := jobs_in HQ.out hjk
          obtain ⟨hso, ht0, htl, hy0, hy1, _, t, htk, _⟩ := jobIn_spec hji
          dsimp only at ht0 htl htk hy0 hy1
          have hdv := due_val hji htk
          obtain ⟨x, rfl⟩ : ∃ n : Nat, x = (n : Int) := ⟨x.toNat, by omega⟩
          have hx' : x < l.length := by omega
          have htk' : l[x]? = some t := by simpa using htk
          obtain ⟨t', b3, off3, htk2, hao2, hbs3, _, _, r2, _, _⟩ := HLR.out.get hbw hx'
          have htt : t' = t := by rw [htk'] at htk2; simpa using htk2.symm
          subst htt
          have hok := (Tk.ok_iff _).1 (setOk_at hso htk')
          have hwr := IntWalk.i64_in (y + t'.due) (by omega)
          obtain ⟨D, HD⟩ : ∃ D, Hid (dueV l ⟨x, y, z⟩ = D) := ⟨_, rfl⟩
          rw [HD.out] at hdv
          rw [← hdv] at hwr
          have hwr2 : IntKind.i64.wrap (y + t'.due) = D := by rw [hdv] at hwr ⊢; exact hwr
          subst hbo; subst hao2
          have HJK := Lib.hid hjk
          have HJI := Lib.hid hji
          have HTK := Lib.hid htk
          have HTK' := Lib.hid htk'
          have HTK2 := Lib.hid htk2
          have HSO := Lib.hid hso
          have HOK := Lib.hid hok
          have HDV := Lib.hid hdv
          have HWR := Lib.hid hwr
          clear hjk hji htk htk' htk2 hso hok hdv hwr
          obtain ⟨ee, b2, off2, hek, ha1, hbs2, d0⟩ := H1.out.get hbw hlt2
          subst ha1
          have p0 := blk_cell hbox.out 0 rfl
          have p1 := blk_cell hbox.out 1 rfl
          have hbl : w.heap.size < wr.heap.size := blk_lt hbox.out
          have hpk : missP l js r.ended r.trace.length k = decide (D < ee ∨ (ee = -1 ∧ D ≤ r.trace.length)) := by rw [missP, HJK.out]; dsimp only; rw [hek]; dsimp only; rw [HD.out]
          have hstep := pick_step (missP l js r.ended r.trace.length) hlt
          rw [hpk] at hstep
          have HEK := Lib.hid hek
          have HPK := Lib.hid hpk
          have HSTEP := Lib.hid hstep
          clear hek hpk hstep
          have hz := hbw.size
          go_wp2_with fail
          go_quiet (fail)
          by_cases h1 : D < ee
          · have hst2 : misses l js r.ended r.trace.length = (q ++ [(k : Int)]) ++ pickFrom (missP l js r.ended r.trace.length) (js.length - (k + 1)) (k + 1) := by rw [hx.out, HSTEP.out, if_pos (decide_eq_true (.inl h1))]; simp
            have HST2 := Lib.hid hst2
            clear hst2
            go_wp2_with (at_builtin; refine wpList_append_own _ rfl _ _ 22 rfl (w.heap.size + 1) 3 i0 (.int .i64 0) 1 8 Try.underlying22 hi0 hz0 hz1 hz2 rfl (by decide) _ _ _ rfl ((row_bw hown (bw_drewN _ _)).alloc _) ⟨wr.heap.size, 0, none⟩ 1 1 [.int .i64 k] rfl rfl (cell_one_new _ _ _) (oneI _) (by unfold maxLen; omega) (by omega) (by simp; omega) ?_; intro v' w3 hown' hgrow _)
            have hb3 : Bw w w3 := Below.grown (Below.alloc (blw_drewN hbw _) hz _) hgrow (by simp; omega) (fun g hg => by have := own_cap0 hown g hg; omega)
            have hbox3 : Hid (w3.heap[w.heap.size]? = some (.cells #[.slice (some ⟨b2, off2, none⟩) r.ended.length c1, .slice a2 r.trace.length c2, .slice a3 r.switches.length c3, .bool r.high] 27 (0, 0))) := by
              show _ = _
              rw [hgrow.block w.heap.size (by simp; omega) (fun e => by have := own_cap0 hown w.heap.size e.symm; omega)]
              exact blk_bw (bw_trans (bw_drewN _ _) (bw_alloc _ _)) hbox.out
            have hown2 : w3.ownsRow (w.heap.size + 1) 3 1 v' (q ++ [(k : Int)]).length (ints (q ++ [(k : Int)])) := by simpa [ints] using hown'
            clear hown' hgrow hown hbox p0 p1 d0 r2 c0 c1'
            go_wp2
            go_roundw
            case rel => exact ⟨k + 1, q ++ [(k : Int)], by omega, by go_num, hown2, by simp; omega, HST2.out, hb3, hbox3⟩
            case measure => simp [intOf]; omega
          · have hd1 : decide (D < ee) = false := by simp; omega
            by_cases h2 : ee = -1
            · subst h2
              have he : ((-1 : Int) == -1) = true := by simp
              by_cases h3 : D ≤ r.trace.length
              · have hst2 : misses l js r.ended r.trace.length = (q ++ [(k : Int)]) ++ pickFrom (missP l js r.ended r.trace.length) (js.length - (k + 1)) (k + 1) := by rw [hx.out, HSTEP.out, if_pos (decide_eq_true (.inr ⟨rfl, h3⟩))]; simp
                have HST2 := Lib.hid hst2
                clear hst2
                go_wp2_with (at_builtin; refine wpList_append_own _ rfl _ _ 22 rfl (w.heap.size + 1) 3 i0 (.int .i64 0) 1 8 Try.underlying22 hi0 hz0 hz1 hz2 rfl (by decide) _ _ _ rfl ((row_bw hown (bw_drewN _ _)).alloc _) ⟨wr.heap.size, 0, none⟩ 1 1 [.int .i64 k] rfl rfl (cell_one_new _ _ _) (oneI _) (by unfold maxLen; omega) (by omega) (by simp; omega) ?_; intro v' w3 hown' hgrow _)
                have hb3 : Bw w w3 := Below.grown (Below.alloc (blw_drewN hbw _) hz _) hgrow (by simp; omega) (fun g hg => by have := own_cap0 hown g hg; omega)
                have hbox3 : Hid (w3.heap[w.heap.size]? = some (.cells #[.slice (some ⟨b2, off2, none⟩) r.ended.length c1, .slice a2 r.trace.length c2, .slice a3 r.switches.length c3, .bool r.high] 27 (0, 0))) := by
                  show _ = _
                  rw [hgrow.block w.heap.size (by simp; omega) (fun e => by have := own_cap0 hown w.heap.size e.symm; omega)]
                  exact blk_bw (bw_trans (bw_drewN _ _) (bw_alloc _ _)) hbox.out
                have hown2 : w3.ownsRow (w.heap.size + 1) 3 1 v' (q ++ [(k : Int)]).length (ints (q ++ [(k : Int)])) := by simpa [ints] using hown'
                clear hown' hgrow hown hbox p0 p1 d0 r2 c0 c1'
                go_wp2
                go_roundw
                case rel => exact ⟨k + 1, q ++ [(k : Int)], by omega, by go_num, hown2, by simp; omega, HST2.out, hb3, hbox3⟩
                case measure => simp [intOf]; omega
              · have hd3 : decide (D ≤ r.trace.length) = false := by simp; omega
                have hst2 : misses l js r.ended r.trace.length = q ++ pickFrom (missP l js r.ended r.trace.length) (js.length - (k + 1)) (k + 1) := by rw [hx.out, HSTEP.out, if_neg (by simp; omega)]
                have HST2 := Lib.hid hst2
                clear hst2
                go_wp2
                go_roundw
                case rel => exact ⟨k + 1, q, by omega, by go_num, row_bw hown (bw_drewN _ _), by omega, HST2.out, blw_drewN hbw _, blk_bw (bw_drewN _ _) hbox.out⟩
                case measure => simp [intOf]; omega
            · have he : (ee == -1) = false := by simp [h2]
              have hst2 : misses l js r.ended r.trace.length = q ++ pickFrom (missP l js r.ended r.trace.length) (js.length - (k + 1)) (k + 1) := by rw [hx.out, HSTEP.out, if_neg (by simp; omega)]
              have HST2 := Lib.hid hst2
              clear hst2
              go_wp2
              go_roundw
              case rel => exact ⟨k + 1, q, by omega, by go_num, row_bw hown (bw_drewN _ _), by omega, HST2.out, blw_drewN hbw _, blk_bw (bw_drewN _ _) hbox.out⟩
              case measure => simp [intOf]; omega
        · have hfin : misses l js r.ended r.trace.length = q := by rw [hx.out, pick_end _ hlt]; simp
          have HFIN := Lib.hid hfin
          clear hfin
          obtain ⟨ao', c', hu⟩ := own_form hown
          subst hu
          go_wp2
          go_ret
          exact ⟨ao', c', by rw [HFIN.out]; rfl, by rw [HFIN.out]; exact Go.Joins.ownsRow_le hown (by omega), hbw⟩
    · have hf : misses l js r.ended r.trace.length = [] := by rw [misses, if_neg]; intro h; exact hle h.2
      have hq : ((r.ended.length : Int) != (js.length : Int)) = true := by simp; omega
      have HF := Lib.hid hf
      clear hf
      go_wp2
      go_ret
      exact ⟨_, _, by rw [HF.out]; rfl, by rw [HF.out]; exact Go.Joins.ownsRow_le hown0 (by omega), hw1⟩
end Go.Proofs.Ytfjcpnkiddpdcaa
