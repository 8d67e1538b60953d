/-
  The walk of the reference's l7Tick.
-/
import Derived.Test.YtaadlgpglfpmpaaDoorGG
import Derived.Test.YtaadlgpglfpmpaaDoorLeave

namespace Go.Proofs.YtaadlgpglfpmpaaDoor
open Go.RowKit

theorem take_at {α : Type} {q : List α} {p : Nat} {i : α} (h : q[p]? = some i) : q.drop p = i :: q.drop (p + 1) := by
  have hp := (List.getElem?_eq_some_iff.1 h).1
  rw [List.drop_eq_getElem_cons hp]
  rw [List.getElem?_eq_getElem hp] at h
  simp at h; rw [h]

/-- What is left goes into a row that was made just now. -/
theorem SM.putNew {w0 w wr wB : World} {L : List (Option Nat)} {B nx : Nat} {vE vT vS vW vK u : Value} {x : Fr} {s : St} {ks : List (Nat × Int)} {q : List Nat} (h : SM w0 w wr L B nx vE vT vS vW vK x s ks) (hb : Bw wr wB) (hown : wB.ownsRow wr.heap.size 108 2 u q.length (wks (wk s.done q))) :
    SM w0 w (wB.setCell ⟨B, 4, .none⟩ u) L B nx vE vT vS u (.slice .none 0 0) x { s with left := q } [] := by
  refine (h.on hb).putW (Go.Joins.ownsRow_le hown h.rows.bw.size) fun g hg => ?_
  have hg1 := own_cap0 hown g hg
  have old : ∀ v : Value, v.ownBlock ∈ rowsL vE vT vS vW vK → v.ownBlock ≠ some g := fun v m e => by
    rw [e] at m
    have := (h.rows.old m).2; omega
  exact ⟨old _ (by simp), old _ (by simp), old _ (by simp), fun e => by have := blk_lt h.box; omega, .inr (Nat.le_trans h.turn.size hg1)⟩
theorem wk_cut (d : List Int) (q : List Nat) (b : Nat) : wk d (q.take b ++ q.drop (b + 1)) = (wk d q).take b ++ (wk d q).drop (b + 1) := by simp [wk, List.map_take, List.map_drop]


set_option maxRecDepth 100000 in
set_option maxHeartbeats 16000000 in
theorem l7Tick_false (ao bo : Option Addr) (c d n k : Nat) (w0 w : World) (l : List Tk) (js : List Jb) (vE vT vS vW : Value) (x : Fr) (s : St) (hok : jobsOk l js = true) (hr : RT w0 ao l) (hs : RJ w0 bo js) (_hx1 : x.p ≤ 1000000000) (_hx2 : x.q ≤ 1000000000) (hRows : Rows w0 w vE vT vS vW (.slice .none 0 0) s []) (hI : Inv l js (Here js k) k s) (hN : NX js k n) (htl : s.trace.length = k) (hk : k ≤ 200) :
    Calls Tryd.prog 53 #[.slice ao l.length c, .slice bo js.length d, .agg #[vE, vT, vS, .bool s.high, vW, .int .i64 n, .int .i64 x.p, .int .i64 x.q], .int .i64 0, .int .i64 k] w fun e w' => ∃ n', NX js (k + 1) n' ∧ SpR w0 w (rowsL vE vT vS vW (.slice .none 0 0)) x (tick l js false x k s) n' e w' := by
  have h60 := jobs_len hok
  obtain ⟨aE, cE, eE⟩ := own_form hRows.e
  obtain ⟨aT, cT, eT⟩ := own_form hRows.t
  obtain ⟨aS, cS, eS⟩ := own_form hRows.sw
  obtain ⟨aW, cW, eW⟩ := own_form hRows.k
  subst eE eT eS eW
  obtain ⟨L, hL⟩ : ∃ L, rowsL (.slice aE s.ended.length cE) (.slice aT s.trace.length cT) (.slice aS s.switches.length cS) (.slice aW s.left.length cW) (.slice .none 0 0) = L := ⟨_, rfl⟩
  have hst := SM.start (nx := n) (x := x) (Z := #[.slice .none 0 0, .slice .none 0 0, .slice .none 0 0, .bool false, .slice .none 0 0, .int .i64 0, .int .i64 0, .int .i64 0]) (E2 := 81) hRows
  have hb1 : Bw w ((w.alloc (.cells #[.slice aE s.ended.length cE, .slice aT s.trace.length cT, .slice aS s.switches.length cS, .bool s.high, .slice aW s.left.length cW, .int .i64 n, .int .i64 x.p, .int .i64 x.q] 81)).alloc (.cells #[.slice .none 0 0, .slice .none 0 0, .slice .none 0 0, .bool false, .slice .none 0 0, .int .i64 0, .int .i64 0, .int .i64 0] 81)) := bw_trans (bw_alloc _ _) (bw_alloc _ _)
  have hzl : w.heap.size + 1 < ((w.alloc (.cells #[.slice aE s.ended.length cE, .slice aT s.trace.length cT, .slice aS s.switches.length cS, .bool s.high, .slice aW s.left.length cW, .int .i64 n, .int .i64 x.p, .int .i64 x.q] 81)).alloc (.cells #[.slice .none 0 0, .slice .none 0 0, .slice .none 0 0, .bool false, .slice .none 0 0, .int .i64 0, .int .i64 0, .int .i64 0] 81)).heap.size := by simp
  have hbs := hRows.bw.size
  rw [hL] at hst ⊢
  obtain ⟨i0, hi0, hz0, hz1, hz2⟩ := info_parts infoWork
  have HR := Lib.hid hr
  have HS := Lib.hid hs
  have HST := Lib.hid hst
  have HB1 := Lib.hid hb1
  have HZL := Lib.hid hzl
  have HOK := Lib.hid hok
  have HI := Lib.hid hI
  have HN := Lib.hid hN
  have HROWS := Lib.hid hRows
  have HL := Lib.hid hL
  have HTL := Lib.hid htl
  clear hr hs hst hb1 hzl hok hI hN hRows hL htl
  go_enter Tryd.func53, Tryd.ntmps53
  go_upto_region 1 with fail
  obtain ⟨w1, e1⟩ : ∃ w1 : World, ((w.alloc (.cells #[.slice aE s.ended.length cE, .slice aT s.trace.length cT, .slice aS s.switches.length cS, .bool s.high, .slice aW s.left.length cW, .int .i64 n, .int .i64 x.p, .int .i64 x.q] 81)).alloc (.cells #[.slice .none 0 0, .slice .none 0 0, .slice .none 0 0, .bool false, .slice .none 0 0, .int .i64 0, .int .i64 0, .int .i64 0] 81)) = w1 := ⟨_, rfl⟩
  rw [e1] at HST HB1 HZL ⊢
  clear e1
  obtain ⟨hS0, hz, hzn⟩ := HST.out
  clear HST
  have HZ := Lib.hid hz
  have HZN := Lib.hid hzn
  clear hz hzn
  have HS0 := Lib.hid hS0
  clear hS0
  obtain ⟨b0, b1, b2, b3, b4, b5, b6, b7⟩ := box8 HS0.out.box
  have bf := fun j => blk_free HS0.out.box j
  have lB := blk_lt HS0.out.box
  go_upto_if 19 with fail
  go_cut [] (fun wc => ∃ s1 : St, Hid (low0 s = s1) ∧ Hid (SM w0 w1 wc (some w.heap.size :: L) w.heap.size n (.slice aE s1.ended.length cE) (.slice aT s1.trace.length cT) (.slice aS s1.switches.length cS) (.slice aW s1.left.length cW) (.slice .none 0 0) x s1 []))
  case first =>
    by_cases hl0 : s.left = []
    · have hlow : low0 s = { s with high := false } := by rw [low0, if_pos hl0]
      have e19 : ((s.left.length : Int) == 0) = true := by rw [hl0]; rfl
      have HS2 := Lib.hid (HS0.out.setHigh false)
      have HL0 := Lib.hid hl0
      have HLOW := Lib.hid hlow
      clear hl0 hlow
      go_wp2_with fail
      go_meet
      exact ⟨_, HLOW.out, HS2.out⟩
    · have hlow : low0 s = s := by rw [low0, if_neg hl0]
      have e19 : ((s.left.length : Int) == 0) = false := by
        have := List.length_pos_iff.2 hl0
        simp; exact hl0
      have HL0 := Lib.hid hl0
      have HLOW := Lib.hid hlow
      clear hl0 hlow
      go_wp2_with fail
      go_meet
      exact ⟨_, HLOW.out, HS0.out⟩
  case rest =>
    clear b0 b1 b2 b3 b4 b5 b6 b7 bf lB HS0
    obtain ⟨s1, hs1, hS1⟩ := hcut
    have hI1 : Hid (Inv l js (Come js k 0) k s1) := by rw [← hs1.out]; exact HI.out.low0.congr (fun i _ => by unfold Here Come; omega)
    obtain ⟨b0, b1, b2, b3, b4, b5, b6, b7⟩ := box8 hS1.out.box
    have bf := fun j => blk_free hS1.out.box j
    have lB := blk_lt hS1.out.box
    go_wp2_with fail
    refine (l7Come_any _ _ _ _ _ _ _ _ l js _ _ _ _ x s1 HOK.out HR.out HS.out hS1.out.rows hI1.out HN.out hk).mono ?_
    obtain ⟨s2, hs2⟩ : ∃ s2, comeFrom l js k js.length 0 s1 = s2 := ⟨_, rfl⟩
    rw [hs2]
    rintro e w2 ⟨n', hNX, vE2, vT2, vS2, vW2, rfl, hR2, hT2, hin2⟩
    obtain ⟨aE2, cE2, eE⟩ := own_form hR2.e
    obtain ⟨aT2, cT2, eT⟩ := own_form hR2.t
    obtain ⟨aS2, cS2, eS⟩ := own_form hR2.sw
    obtain ⟨aW2, cW2, eW⟩ := own_form hR2.k
    subst eE eT eS eW
    have hB2 := hT2.heap hS1.out.box hS1.out.nb
    have HSa := Lib.hid (SM.take (nx' := n') hS1.out hR2 hT2 hin2)
    have hc3 : comeFrom l js k js.length 0 (low0 s) = s2 := by rw [hs1.out, hs2]
    have hI3 : Inv l js (Here js (k + 1)) k s2 := by rw [← hc3]; exact HI.out.comes HOK.out
    have hlen2 := hI3.len
    have htr2 : s2.trace.length = k := by
      have h1 := (comeFrom_keep l js k js.length 0 (low0 s)).1
      rw [hc3, (low0_keep s).1] at h1
      rw [h1]; exact HTL.out
    have htick : tick l js false x k s = work l js false x ((k : Int) + 1) s2 := by rw [tick, hc3]
    have hbE := Lib.hid (Turn.trans hS1.out.turn hT2 (fun g m => hS1.out.inL g m))
    clear b0 b1 b2 b3 b4 b5 b6 b7 bf lB hR2 hT2 hin2 hs2 hI1
    have bf := fun j => blk_free hB2 j
    have lB := blk_lt hB2
    obtain ⟨b0, b1, b2, b3, b4, b5, b6, b7⟩ := box8 hB2
    have HNX := Lib.hid hNX
    have HC3 := Lib.hid hc3
    have HI3 := Lib.hid hI3
    have HTR2 := Lib.hid htr2
    have HTICK := Lib.hid htick
    have HB2 := Lib.hid hB2
    clear hNX hc3 hI3 htr2 htick hB2
    go_upto_region 4 with fail
    obtain ⟨w3, e3⟩ : ∃ w3 : World, ((((((((w2.setCell ⟨w.heap.size, 0, .none⟩ (.slice aE2 s2.ended.length cE2)).setCell ⟨w.heap.size, 1, .none⟩ (.slice aT2 s2.trace.length cT2)).setCell ⟨w.heap.size, 2, .none⟩ (.slice aS2 s2.switches.length cS2)).setCell ⟨w.heap.size, 3, .none⟩ (.bool s2.high)).setCell ⟨w.heap.size, 4, .none⟩ (.slice aW2 s2.left.length cW2)).setCell ⟨w.heap.size, 5, .none⟩ (.int .i64 n')).setCell ⟨w.heap.size, 6, .none⟩ (.int .i64 x.p)).setCell ⟨w.heap.size, 7, .none⟩ (.int .i64 x.q)) = w3 := ⟨_, rfl⟩
    rw [e3] at HSa ⊢
    clear e3 b0 b1 b2 b3 b4 b5 b6 b7 bf lB hS1 hbE
    obtain ⟨b0, b1, b2, b3, b4, b5, b6, b7⟩ := box8 HSa.out.box
    have bf := fun j => blk_free HSa.out.box j
    have lB := blk_lt HSa.out.box
    by_cases hne : s2.left = []
    · have e30 : ((s2.left.length : Int) == 0) = true := by rw [hne]; rfl
      have hwk : tick l js false x k s = { s2 with trace := s2.trace ++ [-1] } := by rw [HTICK.out, work, hne]
      have HS4 := Lib.hid (HSa.out.on (bw_alloc _ (.cells #[.int .i64 (-1)] 3)))
      have h200 : s2.trace.length ≤ 1000000 := by rw [HTR2.out]; omega
      have HNE := Lib.hid hne
      have HWK := Lib.hid hwk
      clear hne hwk
      go_upto_region 6 with (at_builtin; refine wpList_app_int rfl _ _ rfl w0.heap.size s2.trace.length _ s2.trace (-1) rfl HS4.out.rows.t _ rfl (cell_new0 _ _ _) h200 HS4.out.rows.bw.size ?_; intro ao' c' w5 hown' hgrow' hwhere'; have hA := HS4.out.app_t trivial rfl hown' hgrow' hwhere'; have r1 := blk_cell hA.1 1 rfl; have r1f := blk_free hA.1 1; have HS5 := Lib.hid hA.2; clear hA hown' hgrow' hwhere' b0 b1 b2 b3 b4 b5 b6 b7 bf)
      obtain ⟨w6, e6⟩ : ∃ w6 : World, w5.setCell ⟨w.heap.size, 1, .none⟩ (.slice ao' (s2.trace.length + 1) c') = w6 := ⟨_, rfl⟩
      rw [e6] at HS5 ⊢
      clear e6 r1 r1f HS4 HSa lB
      obtain ⟨b0, b1, b2, b3, b4, b5, b6, b7⟩ := box8 HS5.out.box
      have lB := blk_lt HS5.out.box
      have z := HS5.out.turn.heap HZ.out HZN.out
      obtain ⟨z0, z1, z2, z3, z4, z5, z6, z7⟩ := box8 z
      have zl := blk_lt z
      have zf := fun j => blk_free z j
      have hzn2 := HS5.out.out_of HZN.out HZL.out
      have Z := Lib.hid z
      have HZN2 := Lib.hid hzn2
      clear z hzn2
      go_wp2
      refine bodyPost_ret (v := .agg #[.slice aE2 s2.ended.length cE2, .slice ao' (s2.trace.length + 1) c', .slice aS2 s2.switches.length cS2, .bool s2.high, .slice aW2 s2.left.length cW2, .int .i64 n', .int .i64 x.p, .int .i64 x.q]) (by simp [results, Tryd.results53, go_sem, z0, z1, z2, z3, z4, z5, z6, z7]) rfl ?_
      refine ⟨n', HNX.out, ?_⟩
      rw [HWK.out]
      exact HS5.out.endR HB1.out (Nat.le_refl _) (w.heap.size + 1) (turn8 _ _ _ _ _ _ _ _ _ _) (by omega) HZN2.out (by omega)
    · have e30 : ((s2.left.length : Int) == 0) = false := by simp; exact hne
      have hl1 := List.length_pos_iff.2 hne
      obtain ⟨r, j, T, dd, hrm, ⟨r0, q, hrq, hbest⟩, hjr, hTr, htkr, hcrr, hTo, hdr, her, _, hd0, hdn, hdt, hdl, ht0, htl', hRan⟩ := work_cases HOK.out HI3.out false x hne
      rw [← HTICK.out] at hRan
      have hr0 : s2.left[0]? = some r0 := by rw [hrq]; rfl
      have hbest0 : bestOf (goesB l js false x s2.high) r0 (s2.left.drop 1) = r := by rw [hrq]; exact hbest.symm
      obtain ⟨jt, y, z⟩ := j
      dsimp only at hdn hdt ht0 htl' hTr
      obtain ⟨tq, rfl⟩ : ∃ n : Nat, jt = (n : Int) := ⟨jt.toNat, by omega⟩
      rw [show ((tq : Int)).toNat = tq by omega] at hTr
      have htql : tq < l.length := by omega
      clear hrq hbest htl' q
      have HNE := Lib.hid hne
      have HJR := Lib.hid hjr
      have HTR := Lib.hid hTr
      have HTKR := Lib.hid htkr
      have HCRR := Lib.hid hcrr
      have HTO := Lib.hid hTo
      have HDR := Lib.hid hdr
      have HER := Lib.hid her
      have HDL := Lib.hid hdl
      have HRM := Lib.hid hrm
      have HRAN := Lib.hid hRan
      have HR0 := Lib.hid hr0
      have HBEST0 := Lib.hid hbest0
      clear hne hjr hTr htkr hcrr hTo hdr her hdl hrm hRan hr0 hbest0
      go_wp2_with fail
      clear b0 b1 b2 b3 b4 b5 b6 b7 bf lB
      obtain ⟨wb2, rfl⟩ : ∃ wb2 : World, wb2 = w3 := ⟨_, rfl⟩
      go_loopw [11, 12] (fun u i wr => ∃ p b r' : Nat, p ≤ s2.left.length ∧ i = .int .i64 p ∧ u = .int .i64 b ∧ Hid (s2.left[b]? = some r') ∧ Hid (bestOf (goesB l js false x s2.high) r' (s2.left.drop p) = r) ∧ Bw wb2 wr) (fun _ i _ => s2.left.length - (intOf i).toNat)
      case atStart => exact ⟨1, 0, r0, hl1, rfl, rfl, HR0.out, HBEST0.out, Bw.refl _⟩
      case round =>
        obtain ⟨p, b, r', hp, rfl, rfl, hbr, hb, hbl⟩ := hrel
        have hS := Lib.hid (HSa.out.on hbl)
        obtain ⟨b0, b1, b2, b3, b4, b5, b6, b7⟩ := box8 hS.out.box
        have bf := fun j => blk_free hS.out.box j
        have lB := blk_lt hS.out.box
        obtain ⟨dr', hdr'⟩ := HI3.out.left_d r' (List.mem_of_getElem? hbr.out)
        obtain ⟨gW, cW', eW', hclc, lg, hw0, hw1⟩ := hS.out.rows.cellW (p := b) hbr.out hdr'
        simp only [Value.slice.injEq] at eW'
        obtain ⟨rfl, _, rfl⟩ := eW'
        have hbll := (List.getElem?_eq_some_iff.1 hbr.out).1
        by_cases hplt : p < s2.left.length
        · obtain ⟨iq, hiq⟩ := getSome hplt
          have hil : iq < js.length := HI3.out.lt iq (List.mem_of_getElem? hiq)
          have hrl : r' < js.length := HI3.out.lt r' (List.mem_of_getElem? hbr.out)
          obtain ⟨dq, hdq⟩ := HI3.out.left_d iq (List.mem_of_getElem? hiq)
          obtain ⟨gW', cW', eW', _, _, hv0, _⟩ := hS.out.rows.cellW (p := p) hiq hdq
          simp only [Value.slice.injEq, Option.some.injEq, Addr.mk.injEq] at eW'
          obtain ⟨⟨rfl, _, _⟩, _, rfl⟩ := eW'
          obtain ⟨qa, ya, za, Ta, hja, _⟩ := job_task HOK.out hil
          obtain ⟨qb, yb, zb, Tb, hjb, _⟩ := job_task HOK.out hrl
          obtain ⟨bj, oj, hbo, hbsj, c0, c1, c2⟩ := (HS.out.bw hS.out.rows.bw) _ _ hja
          obtain ⟨bj', oj', hbo', _, f0, f1, f2⟩ := (HS.out.bw hS.out.rows.bw) _ _ hjb
          rw [hbo] at hbo'
          simp only [Option.some.injEq, Addr.mk.injEq, and_true] at hbo'
          obtain ⟨rfl, rfl⟩ := hbo'
          subst hbo
          dsimp only at c0 c1 c2 f0 f1 f2
          have hcg := fun (W : World) (hW : Bw wr W) (aE aT aS aW : Value) => (l7First_place (w := W) (ao := ao) (c := c) (l := l) (x := x) (high := s2.high) (vE := aE) (vT := aT) (vS := aS) (vW := aW) (nx := n') hja hjb)
          have hdp := take_at hiq
          obtain ⟨gg, hgg⟩ : ∃ gg, goesB l js false x s2.high iq r' = gg := ⟨_, rfl⟩
          rw [hgg] at hcg
          have hst : bestOf (goesB l js false x s2.high) (if gg = true then iq else r') (s2.left.drop (p + 1)) = r := by rw [← hgg, ← hb.out, hdp]; rfl
          have u0 := fun d os => cell_regrown b0 d os
          have u1 := fun d os => cell_regrown b1 d os
          have u2 := fun d os => cell_regrown b2 d os
          have u3 := fun d os => cell_regrown b3 d os
          have u4 := fun d os => cell_regrown b4 d os
          have u5 := fun d os => cell_regrown b5 d os
          have u6 := fun d os => cell_regrown b6 d os
          have u7 := fun d os => cell_regrown b7 d os
          have x0 := fun d os => cell_regrown hw0 d os
          have x1 := fun d os => cell_regrown hv0 d os
          have c0' := fun d os => cell_regrown c0 d os
          have c1' := fun d os => cell_regrown c1 d os
          have c2' := fun d os => cell_regrown c2 d os
          have f0' := fun d os => cell_regrown f0 d os
          have f1' := fun d os => cell_regrown f1 d os
          have f2' := fun d os => cell_regrown f2 d os
          have HCG := Lib.hid hcg
          have HST := Lib.hid hst
          have HIQ := Lib.hid hiq
          have HJA := Lib.hid hja
          have HJB := Lib.hid hjb
          have HDP := Lib.hid hdp
          have HGG := Lib.hid hgg
          have HDQ := Lib.hid hdq
          have HDR' := Lib.hid hdr'
          clear hcg hst hiq hja hjb hdp hgg hdq hdr'
          go_wp2_with fail
          refine wp_region_quiet_below (by kernel_rfl) (by kernel_rfl) ?_
          repeat (go_big_quiet_step ((go_at_call 82; exact Calls.regrown_of (HCG.out _ (below_regrown _ _ _) _ _ _ _))))
          refine wpQuiet_nil ?_
          intro wq hw'
          have hbq := bw_of_ex hw'
          clear hw'
          clear u0 u1 u2 u3 u4 u5 u6 u7 x0 x1 c0' c1' c2' f0' f1' f2'
          cases gg
          · go_wp2_with fail
            go_roundw
            case rel => exact ⟨p + 1, b, r', by omega, by go_num, rfl, hbr.out, HST.out, bw_trans hbl hbq⟩
            case measure => simp [intOf]; omega
          · go_wp2_with fail
            go_roundw
            case rel => exact ⟨p + 1, p, iq, by omega, by go_num, rfl, HIQ.out, HST.out, bw_trans hbl hbq⟩
            case measure => simp [intOf]; omega
        · obtain rfl : p = s2.left.length := by omega
          have hrr : r' = r := by have := hb.out; rw [List.drop_length] at this; exact this
          subst hrr
          obtain rfl : dr' = dd := by have := HDR.out; rw [hdr'] at this; simpa using this
          clear hb hdr'
          have hrl : r' < js.length := HI3.out.lt r' (List.mem_of_getElem? hbr.out)
          obtain ⟨j', T', hj', _, _, hy0, _, _, _, _, _, _, _⟩ := job_of HOK.out hrl
          rw [HJR.out] at hj'
          simp only [Option.some.injEq] at hj'
          subst hj'
          dsimp only at hy0
          obtain ⟨bj, oj, hboj, hbsj, c0, c1, c2⟩ := (HS.out.bw hS.out.rows.bw) _ _ HJR.out
          dsimp only at c0 c1 c2
          subst hboj
          go_upto_region 15 with fail
          have hS4 := hS.out.on (bw_alloc _ (.cells #[.int .i64 tq, .int .i64 y, .int .i64 z] 57))
          have hjb := heap_alloc_new wr (.cells #[.int .i64 tq, .int .i64 y, .int .i64 z] 57)
          have hjn : some wr.heap.size ∉ some w.heap.size :: rowsL (.slice aE2 s2.ended.length cE2) (.slice aT2 s2.trace.length cT2) (.slice aS2 s2.switches.length cS2) (.slice (some ⟨gW, 0, .none⟩) s2.left.length cW2) (.slice .none 0 0) := fun m => by
            rw [List.mem_cons] at m
            rcases m with m | m
            · simp at m; omega
            · have := (hS.out.rows.old m).2; omega
          obtain ⟨wJ, eJ⟩ : ∃ wJ : World, wr.alloc (.cells #[.int .i64 tq, .int .i64 y, .int .i64 z] 57) = wJ := ⟨_, rfl⟩
          obtain ⟨J, hJ⟩ : ∃ J : Nat, wr.heap.size = J := ⟨_, rfl⟩
          rw [hJ] at hjb hjn ⊢
          rw [eJ] at hS4 hjb ⊢
          clear eJ b0 b1 b2 b3 b4 b5 b6 b7 bf lB hw0 hw1 lg c0 c1 c2
          have HS5 := Lib.hid hS4.rebase
          have hlJ := blk_lt hjb
          have HS4 := Lib.hid hS4
          have HJB := Lib.hid hjb
          have HJN := Lib.hid hjn
          clear hS4 hjb hjn
          obtain ⟨b0, b1, b2, b3, b4, b5, b6, b7⟩ := box8 HS5.out.box
          have bf := fun j => blk_free HS5.out.box j
          have lB := blk_lt HS5.out.box
          have j0 := blk_cell HJB.out 0 rfl
          have h200 : s2.trace.length ≤ 1000000 := by rw [HTR2.out]; omega
          have HS6 := Lib.hid (HS5.out.on (bw_alloc _ (.cells #[.int .i64 tq] 3)))
          go_upto_region 16 with (at_builtin; refine wpList_app_int rfl _ _ rfl w0.heap.size s2.trace.length _ s2.trace (tq : Int) rfl HS6.out.rows.t _ rfl (cell_new0 _ _ _) h200 HS6.out.rows.bw.size ?_; intro ao' c' w5 hown' hgrow' hwhere'; have hA := HS6.out.app_t trivial rfl hown' hgrow' hwhere'; have r1 := blk_cell hA.1 1 rfl; have r1f := blk_free hA.1 1; have HS7 := Lib.hid hA.2; clear hA hown' hgrow' hwhere' b0 b1 b2 b3 b4 b5 b6 b7 bf)
          obtain ⟨w6, e6⟩ : ∃ w6 : World, w5.setCell ⟨w.heap.size, 1, .none⟩ (.slice ao' (s2.trace.length + 1) c') = w6 := ⟨_, rfl⟩
          rw [e6] at HS7 ⊢
          clear e6 r1 r1f HS6 HS5 lB j0
          obtain ⟨b0, b1, b2, b3, b4, b5, b6, b7⟩ := box8 HS7.out.box
          have bf := fun j => blk_free HS7.out.box j
          have lB := blk_lt HS7.out.box
          obtain ⟨g', c'', eg, _, lg, hw0, hw1, hwf, hS8⟩ := HS7.out.setWork (p := b) (i := r') (d := dr') hbr.out HDR.out HI3.out.sorted (dr' + 1)
          simp only [Value.slice.injEq, Option.some.injEq, Addr.mk.injEq] at eg
          obtain ⟨⟨rfl, _, _⟩, _, rfl⟩ := eg
          have hd1 := IntWalk.i64_in (dr' + 1) (by omega)
          have HS8 := Lib.hid hS8
          clear hS8
          go_upto_region 18 with fail
          obtain ⟨w8, e8⟩ : ∃ w8 : World, w6.setCell ⟨gW, b * 2 + 1, .none⟩ (.int .i64 (dr' + 1)) = w8 := ⟨_, rfl⟩
          have HS8' := HS8
          rw [e8] at HS8' ⊢
          clear e8 HS8 HS7 b0 b1 b2 b3 b4 b5 b6 b7 bf lB hw0 hw1 hwf lg hd1
          have hj8 := HS8'.out.beside HJB.out HJN.out
          have j0 := blk_cell hj8 0 rfl
          have j2 := blk_cell hj8 2 rfl
          have lj := blk_lt hj8
          have hd1 := IntWalk.i64_in (dr' + 1) (by omega)
          have hk1 := IntWalk.i64_in ((k : Int) + 1) (by omega)
          obtain ⟨hh, eh⟩ : ∃ hh, s2.high = hh := ⟨_, rfl⟩
          obtain ⟨b2', o2, hao, hbs2, t0, t1, t2, t3, t4⟩ := (HR.out.bw HS8'.out.rows.bw) _ _ HTR.out
          subst hao
          obtain ⟨cr, ec⟩ : ∃ cr, T.crit = cr := ⟨_, rfl⟩
          rw [ec] at t4
          clear t1 t2 t3
          rcases HRAN.out with ⟨c1, ef⟩ | ⟨c1, ch, cc, cl, ef⟩ | ⟨c1, c2, ef⟩
          · have e104 : (dr' + 1 == z) = true := by simp [c1]
            obtain ⟨gE, cE', eE, lE, ce, cf, hS9⟩ := HS8'.out.setEnded (i := r') (old := -1) HER.out ((k : Int) + 1)
            have hrel := (List.getElem?_eq_some_iff.1 HER.out).1
            simp only [Value.slice.injEq] at eE
            obtain ⟨rfl, _, rfl⟩ := eE
            obtain ⟨b0, b1, b2, b3, b4, b5, b6, b7⟩ := box8 HS8'.out.box
            have bf := fun j => blk_free HS8'.out.box j
            have lB := blk_lt HS8'.out.box
            have HS9 := Lib.hid hS9
            have C1 := Lib.hid c1
            have EF := Lib.hid ef
            have EH := Lib.hid eh
            have EC := Lib.hid ec
            have HJ8 := Lib.hid hj8
            clear hS9 c1 ef eh ec hj8
            go_upto_region 20 with fail
            obtain ⟨w9, e9⟩ : ∃ w9 : World, w8.setCell ⟨gE, r', .none⟩ (.int .i64 ((k : Int) + 1)) = w9 := ⟨_, rfl⟩
            rw [e9] at HS9 ⊢
            clear e9 b0 b1 b2 b3 b4 b5 b6 b7 bf lB ce cf lE j0 j2 lj t0 t4
            obtain ⟨b0, b1, b2, b3, b4, b5, b6, b7⟩ := box8 HS9.out.box
            have bf := fun j => blk_free HS9.out.box j
            have lB := blk_lt HS9.out.box
            obtain ⟨gW', hgw, hncW, lg, htk9, hdr9⟩ := wk_from HS9.out.rows.k (wk_len _ _ ▸ rfl) hl1
            simp only [Option.some.injEq, Addr.mk.injEq, and_true] at hgw
            subst hgw
            obtain ⟨A, hA, hnews⟩ := hdr9 (b + 1)
            have hown0 := World.ownsRow_made (base := w9.heap.size) (e := 108) (size := 2) w9.drew #[] 0 (Nat.le_refl _) (by simp) rfl
            have hb1i : (b : Int) + 1 ≤ (s2.left.length : Int) := by omega
            have hbw1 := IntWalk.i64_in ((b : Int) + 1) (by omega)
            have hbw2 : (0 : Int) ≤ (b : Int) + 1 := by omega
            have hbw3 : ((b : Int) + 1).toNat = b + 1 := by omega
            have hbc : b ≤ cW2 := by omega
            have hbc1 : b + 1 ≤ cW2 := by omega
            clear hdr9
            have HDN := Lib.hid (rfl : wk (s2.done.set r' (dr' + 1)) s2.left = wk (s2.done.set r' (dr' + 1)) s2.left)
            have HTK9 := Lib.hid htk9
            have HNEWS := Lib.hid hnews
            have HOWN0 := Lib.hid hown0
            clear htk9 hnews hown0
            have hq9 : (s2.left.take b ++ s2.left.drop (b + 1)).length = b + (s2.left.length - (b + 1)) := by simp; omega
            go_cut [] (fun wc9 => ∃ (ao2 : Option Addr) (c2 : Nat), Hid (SM w0 wJ wc9 (some w.heap.size :: rowsL (.slice (some ⟨gE, 0, .none⟩) s2.ended.length cE2) (.slice aT2 s2.trace.length cT2) (.slice aS2 s2.switches.length cS2) (.slice (some ⟨gW, 0, .none⟩) s2.left.length cW2) (.slice .none 0 0)) w.heap.size n' (.slice (some ⟨gE, 0, .none⟩) s2.ended.length cE2) (.slice ao' (s2.trace.length + 1) c') (.slice aS2 s2.switches.length cS2) (.slice ao2 (b + (s2.left.length - (b + 1))) c2) (.slice .none 0 0) x { s2 with trace := s2.trace ++ [(tq : Int)], done := s2.done.set r' (dr' + 1), ended := s2.ended.set r' ((k : Int) + 1), left := s2.left.take b ++ s2.left.drop (b + 1) } []))
            case first =>
              go_wp2_with fail
              go_region_law (first
                | (refine step_append_own rfl _ _ 79 rfl w9.heap.size 108 i0 zWork 2 16 Tryd.underlying79 hi0 hz0 hz1 hz2 rfl (by decide) _ _ _ rfl HOWN0.out ⟨gW, 0, .none⟩ b cW2 (wks ((wk (s2.done.set r' (dr' + 1)) s2.left).take b)) rfl (by rw [wks_len, List.length_take, wk_len, Nat.min_eq_left (by omega)]) (HTK9.out b _ (bw_trans (bw_drew _) (bw_alloc _ _))) (wks_one _) (by unfold maxLen; omega) (by omega) (by simp) ?_
                   intro v1 wA hown1 hgrow1 _
                   have HW2 := Lib.hid (show Bw w9 wA from Below.grown (Below.alloc (bw_drew w9) (Nat.le_refl _) _) hgrow1 (by simp) (fun g hg => by have := own_cap0 HOWN0.out g hg; omega))
                   have hz2' := HW2.out.size
                   have p4 := cell_bw HW2.out b4
                   have lB1 := Nat.lt_of_lt_of_le lB hz2')
                | (refine step_append_own rfl _ _ 79 rfl w9.heap.size 108 i0 zWork 2 16 Tryd.underlying79 hi0 hz0 hz1 hz2 rfl (by decide) _ _ _ rfl hown1 A (s2.left.length - (b + 1)) (cW2 - (b + 1)) (wks ((wk (s2.done.set r' (dr' + 1)) s2.left).drop (b + 1))) rfl (by rw [wks_len, List.length_drop, wk_len]) (HNEWS.out _ HW2.out) (wks_one _) (by unfold maxLen; omega) (by omega) hz2' ?_
                   intro v2 wB hown2 hgrow2 _
                   obtain ⟨ao2, c2, hu⟩ := own_form hown2
                   subst hu
                   have HW3 : Hid (Bw w9 wB) := Below.grown HW2.out hgrow2 hz2' (fun g hg => by have := own_cap0 hown1 g hg; omega)
                   have q4 := cell_bw HW3.out b4
                   have lB2 := Nat.lt_of_lt_of_le lB HW3.out.size
                   have bf2 := blk_free (blk_bw HW3.out HS9.out.box)))
              all_goals go_wp2_with fail
              all_goals go_meet
              all_goals
                refine ⟨ao2, c2, ?_⟩
                rw [← hq9]
                exact HS9.out.putNew HW3.out (by rw [wk_cut, wks_append]; simpa [hq9] using hown2)
            case rest =>
              clear b0 b1 b2 b3 b4 b5 b6 b7 bf lB HOWN0 HTK9 HNEWS hA hq9 lg
              obtain ⟨ao2, c2, HS11⟩ := hcut
              have hwk : tick l js false x k s = { s2 with trace := s2.trace ++ [(tq : Int)], done := s2.done.set r' (dr' + 1), ended := s2.ended.set r' ((k : Int) + 1), left := s2.left.take b ++ s2.left.drop (b + 1) } := by
                rw [EF.out, still_erase HI3.out.sorted hbr.out hrel (HI3.out.left_e HOK.out) (by omega)]
              have HS12 := Lib.hid (HS4.out.unbase HS11.out)
              have HWK := Lib.hid hwk
              clear hwk
              obtain ⟨b0, b1, b2, b3, b4, b5, b6, b7⟩ := box8 HS12.out.box
              have lB := blk_lt HS12.out.box
              have z := HS12.out.turn.heap HZ.out HZN.out
              obtain ⟨z0, z1, z2, z3, z4, z5, z6, z7⟩ := box8 z
              have zl := blk_lt z
              have zf := fun j => blk_free z j
              have hzn2 := HS12.out.out_of HZN.out HZL.out
              have Z := Lib.hid z
              have HZN2 := Lib.hid hzn2
              clear z hzn2
              go_wp2
              refine bodyPost_ret (v := .agg #[.slice (some ⟨gE, 0, .none⟩) s2.ended.length cE2, .slice ao' (s2.trace.length + 1) c', .slice aS2 s2.switches.length cS2, .bool s2.high, .slice ao2 (b + (s2.left.length - (b + 1))) c2, .int .i64 n', .int .i64 x.p, .int .i64 x.q]) (by simp [results, Tryd.results53, go_sem, z0, z1, z2, z3, z4, z5, z6, z7]) rfl ?_
              refine ⟨n', HNX.out, ?_⟩
              rw [HWK.out]
              exact HS12.out.endR HB1.out (Nat.le_refl _) (w.heap.size + 1) (turn8 _ _ _ _ _ _ _ _ _ _) (by omega) HZN2.out (by omega)
          · have e104 : (dr' + 1 == z) = false := by simp [c1]
            have hcr : cr = true := by rw [← ec]; exact cc
            have hhf : hh = false := by rw [← eh]; exact ch
            subst hcr hhf
            have e146 : (dr' + 1 == T.low) = true := by simp [cl]
            have HS8h : Hid (SM w0 wJ w8 (some w.heap.size :: rowsL (.slice aE2 s2.ended.length cE2) (.slice aT2 s2.trace.length cT2) (.slice aS2 s2.switches.length cS2) (.slice (some ⟨gW, 0, .none⟩) s2.left.length cW2) (.slice .none 0 0)) w.heap.size n' (.slice aE2 s2.ended.length cE2) (.slice ao' (s2.trace.length + 1) c') (.slice aS2 s2.switches.length cS2) (.slice (some ⟨gW, 0, .none⟩) s2.left.length cW2) (.slice .none 0 0) x { s2 with trace := s2.trace ++ [(tq : Int)], done := s2.done.set r' (dr' + 1), high := false } []) := by rw [← eh]; exact HS8'.out
            have hwk : tick l js false x k s = swS l js ((k + 1 : Nat) : Int) { s2 with trace := s2.trace ++ [(tq : Int)], done := s2.done.set r' (dr' + 1), high := false } := by rw [ef]; simp [swS]
            have HSw := Lib.hid (HS4.out.unbase HS8h.out)
            have z := HSw.out.turn.heap HZ.out HZN.out
            have hzn2 := HSw.out.out_of HZN.out HZL.out
            have hzl2 := blk_lt z
            have hswl := HI3.out.swlen
            have hld8 : ∀ i ∈ s2.left, ∃ d, (s2.done.set r' (dr' + 1))[i]? = some d := fun i hi => by
              obtain ⟨d0, h0⟩ := HI3.out.left_d i hi
              exact getSome (by rw [List.length_set]; exact (List.getElem?_eq_some_iff.1 h0).1)
            clear HS8'
            obtain ⟨b0, b1, b2, b3, b4, b5, b6, b7⟩ := box8 HSw.out.box
            have bf := fun j => blk_free HSw.out.box j
            have lB := blk_lt HSw.out.box
            have C1 := Lib.hid c1
            have EF := Lib.hid ef
            have EH := Lib.hid eh
            have EC := Lib.hid ec
            have HJ8 := Lib.hid hj8
            have HWK := Lib.hid hwk
            have Z := Lib.hid z
            have HZN2 := Lib.hid hzn2
            have HLD8 := Lib.hid hld8
            clear c1 ef eh ec hj8 hwk z hzn2 hld8
            go_wp2_with fail
            refine (l7Switch_any _ _ _ _ n' (k + 1) w0 _ l js _ _ _ _ x { s2 with trace := s2.trace ++ [(tq : Int)], done := s2.done.set r' (dr' + 1), high := false } HOK.out HR.out HS.out HSw.out.rows hlen2 HI3.out.lt HI3.out.elen (by dsimp only; omega) HLD8.out (by omega)).mono ?_
            rintro e w9 ⟨vE9, vT9, vS9, vW9, rfl, hR9, hT9, hin9⟩
            rw [← HWK.out] at hR9 ⊢
            obtain ⟨s9, hs9⟩ : ∃ s9, tick l js false x k s = s9 := ⟨_, rfl⟩
            rw [hs9] at hR9 ⊢
            have z9 := hT9.heap Z.out HZN2.out
            obtain ⟨z0, z1, z2, z3, z4, z5, z6, z7⟩ := box8 z9
            have zl := blk_lt z9
            have zf := fun j => blk_free z9 j
            obtain ⟨aE9, cE9, eE⟩ := own_form hR9.e
            obtain ⟨aT9, cT9, eT⟩ := own_form hR9.t
            obtain ⟨aS9, cS9, eS⟩ := own_form hR9.sw
            obtain ⟨aW9, cW9, eW⟩ := own_form hR9.k
            subst eE eT eS eW
            clear b0 b1 b2 b3 b4 b5 b6 b7 bf lB j0 j2 lj t0 t4
            have HR9 := Lib.hid hR9
            have HT9 := Lib.hid hT9
            have HIN9 := Lib.hid hin9
            have Z9 := Lib.hid z9
            have HS9 := Lib.hid hs9
            clear hR9 hT9 hin9 z9 hs9
            go_wp2
            refine bodyPost_ret (v := .agg #[.slice aE9 s9.ended.length cE9, .slice aT9 s9.trace.length cT9, .slice aS9 s9.switches.length cS9, .bool s9.high, .slice aW9 s9.left.length cW9, .int .i64 n', .int .i64 x.p, .int .i64 x.q]) (by simp [results, Tryd.results53, go_sem, z0, z1, z2, z3, z4, z5, z6, z7]) rfl ?_
            refine ⟨n', HNX.out, ?_⟩
            rw [HS9.out]
            exact HSw.out.callR HB1.out (Nat.le_refl _) HR9.out HT9.out HIN9.out (w.heap.size + 1) (turn8 _ _ _ _ _ _ _ _ _ _) (by omega) HZN2.out hzl2 (by omega)
          · have e104 : (dr' + 1 == z) = false := by simp [c1]
            obtain ⟨lw, el⟩ : ∃ lw, (dr' + 1 == T.low) = lw := ⟨_, rfl⟩
            have hno : ¬ (hh = false ∧ cr = true ∧ lw = true) := fun h => c2 ⟨by rw [eh]; exact h.1, by rw [ec]; exact h.2.1, by have := h.2.2; rw [← el] at this; simpa using this⟩
            have HS8h : Hid (SM w0 wJ w8 (some w.heap.size :: rowsL (.slice aE2 s2.ended.length cE2) (.slice aT2 s2.trace.length cT2) (.slice aS2 s2.switches.length cS2) (.slice (some ⟨gW, 0, .none⟩) s2.left.length cW2) (.slice .none 0 0)) w.heap.size n' (.slice aE2 s2.ended.length cE2) (.slice ao' (s2.trace.length + 1) c') (.slice aS2 s2.switches.length cS2) (.slice (some ⟨gW, 0, .none⟩) s2.left.length cW2) (.slice .none 0 0) x { s2 with trace := s2.trace ++ [(tq : Int)], done := s2.done.set r' (dr' + 1), high := hh } []) := by rw [← eh]; exact HS8'.out
            have hwk : tick l js false x k s = { s2 with trace := s2.trace ++ [(tq : Int)], done := s2.done.set r' (dr' + 1), high := hh } := by rw [ef, ← eh]
            have HSw := Lib.hid (HS4.out.unbase HS8h.out)
            clear HS8' HS8h
            obtain ⟨b0, b1, b2, b3, b4, b5, b6, b7⟩ := box8 HSw.out.box
            have lB := blk_lt HSw.out.box
            have z := HSw.out.turn.heap HZ.out HZN.out
            obtain ⟨z0, z1, z2, z3, z4, z5, z6, z7⟩ := box8 z
            have zl := blk_lt z
            have zf := fun j => blk_free z j
            have hzn2 := HSw.out.out_of HZN.out HZL.out
            have Z := Lib.hid z
            have HZN2 := Lib.hid hzn2
            clear z hzn2
            have C1 := Lib.hid c1
            have C2 := Lib.hid c2
            have EF := Lib.hid ef
            have EH := Lib.hid eh
            have EC := Lib.hid ec
            have HJ8 := Lib.hid hj8
            have HWK := Lib.hid hwk
            clear c1 c2 ef eh ec hj8 hwk
            cases hh <;> cases cr <;> cases lw
            all_goals first | exact absurd ⟨rfl, rfl, rfl⟩ hno | skip
            all_goals
              clear hno
              go_wp2
              refine bodyPost_ret (v := .agg #[.slice aE2 s2.ended.length cE2, .slice ao' (s2.trace.length + 1) c', .slice aS2 s2.switches.length cS2, .bool _, .slice (some ⟨gW, 0, .none⟩) s2.left.length cW2, .int .i64 n', .int .i64 x.p, .int .i64 x.q]) (by simp [results, Tryd.results53, go_sem, z0, z1, z2, z3, z4, z5, z6, z7]; rfl) rfl ?_
              refine ⟨n', HNX.out, ?_⟩
              rw [HWK.out]
              exact HSw.out.endR HB1.out (Nat.le_refl _) (w.heap.size + 1) (turn8 _ _ _ _ _ _ _ _ _ _) (by omega) HZN2.out (by omega)
set_option maxRecDepth 100000 in
set_option maxHeartbeats 16000000 in
theorem l7Tick_true (ao bo : Option Addr) (c d n k : Nat) (w0 w : World) (l : List Tk) (js : List Jb) (vE vT vS vW : Value) (x : Fr) (s : St) (hok : jobsOk l js = true) (hr : RT w0 ao l) (hs : RJ w0 bo js) (hx1 : x.p ≤ 1000000000) (hx2 : x.q ≤ 1000000000) (hRows : Rows w0 w vE vT vS vW (.slice .none 0 0) s []) (hI : Inv l js (Here js k) k s) (hN : NX js k n) (htl : s.trace.length = k) (hk : k ≤ 200) :
    Calls Tryd.prog 53 #[.slice ao l.length c, .slice bo js.length d, .agg #[vE, vT, vS, .bool s.high, vW, .int .i64 n, .int .i64 x.p, .int .i64 x.q], .int .i64 1, .int .i64 k] w fun e w' => ∃ n', NX js (k + 1) n' ∧ SpR w0 w (rowsL vE vT vS vW (.slice .none 0 0)) x (tick l js true x k s) n' e w' := by
  have h60 := jobs_len hok
  obtain ⟨aE, cE, eE⟩ := own_form hRows.e
  obtain ⟨aT, cT, eT⟩ := own_form hRows.t
  obtain ⟨aS, cS, eS⟩ := own_form hRows.sw
  obtain ⟨aW, cW, eW⟩ := own_form hRows.k
  subst eE eT eS eW
  obtain ⟨L, hL⟩ : ∃ L, rowsL (.slice aE s.ended.length cE) (.slice aT s.trace.length cT) (.slice aS s.switches.length cS) (.slice aW s.left.length cW) (.slice .none 0 0) = L := ⟨_, rfl⟩
  have hst := SM.start (nx := n) (x := x) (Z := #[.slice .none 0 0, .slice .none 0 0, .slice .none 0 0, .bool false, .slice .none 0 0, .int .i64 0, .int .i64 0, .int .i64 0]) (E2 := 81) hRows
  have hb1 : Bw w ((w.alloc (.cells #[.slice aE s.ended.length cE, .slice aT s.trace.length cT, .slice aS s.switches.length cS, .bool s.high, .slice aW s.left.length cW, .int .i64 n, .int .i64 x.p, .int .i64 x.q] 81)).alloc (.cells #[.slice .none 0 0, .slice .none 0 0, .slice .none 0 0, .bool false, .slice .none 0 0, .int .i64 0, .int .i64 0, .int .i64 0] 81)) := bw_trans (bw_alloc _ _) (bw_alloc _ _)
  have hzl : w.heap.size + 1 < ((w.alloc (.cells #[.slice aE s.ended.length cE, .slice aT s.trace.length cT, .slice aS s.switches.length cS, .bool s.high, .slice aW s.left.length cW, .int .i64 n, .int .i64 x.p, .int .i64 x.q] 81)).alloc (.cells #[.slice .none 0 0, .slice .none 0 0, .slice .none 0 0, .bool false, .slice .none 0 0, .int .i64 0, .int .i64 0, .int .i64 0] 81)).heap.size := by simp
  have hbs := hRows.bw.size
  rw [hL] at hst ⊢
  obtain ⟨i0, hi0, hz0, hz1, hz2⟩ := info_parts infoWork
  have HR := Lib.hid hr
  have HS := Lib.hid hs
  have HST := Lib.hid hst
  have HB1 := Lib.hid hb1
  have HZL := Lib.hid hzl
  have HOK := Lib.hid hok
  have HI := Lib.hid hI
  have HN := Lib.hid hN
  have HROWS := Lib.hid hRows
  have HL := Lib.hid hL
  have HTL := Lib.hid htl
  clear hr hs hst hb1 hzl hok hI hN hRows hL htl
  go_enter Tryd.func53, Tryd.ntmps53
  go_upto_region 1 with fail
  obtain ⟨w1, e1⟩ : ∃ w1 : World, ((w.alloc (.cells #[.slice aE s.ended.length cE, .slice aT s.trace.length cT, .slice aS s.switches.length cS, .bool s.high, .slice aW s.left.length cW, .int .i64 n, .int .i64 x.p, .int .i64 x.q] 81)).alloc (.cells #[.slice .none 0 0, .slice .none 0 0, .slice .none 0 0, .bool false, .slice .none 0 0, .int .i64 0, .int .i64 0, .int .i64 0] 81)) = w1 := ⟨_, rfl⟩
  rw [e1] at HST HB1 HZL ⊢
  clear e1
  obtain ⟨hS0, hz, hzn⟩ := HST.out
  clear HST
  have HZ := Lib.hid hz
  have HZN := Lib.hid hzn
  clear hz hzn
  have HS0 := Lib.hid hS0
  clear hS0
  obtain ⟨b0, b1, b2, b3, b4, b5, b6, b7⟩ := box8 HS0.out.box
  have bf := fun j => blk_free HS0.out.box j
  have lB := blk_lt HS0.out.box
  go_upto_if 19 with fail
  go_cut [] (fun wc => ∃ s1 : St, Hid (low0 s = s1) ∧ Hid (SM w0 w1 wc (some w.heap.size :: L) w.heap.size n (.slice aE s1.ended.length cE) (.slice aT s1.trace.length cT) (.slice aS s1.switches.length cS) (.slice aW s1.left.length cW) (.slice .none 0 0) x s1 []))
  case first =>
    by_cases hl0 : s.left = []
    · have hlow : low0 s = { s with high := false } := by rw [low0, if_pos hl0]
      have e19 : ((s.left.length : Int) == 0) = true := by rw [hl0]; rfl
      have HS2 := Lib.hid (HS0.out.setHigh false)
      have HL0 := Lib.hid hl0
      have HLOW := Lib.hid hlow
      clear hl0 hlow
      go_wp2_with fail
      go_meet
      exact ⟨_, HLOW.out, HS2.out⟩
    · have hlow : low0 s = s := by rw [low0, if_neg hl0]
      have e19 : ((s.left.length : Int) == 0) = false := by
        have := List.length_pos_iff.2 hl0
        simp; exact hl0
      have HL0 := Lib.hid hl0
      have HLOW := Lib.hid hlow
      clear hl0 hlow
      go_wp2_with fail
      go_meet
      exact ⟨_, HLOW.out, HS0.out⟩
  case rest =>
    clear b0 b1 b2 b3 b4 b5 b6 b7 bf lB HS0
    obtain ⟨s1, hs1, hS1⟩ := hcut
    have hI1 : Hid (Inv l js (Come js k 0) k s1) := by rw [← hs1.out]; exact HI.out.low0.congr (fun i _ => by unfold Here Come; omega)
    obtain ⟨b0, b1, b2, b3, b4, b5, b6, b7⟩ := box8 hS1.out.box
    have bf := fun j => blk_free hS1.out.box j
    have lB := blk_lt hS1.out.box
    go_wp2_with fail
    refine (l7Come_any _ _ _ _ _ _ _ _ l js _ _ _ _ x s1 HOK.out HR.out HS.out hS1.out.rows hI1.out HN.out hk).mono ?_
    obtain ⟨s2, hs2⟩ : ∃ s2, comeFrom l js k js.length 0 s1 = s2 := ⟨_, rfl⟩
    rw [hs2]
    rintro e w2 ⟨n', hNX, vE2, vT2, vS2, vW2, rfl, hR2, hT2, hin2⟩
    obtain ⟨aE2, cE2, eE⟩ := own_form hR2.e
    obtain ⟨aT2, cT2, eT⟩ := own_form hR2.t
    obtain ⟨aS2, cS2, eS⟩ := own_form hR2.sw
    obtain ⟨aW2, cW2, eW⟩ := own_form hR2.k
    subst eE eT eS eW
    have hB2 := hT2.heap hS1.out.box hS1.out.nb
    have HSa := Lib.hid (SM.take (nx' := n') hS1.out hR2 hT2 hin2)
    have hc3 : comeFrom l js k js.length 0 (low0 s) = s2 := by rw [hs1.out, hs2]
    have hI3 : Inv l js (Here js (k + 1)) k s2 := by rw [← hc3]; exact HI.out.comes HOK.out
    have hlen2 := hI3.len
    have htr2 : s2.trace.length = k := by
      have h1 := (comeFrom_keep l js k js.length 0 (low0 s)).1
      rw [hc3, (low0_keep s).1] at h1
      rw [h1]; exact HTL.out
    have htick : tick l js true x k s = work l js true x ((k : Int) + 1) s2 := by rw [tick, hc3]
    have hbE := Lib.hid (Turn.trans hS1.out.turn hT2 (fun g m => hS1.out.inL g m))
    clear b0 b1 b2 b3 b4 b5 b6 b7 bf lB hR2 hT2 hin2 hs2 hI1
    have bf := fun j => blk_free hB2 j
    have lB := blk_lt hB2
    obtain ⟨b0, b1, b2, b3, b4, b5, b6, b7⟩ := box8 hB2
    have HNX := Lib.hid hNX
    have HC3 := Lib.hid hc3
    have HI3 := Lib.hid hI3
    have HTR2 := Lib.hid htr2
    have HTICK := Lib.hid htick
    have HB2 := Lib.hid hB2
    clear hNX hc3 hI3 htr2 htick hB2
    go_upto_region 4 with fail
    obtain ⟨w3, e3⟩ : ∃ w3 : World, ((((((((w2.setCell ⟨w.heap.size, 0, .none⟩ (.slice aE2 s2.ended.length cE2)).setCell ⟨w.heap.size, 1, .none⟩ (.slice aT2 s2.trace.length cT2)).setCell ⟨w.heap.size, 2, .none⟩ (.slice aS2 s2.switches.length cS2)).setCell ⟨w.heap.size, 3, .none⟩ (.bool s2.high)).setCell ⟨w.heap.size, 4, .none⟩ (.slice aW2 s2.left.length cW2)).setCell ⟨w.heap.size, 5, .none⟩ (.int .i64 n')).setCell ⟨w.heap.size, 6, .none⟩ (.int .i64 x.p)).setCell ⟨w.heap.size, 7, .none⟩ (.int .i64 x.q)) = w3 := ⟨_, rfl⟩
    rw [e3] at HSa ⊢
    clear e3 b0 b1 b2 b3 b4 b5 b6 b7 bf lB hS1 hbE
    obtain ⟨b0, b1, b2, b3, b4, b5, b6, b7⟩ := box8 HSa.out.box
    have bf := fun j => blk_free HSa.out.box j
    have lB := blk_lt HSa.out.box
    by_cases hne : s2.left = []
    · have e30 : ((s2.left.length : Int) == 0) = true := by rw [hne]; rfl
      have hwk : tick l js true x k s = { s2 with trace := s2.trace ++ [-1] } := by rw [HTICK.out, work, hne]
      have HS4 := Lib.hid (HSa.out.on (bw_alloc _ (.cells #[.int .i64 (-1)] 3)))
      have h200 : s2.trace.length ≤ 1000000 := by rw [HTR2.out]; omega
      have HNE := Lib.hid hne
      have HWK := Lib.hid hwk
      clear hne hwk
      go_upto_region 6 with (at_builtin; refine wpList_app_int rfl _ _ rfl w0.heap.size s2.trace.length _ s2.trace (-1) rfl HS4.out.rows.t _ rfl (cell_new0 _ _ _) h200 HS4.out.rows.bw.size ?_; intro ao' c' w5 hown' hgrow' hwhere'; have hA := HS4.out.app_t trivial rfl hown' hgrow' hwhere'; have r1 := blk_cell hA.1 1 rfl; have r1f := blk_free hA.1 1; have HS5 := Lib.hid hA.2; clear hA hown' hgrow' hwhere' b0 b1 b2 b3 b4 b5 b6 b7 bf)
      obtain ⟨w6, e6⟩ : ∃ w6 : World, w5.setCell ⟨w.heap.size, 1, .none⟩ (.slice ao' (s2.trace.length + 1) c') = w6 := ⟨_, rfl⟩
      rw [e6] at HS5 ⊢
      clear e6 r1 r1f HS4 HSa lB
      obtain ⟨b0, b1, b2, b3, b4, b5, b6, b7⟩ := box8 HS5.out.box
      have lB := blk_lt HS5.out.box
      have z := HS5.out.turn.heap HZ.out HZN.out
      obtain ⟨z0, z1, z2, z3, z4, z5, z6, z7⟩ := box8 z
      have zl := blk_lt z
      have zf := fun j => blk_free z j
      have hzn2 := HS5.out.out_of HZN.out HZL.out
      have Z := Lib.hid z
      have HZN2 := Lib.hid hzn2
      clear z hzn2
      go_wp2
      refine bodyPost_ret (v := .agg #[.slice aE2 s2.ended.length cE2, .slice ao' (s2.trace.length + 1) c', .slice aS2 s2.switches.length cS2, .bool s2.high, .slice aW2 s2.left.length cW2, .int .i64 n', .int .i64 x.p, .int .i64 x.q]) (by simp [results, Tryd.results53, go_sem, z0, z1, z2, z3, z4, z5, z6, z7]) rfl ?_
      refine ⟨n', HNX.out, ?_⟩
      rw [HWK.out]
      exact HS5.out.endR HB1.out (Nat.le_refl _) (w.heap.size + 1) (turn8 _ _ _ _ _ _ _ _ _ _) (by omega) HZN2.out (by omega)
    · have e30 : ((s2.left.length : Int) == 0) = false := by simp; exact hne
      have hl1 := List.length_pos_iff.2 hne
      obtain ⟨r, j, T, dd, hrm, ⟨r0, q, hrq, hbest⟩, hjr, hTr, htkr, hcrr, hTo, hdr, her, _, hd0, hdn, hdt, hdl, ht0, htl', hRan⟩ := work_cases HOK.out HI3.out true x hne
      rw [← HTICK.out] at hRan
      have hr0 : s2.left[0]? = some r0 := by rw [hrq]; rfl
      have hbest0 : bestOf (goesB l js true x s2.high) r0 (s2.left.drop 1) = r := by rw [hrq]; exact hbest.symm
      obtain ⟨jt, y, z⟩ := j
      dsimp only at hdn hdt ht0 htl' hTr
      obtain ⟨tq, rfl⟩ : ∃ n : Nat, jt = (n : Int) := ⟨jt.toNat, by omega⟩
      rw [show ((tq : Int)).toNat = tq by omega] at hTr
      have htql : tq < l.length := by omega
      clear hrq hbest htl' q
      have HNE := Lib.hid hne
      have HJR := Lib.hid hjr
      have HTR := Lib.hid hTr
      have HTKR := Lib.hid htkr
      have HCRR := Lib.hid hcrr
      have HTO := Lib.hid hTo
      have HDR := Lib.hid hdr
      have HER := Lib.hid her
      have HDL := Lib.hid hdl
      have HRM := Lib.hid hrm
      have HRAN := Lib.hid hRan
      have HR0 := Lib.hid hr0
      have HBEST0 := Lib.hid hbest0
      clear hne hjr hTr htkr hcrr hTo hdr her hdl hrm hRan hr0 hbest0
      go_wp2_with fail
      clear b0 b1 b2 b3 b4 b5 b6 b7 bf lB
      obtain ⟨wb2, rfl⟩ : ∃ wb2 : World, wb2 = w3 := ⟨_, rfl⟩
      go_loopw [11, 12] (fun u i wr => ∃ p b r' : Nat, p ≤ s2.left.length ∧ i = .int .i64 p ∧ u = .int .i64 b ∧ Hid (s2.left[b]? = some r') ∧ Hid (bestOf (goesB l js true x s2.high) r' (s2.left.drop p) = r) ∧ Bw wb2 wr) (fun _ i _ => s2.left.length - (intOf i).toNat)
      case atStart => exact ⟨1, 0, r0, hl1, rfl, rfl, HR0.out, HBEST0.out, Bw.refl _⟩
      case round =>
        obtain ⟨p, b, r', hp, rfl, rfl, hbr, hb, hbl⟩ := hrel
        have hS := Lib.hid (HSa.out.on hbl)
        obtain ⟨b0, b1, b2, b3, b4, b5, b6, b7⟩ := box8 hS.out.box
        have bf := fun j => blk_free hS.out.box j
        have lB := blk_lt hS.out.box
        obtain ⟨dr', hdr'⟩ := HI3.out.left_d r' (List.mem_of_getElem? hbr.out)
        obtain ⟨gW, cW', eW', hclc, lg, hw0, hw1⟩ := hS.out.rows.cellW (p := b) hbr.out hdr'
        simp only [Value.slice.injEq] at eW'
        obtain ⟨rfl, _, rfl⟩ := eW'
        have hbll := (List.getElem?_eq_some_iff.1 hbr.out).1
        by_cases hplt : p < s2.left.length
        · obtain ⟨iq, hiq⟩ := getSome hplt
          have hil : iq < js.length := HI3.out.lt iq (List.mem_of_getElem? hiq)
          have hrl : r' < js.length := HI3.out.lt r' (List.mem_of_getElem? hbr.out)
          obtain ⟨dq, hdq⟩ := HI3.out.left_d iq (List.mem_of_getElem? hiq)
          obtain ⟨gW', cW', eW', _, _, hv0, _⟩ := hS.out.rows.cellW (p := p) hiq hdq
          simp only [Value.slice.injEq, Option.some.injEq, Addr.mk.injEq] at eW'
          obtain ⟨⟨rfl, _, _⟩, _, rfl⟩ := eW'
          obtain ⟨qa, ya, za, Ta, hja, _⟩ := job_task HOK.out hil
          obtain ⟨qb, yb, zb, Tb, hjb, _⟩ := job_task HOK.out hrl
          obtain ⟨bj, oj, hbo, hbsj, c0, c1, c2⟩ := (HS.out.bw hS.out.rows.bw) _ _ hja
          obtain ⟨bj', oj', hbo', _, f0, f1, f2⟩ := (HS.out.bw hS.out.rows.bw) _ _ hjb
          rw [hbo] at hbo'
          simp only [Option.some.injEq, Addr.mk.injEq, and_true] at hbo'
          obtain ⟨rfl, rfl⟩ := hbo'
          subst hbo
          dsimp only at c0 c1 c2 f0 f1 f2
          have hcg := fun (W : World) (hW : Bw wr W) (aE aT aS aW : Value) => (l7First_due (w := W) (ao := ao) (c := c) (high := s2.high) (vE := aE) (vT := aT) (vS := aS) (vW := aW) (nx := n') HOK.out hx1 hx2 (HR.out.bw (bw_trans hS.out.rows.bw hW)) hja hjb)
          have hdp := take_at hiq
          obtain ⟨gg, hgg⟩ : ∃ gg, goesB l js true x s2.high iq r' = gg := ⟨_, rfl⟩
          rw [hgg] at hcg
          have hst : bestOf (goesB l js true x s2.high) (if gg = true then iq else r') (s2.left.drop (p + 1)) = r := by rw [← hgg, ← hb.out, hdp]; rfl
          have u0 := fun d os => cell_regrown b0 d os
          have u1 := fun d os => cell_regrown b1 d os
          have u2 := fun d os => cell_regrown b2 d os
          have u3 := fun d os => cell_regrown b3 d os
          have u4 := fun d os => cell_regrown b4 d os
          have u5 := fun d os => cell_regrown b5 d os
          have u6 := fun d os => cell_regrown b6 d os
          have u7 := fun d os => cell_regrown b7 d os
          have x0 := fun d os => cell_regrown hw0 d os
          have x1 := fun d os => cell_regrown hv0 d os
          have c0' := fun d os => cell_regrown c0 d os
          have c1' := fun d os => cell_regrown c1 d os
          have c2' := fun d os => cell_regrown c2 d os
          have f0' := fun d os => cell_regrown f0 d os
          have f1' := fun d os => cell_regrown f1 d os
          have f2' := fun d os => cell_regrown f2 d os
          have HCG := Lib.hid hcg
          have HST := Lib.hid hst
          have HIQ := Lib.hid hiq
          have HJA := Lib.hid hja
          have HJB := Lib.hid hjb
          have HDP := Lib.hid hdp
          have HGG := Lib.hid hgg
          have HDQ := Lib.hid hdq
          have HDR' := Lib.hid hdr'
          clear hcg hst hiq hja hjb hdp hgg hdq hdr'
          go_wp2_with fail
          refine wp_region_quiet_below (by kernel_rfl) (by kernel_rfl) ?_
          repeat (go_big_quiet_step ((go_at_call 82; exact Calls.regrown_of (HCG.out _ (below_regrown _ _ _) _ _ _ _))))
          refine wpQuiet_nil ?_
          intro wq hw'
          have hbq := bw_of_ex hw'
          clear hw'
          clear u0 u1 u2 u3 u4 u5 u6 u7 x0 x1 c0' c1' c2' f0' f1' f2'
          cases gg
          · go_wp2_with fail
            go_roundw
            case rel => exact ⟨p + 1, b, r', by omega, by go_num, rfl, hbr.out, HST.out, bw_trans hbl hbq⟩
            case measure => simp [intOf]; omega
          · go_wp2_with fail
            go_roundw
            case rel => exact ⟨p + 1, p, iq, by omega, by go_num, rfl, HIQ.out, HST.out, bw_trans hbl hbq⟩
            case measure => simp [intOf]; omega
        · obtain rfl : p = s2.left.length := by omega
          have hrr : r' = r := by have := hb.out; rw [List.drop_length] at this; exact this
          subst hrr
          obtain rfl : dr' = dd := by have := HDR.out; rw [hdr'] at this; simpa using this
          clear hb hdr'
          have hrl : r' < js.length := HI3.out.lt r' (List.mem_of_getElem? hbr.out)
          obtain ⟨j', T', hj', _, _, hy0, _, _, _, _, _, _, _⟩ := job_of HOK.out hrl
          rw [HJR.out] at hj'
          simp only [Option.some.injEq] at hj'
          subst hj'
          dsimp only at hy0
          obtain ⟨bj, oj, hboj, hbsj, c0, c1, c2⟩ := (HS.out.bw hS.out.rows.bw) _ _ HJR.out
          dsimp only at c0 c1 c2
          subst hboj
          go_upto_region 15 with fail
          have hS4 := hS.out.on (bw_alloc _ (.cells #[.int .i64 tq, .int .i64 y, .int .i64 z] 57))
          have hjb := heap_alloc_new wr (.cells #[.int .i64 tq, .int .i64 y, .int .i64 z] 57)
          have hjn : some wr.heap.size ∉ some w.heap.size :: rowsL (.slice aE2 s2.ended.length cE2) (.slice aT2 s2.trace.length cT2) (.slice aS2 s2.switches.length cS2) (.slice (some ⟨gW, 0, .none⟩) s2.left.length cW2) (.slice .none 0 0) := fun m => by
            rw [List.mem_cons] at m
            rcases m with m | m
            · simp at m; omega
            · have := (hS.out.rows.old m).2; omega
          obtain ⟨wJ, eJ⟩ : ∃ wJ : World, wr.alloc (.cells #[.int .i64 tq, .int .i64 y, .int .i64 z] 57) = wJ := ⟨_, rfl⟩
          obtain ⟨J, hJ⟩ : ∃ J : Nat, wr.heap.size = J := ⟨_, rfl⟩
          rw [hJ] at hjb hjn ⊢
          rw [eJ] at hS4 hjb ⊢
          clear eJ b0 b1 b2 b3 b4 b5 b6 b7 bf lB hw0 hw1 lg c0 c1 c2
          have HS5 := Lib.hid hS4.rebase
          have hlJ := blk_lt hjb
          have HS4 := Lib.hid hS4
          have HJB := Lib.hid hjb
          have HJN := Lib.hid hjn
          clear hS4 hjb hjn
          obtain ⟨b0, b1, b2, b3, b4, b5, b6, b7⟩ := box8 HS5.out.box
          have bf := fun j => blk_free HS5.out.box j
          have lB := blk_lt HS5.out.box
          have j0 := blk_cell HJB.out 0 rfl
          have h200 : s2.trace.length ≤ 1000000 := by rw [HTR2.out]; omega
          have HS6 := Lib.hid (HS5.out.on (bw_alloc _ (.cells #[.int .i64 tq] 3)))
          go_upto_region 16 with (at_builtin; refine wpList_app_int rfl _ _ rfl w0.heap.size s2.trace.length _ s2.trace (tq : Int) rfl HS6.out.rows.t _ rfl (cell_new0 _ _ _) h200 HS6.out.rows.bw.size ?_; intro ao' c' w5 hown' hgrow' hwhere'; have hA := HS6.out.app_t trivial rfl hown' hgrow' hwhere'; have r1 := blk_cell hA.1 1 rfl; have r1f := blk_free hA.1 1; have HS7 := Lib.hid hA.2; clear hA hown' hgrow' hwhere' b0 b1 b2 b3 b4 b5 b6 b7 bf)
          obtain ⟨w6, e6⟩ : ∃ w6 : World, w5.setCell ⟨w.heap.size, 1, .none⟩ (.slice ao' (s2.trace.length + 1) c') = w6 := ⟨_, rfl⟩
          rw [e6] at HS7 ⊢
          clear e6 r1 r1f HS6 HS5 lB j0
          obtain ⟨b0, b1, b2, b3, b4, b5, b6, b7⟩ := box8 HS7.out.box
          have bf := fun j => blk_free HS7.out.box j
          have lB := blk_lt HS7.out.box
          obtain ⟨g', c'', eg, _, lg, hw0, hw1, hwf, hS8⟩ := HS7.out.setWork (p := b) (i := r') (d := dr') hbr.out HDR.out HI3.out.sorted (dr' + 1)
          simp only [Value.slice.injEq, Option.some.injEq, Addr.mk.injEq] at eg
          obtain ⟨⟨rfl, _, _⟩, _, rfl⟩ := eg
          have hd1 := IntWalk.i64_in (dr' + 1) (by omega)
          have HS8 := Lib.hid hS8
          clear hS8
          go_upto_region 18 with fail
          obtain ⟨w8, e8⟩ : ∃ w8 : World, w6.setCell ⟨gW, b * 2 + 1, .none⟩ (.int .i64 (dr' + 1)) = w8 := ⟨_, rfl⟩
          have HS8' := HS8
          rw [e8] at HS8' ⊢
          clear e8 HS8 HS7 b0 b1 b2 b3 b4 b5 b6 b7 bf lB hw0 hw1 hwf lg hd1
          have hj8 := HS8'.out.beside HJB.out HJN.out
          have j0 := blk_cell hj8 0 rfl
          have j2 := blk_cell hj8 2 rfl
          have lj := blk_lt hj8
          have hd1 := IntWalk.i64_in (dr' + 1) (by omega)
          have hk1 := IntWalk.i64_in ((k : Int) + 1) (by omega)
          obtain ⟨hh, eh⟩ : ∃ hh, s2.high = hh := ⟨_, rfl⟩
          obtain ⟨b2', o2, hao, hbs2, t0, t1, t2, t3, t4⟩ := (HR.out.bw HS8'.out.rows.bw) _ _ HTR.out
          subst hao
          obtain ⟨cr, ec⟩ : ∃ cr, T.crit = cr := ⟨_, rfl⟩
          rw [ec] at t4
          clear t1 t2 t3
          rcases HRAN.out with ⟨c1, ef⟩ | ⟨c1, ch, cc, cl, ef⟩ | ⟨c1, c2, ef⟩
          · have e104 : (dr' + 1 == z) = true := by simp [c1]
            obtain ⟨gE, cE', eE, lE, ce, cf, hS9⟩ := HS8'.out.setEnded (i := r') (old := -1) HER.out ((k : Int) + 1)
            have hrel := (List.getElem?_eq_some_iff.1 HER.out).1
            simp only [Value.slice.injEq] at eE
            obtain ⟨rfl, _, rfl⟩ := eE
            obtain ⟨b0, b1, b2, b3, b4, b5, b6, b7⟩ := box8 HS8'.out.box
            have bf := fun j => blk_free HS8'.out.box j
            have lB := blk_lt HS8'.out.box
            have HS9 := Lib.hid hS9
            have C1 := Lib.hid c1
            have EF := Lib.hid ef
            have EH := Lib.hid eh
            have EC := Lib.hid ec
            have HJ8 := Lib.hid hj8
            clear hS9 c1 ef eh ec hj8
            go_upto_region 20 with fail
            obtain ⟨w9, e9⟩ : ∃ w9 : World, w8.setCell ⟨gE, r', .none⟩ (.int .i64 ((k : Int) + 1)) = w9 := ⟨_, rfl⟩
            rw [e9] at HS9 ⊢
            clear e9 b0 b1 b2 b3 b4 b5 b6 b7 bf lB ce cf lE j0 j2 lj t0 t4
            obtain ⟨b0, b1, b2, b3, b4, b5, b6, b7⟩ := box8 HS9.out.box
            have bf := fun j => blk_free HS9.out.box j
            have lB := blk_lt HS9.out.box
            obtain ⟨gW', hgw, hncW, lg, htk9, hdr9⟩ := wk_from HS9.out.rows.k (wk_len _ _ ▸ rfl) hl1
            simp only [Option.some.injEq, Addr.mk.injEq, and_true] at hgw
            subst hgw
            obtain ⟨A, hA, hnews⟩ := hdr9 (b + 1)
            have hown0 := World.ownsRow_made (base := w9.heap.size) (e := 108) (size := 2) w9.drew #[] 0 (Nat.le_refl _) (by simp) rfl
            have hb1i : (b : Int) + 1 ≤ (s2.left.length : Int) := by omega
            have hbw1 := IntWalk.i64_in ((b : Int) + 1) (by omega)
            have hbw2 : (0 : Int) ≤ (b : Int) + 1 := by omega
            have hbw3 : ((b : Int) + 1).toNat = b + 1 := by omega
            have hbc : b ≤ cW2 := by omega
            have hbc1 : b + 1 ≤ cW2 := by omega
            clear hdr9
            have HDN := Lib.hid (rfl : wk (s2.done.set r' (dr' + 1)) s2.left = wk (s2.done.set r' (dr' + 1)) s2.left)
            have HTK9 := Lib.hid htk9
            have HNEWS := Lib.hid hnews
            have HOWN0 := Lib.hid hown0
            clear htk9 hnews hown0
            have hq9 : (s2.left.take b ++ s2.left.drop (b + 1)).length = b + (s2.left.length - (b + 1)) := by simp; omega
            go_cut [] (fun wc9 => ∃ (ao2 : Option Addr) (c2 : Nat), Hid (SM w0 wJ wc9 (some w.heap.size :: rowsL (.slice (some ⟨gE, 0, .none⟩) s2.ended.length cE2) (.slice aT2 s2.trace.length cT2) (.slice aS2 s2.switches.length cS2) (.slice (some ⟨gW, 0, .none⟩) s2.left.length cW2) (.slice .none 0 0)) w.heap.size n' (.slice (some ⟨gE, 0, .none⟩) s2.ended.length cE2) (.slice ao' (s2.trace.length + 1) c') (.slice aS2 s2.switches.length cS2) (.slice ao2 (b + (s2.left.length - (b + 1))) c2) (.slice .none 0 0) x { s2 with trace := s2.trace ++ [(tq : Int)], done := s2.done.set r' (dr' + 1), ended := s2.ended.set r' ((k : Int) + 1), left := s2.left.take b ++ s2.left.drop (b + 1) } []))
            case first =>
              go_wp2_with fail
              go_region_law (first
                | (refine step_append_own rfl _ _ 79 rfl w9.heap.size 108 i0 zWork 2 16 Tryd.underlying79 hi0 hz0 hz1 hz2 rfl (by decide) _ _ _ rfl HOWN0.out ⟨gW, 0, .none⟩ b cW2 (wks ((wk (s2.done.set r' (dr' + 1)) s2.left).take b)) rfl (by rw [wks_len, List.length_take, wk_len, Nat.min_eq_left (by omega)]) (HTK9.out b _ (bw_trans (bw_drew _) (bw_alloc _ _))) (wks_one _) (by unfold maxLen; omega) (by omega) (by simp) ?_
                   intro v1 wA hown1 hgrow1 _
                   have HW2 := Lib.hid (show Bw w9 wA from Below.grown (Below.alloc (bw_drew w9) (Nat.le_refl _) _) hgrow1 (by simp) (fun g hg => by have := own_cap0 HOWN0.out g hg; omega))
                   have hz2' := HW2.out.size
                   have p4 := cell_bw HW2.out b4
                   have lB1 := Nat.lt_of_lt_of_le lB hz2')
                | (refine step_append_own rfl _ _ 79 rfl w9.heap.size 108 i0 zWork 2 16 Tryd.underlying79 hi0 hz0 hz1 hz2 rfl (by decide) _ _ _ rfl hown1 A (s2.left.length - (b + 1)) (cW2 - (b + 1)) (wks ((wk (s2.done.set r' (dr' + 1)) s2.left).drop (b + 1))) rfl (by rw [wks_len, List.length_drop, wk_len]) (HNEWS.out _ HW2.out) (wks_one _) (by unfold maxLen; omega) (by omega) hz2' ?_
                   intro v2 wB hown2 hgrow2 _
                   obtain ⟨ao2, c2, hu⟩ := own_form hown2
                   subst hu
                   have HW3 : Hid (Bw w9 wB) := Below.grown HW2.out hgrow2 hz2' (fun g hg => by have := own_cap0 hown1 g hg; omega)
                   have q4 := cell_bw HW3.out b4
                   have lB2 := Nat.lt_of_lt_of_le lB HW3.out.size
                   have bf2 := blk_free (blk_bw HW3.out HS9.out.box)))
              all_goals go_wp2_with fail
              all_goals go_meet
              all_goals
                refine ⟨ao2, c2, ?_⟩
                rw [← hq9]
                exact HS9.out.putNew HW3.out (by rw [wk_cut, wks_append]; simpa [hq9] using hown2)
            case rest =>
              clear b0 b1 b2 b3 b4 b5 b6 b7 bf lB HOWN0 HTK9 HNEWS hA hq9 lg
              obtain ⟨ao2, c2, HS11⟩ := hcut
              have hwk : tick l js true x k s = { s2 with trace := s2.trace ++ [(tq : Int)], done := s2.done.set r' (dr' + 1), ended := s2.ended.set r' ((k : Int) + 1), left := s2.left.take b ++ s2.left.drop (b + 1) } := by
                rw [EF.out, still_erase HI3.out.sorted hbr.out hrel (HI3.out.left_e HOK.out) (by omega)]
              have HS12 := Lib.hid (HS4.out.unbase HS11.out)
              have HWK := Lib.hid hwk
              clear hwk
              obtain ⟨b0, b1, b2, b3, b4, b5, b6, b7⟩ := box8 HS12.out.box
              have lB := blk_lt HS12.out.box
              have z := HS12.out.turn.heap HZ.out HZN.out
              obtain ⟨z0, z1, z2, z3, z4, z5, z6, z7⟩ := box8 z
              have zl := blk_lt z
              have zf := fun j => blk_free z j
              have hzn2 := HS12.out.out_of HZN.out HZL.out
              have Z := Lib.hid z
              have HZN2 := Lib.hid hzn2
              clear z hzn2
              go_wp2
              refine bodyPost_ret (v := .agg #[.slice (some ⟨gE, 0, .none⟩) s2.ended.length cE2, .slice ao' (s2.trace.length + 1) c', .slice aS2 s2.switches.length cS2, .bool s2.high, .slice ao2 (b + (s2.left.length - (b + 1))) c2, .int .i64 n', .int .i64 x.p, .int .i64 x.q]) (by simp [results, Tryd.results53, go_sem, z0, z1, z2, z3, z4, z5, z6, z7]) rfl ?_
              refine ⟨n', HNX.out, ?_⟩
              rw [HWK.out]
              exact HS12.out.endR HB1.out (Nat.le_refl _) (w.heap.size + 1) (turn8 _ _ _ _ _ _ _ _ _ _) (by omega) HZN2.out (by omega)
          · have e104 : (dr' + 1 == z) = false := by simp [c1]
            have hcr : cr = true := by rw [← ec]; exact cc
            have hhf : hh = false := by rw [← eh]; exact ch
            subst hcr hhf
            have e146 : (dr' + 1 == T.low) = true := by simp [cl]
            have HS8h : Hid (SM w0 wJ w8 (some w.heap.size :: rowsL (.slice aE2 s2.ended.length cE2) (.slice aT2 s2.trace.length cT2) (.slice aS2 s2.switches.length cS2) (.slice (some ⟨gW, 0, .none⟩) s2.left.length cW2) (.slice .none 0 0)) w.heap.size n' (.slice aE2 s2.ended.length cE2) (.slice ao' (s2.trace.length + 1) c') (.slice aS2 s2.switches.length cS2) (.slice (some ⟨gW, 0, .none⟩) s2.left.length cW2) (.slice .none 0 0) x { s2 with trace := s2.trace ++ [(tq : Int)], done := s2.done.set r' (dr' + 1), high := false } []) := by rw [← eh]; exact HS8'.out
            have hwk : tick l js true x k s = swS l js ((k + 1 : Nat) : Int) { s2 with trace := s2.trace ++ [(tq : Int)], done := s2.done.set r' (dr' + 1), high := false } := by rw [ef]; simp [swS]
            have HSw := Lib.hid (HS4.out.unbase HS8h.out)
            have z := HSw.out.turn.heap HZ.out HZN.out
            have hzn2 := HSw.out.out_of HZN.out HZL.out
            have hzl2 := blk_lt z
            have hswl := HI3.out.swlen
            have hld8 : ∀ i ∈ s2.left, ∃ d, (s2.done.set r' (dr' + 1))[i]? = some d := fun i hi => by
              obtain ⟨d0, h0⟩ := HI3.out.left_d i hi
              exact getSome (by rw [List.length_set]; exact (List.getElem?_eq_some_iff.1 h0).1)
            clear HS8'
            obtain ⟨b0, b1, b2, b3, b4, b5, b6, b7⟩ := box8 HSw.out.box
            have bf := fun j => blk_free HSw.out.box j
            have lB := blk_lt HSw.out.box
            have C1 := Lib.hid c1
            have EF := Lib.hid ef
            have EH := Lib.hid eh
            have EC := Lib.hid ec
            have HJ8 := Lib.hid hj8
            have HWK := Lib.hid hwk
            have Z := Lib.hid z
            have HZN2 := Lib.hid hzn2
            have HLD8 := Lib.hid hld8
            clear c1 ef eh ec hj8 hwk z hzn2 hld8
            go_wp2_with fail
            refine (l7Switch_any _ _ _ _ n' (k + 1) w0 _ l js _ _ _ _ x { s2 with trace := s2.trace ++ [(tq : Int)], done := s2.done.set r' (dr' + 1), high := false } HOK.out HR.out HS.out HSw.out.rows hlen2 HI3.out.lt HI3.out.elen (by dsimp only; omega) HLD8.out (by omega)).mono ?_
            rintro e w9 ⟨vE9, vT9, vS9, vW9, rfl, hR9, hT9, hin9⟩
            rw [← HWK.out] at hR9 ⊢
            obtain ⟨s9, hs9⟩ : ∃ s9, tick l js true x k s = s9 := ⟨_, rfl⟩
            rw [hs9] at hR9 ⊢
            have z9 := hT9.heap Z.out HZN2.out
            obtain ⟨z0, z1, z2, z3, z4, z5, z6, z7⟩ := box8 z9
            have zl := blk_lt z9
            have zf := fun j => blk_free z9 j
            obtain ⟨aE9, cE9, eE⟩ := own_form hR9.e
            obtain ⟨aT9, cT9, eT⟩ := own_form hR9.t
            obtain ⟨aS9, cS9, eS⟩ := own_form hR9.sw
            obtain ⟨aW9, cW9, eW⟩ := own_form hR9.k
            subst eE eT eS eW
            clear b0 b1 b2 b3 b4 b5 b6 b7 bf lB j0 j2 lj t0 t4
            have HR9 := Lib.hid hR9
            have HT9 := Lib.hid hT9
            have HIN9 := Lib.hid hin9
            have Z9 := Lib.hid z9
            have HS9 := Lib.hid hs9
            clear hR9 hT9 hin9 z9 hs9
            go_wp2
            refine bodyPost_ret (v := .agg #[.slice aE9 s9.ended.length cE9, .slice aT9 s9.trace.length cT9, .slice aS9 s9.switches.length cS9, .bool s9.high, .slice aW9 s9.left.length cW9, .int .i64 n', .int .i64 x.p, .int .i64 x.q]) (by simp [results, Tryd.results53, go_sem, z0, z1, z2, z3, z4, z5, z6, z7]) rfl ?_
            refine ⟨n', HNX.out, ?_⟩
            rw [HS9.out]
            exact HSw.out.callR HB1.out (Nat.le_refl _) HR9.out HT9.out HIN9.out (w.heap.size + 1) (turn8 _ _ _ _ _ _ _ _ _ _) (by omega) HZN2.out hzl2 (by omega)
          · have e104 : (dr' + 1 == z) = false := by simp [c1]
            obtain ⟨lw, el⟩ : ∃ lw, (dr' + 1 == T.low) = lw := ⟨_, rfl⟩
            have hno : ¬ (hh = false ∧ cr = true ∧ lw = true) := fun h => c2 ⟨by rw [eh]; exact h.1, by rw [ec]; exact h.2.1, by have := h.2.2; rw [← el] at this; simpa using this⟩
            have HS8h : Hid (SM w0 wJ w8 (some w.heap.size :: rowsL (.slice aE2 s2.ended.length cE2) (.slice aT2 s2.trace.length cT2) (.slice aS2 s2.switches.length cS2) (.slice (some ⟨gW, 0, .none⟩) s2.left.length cW2) (.slice .none 0 0)) w.heap.size n' (.slice aE2 s2.ended.length cE2) (.slice ao' (s2.trace.length + 1) c') (.slice aS2 s2.switches.length cS2) (.slice (some ⟨gW, 0, .none⟩) s2.left.length cW2) (.slice .none 0 0) x { s2 with trace := s2.trace ++ [(tq : Int)], done := s2.done.set r' (dr' + 1), high := hh } []) := by rw [← eh]; exact HS8'.out
            have hwk : tick l js true x k s = { s2 with trace := s2.trace ++ [(tq : Int)], done := s2.done.set r' (dr' + 1), high := hh } := by rw [ef, ← eh]
            have HSw := Lib.hid (HS4.out.unbase HS8h.out)
            clear HS8' HS8h
            obtain ⟨b0, b1, b2, b3, b4, b5, b6, b7⟩ := box8 HSw.out.box
            have lB := blk_lt HSw.out.box
            have z := HSw.out.turn.heap HZ.out HZN.out
            obtain ⟨z0, z1, z2, z3, z4, z5, z6, z7⟩ := box8 z
            have zl := blk_lt z
            have zf := fun j => blk_free z j
            have hzn2 := HSw.out.out_of HZN.out HZL.out
            have Z := Lib.hid z
            have HZN2 := Lib.hid hzn2
            clear z hzn2
            have C1 := Lib.hid c1
            have C2 := Lib.hid c2
            have EF := Lib.hid ef
            have EH := Lib.hid eh
            have EC := Lib.hid ec
            have HJ8 := Lib.hid hj8
            have HWK := Lib.hid hwk
            clear c1 c2 ef eh ec hj8 hwk
            cases hh <;> cases cr <;> cases lw
            all_goals first | exact absurd ⟨rfl, rfl, rfl⟩ hno | skip
            all_goals
              clear hno
              go_wp2
              refine bodyPost_ret (v := .agg #[.slice aE2 s2.ended.length cE2, .slice ao' (s2.trace.length + 1) c', .slice aS2 s2.switches.length cS2, .bool _, .slice (some ⟨gW, 0, .none⟩) s2.left.length cW2, .int .i64 n', .int .i64 x.p, .int .i64 x.q]) (by simp [results, Tryd.results53, go_sem, z0, z1, z2, z3, z4, z5, z6, z7]; rfl) rfl ?_
              refine ⟨n', HNX.out, ?_⟩
              rw [HWK.out]
              exact HSw.out.endR HB1.out (Nat.le_refl _) (w.heap.size + 1) (turn8 _ _ _ _ _ _ _ _ _ _) (by omega) HZN2.out (by omega)
end Go.Proofs.YtaadlgpglfpmpaaDoor
