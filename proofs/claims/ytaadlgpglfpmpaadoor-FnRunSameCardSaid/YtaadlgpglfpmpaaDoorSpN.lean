/-
  The walk of the reference's RunJobs.
-/
import Derived.Test.YtaadlgpglfpmpaaDoorSpT
import Derived.Test.YtaadlgpglfpmpaaDoorGI

namespace Go.Proofs.YtaadlgpglfpmpaaDoor
open Go.RowKit

/-- A run of the call's own, its rows whole. -/
def RunO (w : World) (r : Rn) (ok : Bool) (e : Ending) (w' : World) : Prop := ∃ a1 c1 a2 c2 a3 c3, e = .returned (.tuple #[rnVal a1 r.ended.length c1 a2 r.trace.length c2 a3 r.switches.length c3 r.high, .bool ok]) ∧
  w'.ownsRow w.heap.size 3 1 (.slice a1 r.ended.length c1) r.ended.length (ints r.ended) ∧ w'.ownsRow w.heap.size 3 1 (.slice a2 r.trace.length c2) r.trace.length (ints r.trace) ∧ w'.ownsRow w.heap.size 3 1 (.slice a3 r.switches.length c3) r.switches.length (ints r.switches) ∧ Dj [a1.map (·.block), a2.map (·.block), a3.map (·.block)] ∧ Bw w w'
theorem RunO.r {w w' : World} {r : Rn} {ok : Bool} {e : Ending} (h : RunO w r ok e w') : RunR w r ok e w' := by
  obtain ⟨a1, c1, a2, c2, a3, c3, he, h1, h2, h3, h4, h5⟩ := h
  exact ⟨a1, c1, a2, c2, a3, c3, he, Own.ofRow h1, Own.ofRow h2, Own.ofRow h3, h4, h5, own_le h1, own_le h2, own_le h3⟩
theorem runO_none {w w' : World} {e : Ending} (he : e = .returned (.tuple #[.agg #[.slice .none 0 0, .slice .none 0 0, .slice .none 0 0, .bool false], .bool false])) (hb : Bw w w') : RunO w none0 false e w' := by
  refine ⟨.none, 0, .none, 0, .none, 0, he, World.ownsRow_nil _ _ _ _, World.ownsRow_nil _ _ _ _, World.ownsRow_nil _ _ _ _, ?_, hb⟩
  intro i j g hi hj
  match i, hi with
  | 0, hi => simp at hi
  | 1, hi => simp at hi
  | 2, hi => simp at hi
  | n + 3, hi => simp at hi

set_option maxRecDepth 100000 in
set_option maxHeartbeats 1600000 in
theorem RunS_noO (ao bo : Option Addr) (c d : Nat) (w : World) (l : List Tk) (js : List Jb) (pol n : Int) (hl : l.length ≤ 1048576) (hj : js.length ≤ 1048576) (hr : RT w ao l) (hs : RJ w bo js)
    (h : ¬ (jobsOk l js = true ∧ (pol = 0 ∨ (pol = 1 ∧ (factor l).2 = true)) ∧ 0 ≤ n ∧ n ≤ 200)) :
    Calls Tryd.prog 25 #[.slice ao l.length c, .slice bo js.length d, .int .i64 pol, .int .i64 n] w (RunO w (runJ l js pol n).1 (runJ l js pol n).2) := by
  rw [runJ_no h]
  have hfa : (facOf l pol).2 = true → pol = 0 ∨ (pol = 1 ∧ (factor l).2 = true) := by
    unfold facOf; split
    · intro _; exact .inl (by assumption)
    · intro hh; simp at hh; exact .inr ⟨hh.2, hh.1⟩
  have HR := Lib.hid hr
  have HS := Lib.hid hs
  clear hr hs
  go_enter Tryd.func25, Tryd.ntmps25
  go_wp2_with fail
  refine (l7Policy_any _ _ _ l pol hl (HR.out.bw (bw_alloc _ _))).mono ?_
  obtain ⟨x, hx⟩ : ∃ x, (facOf l pol).1 = x := ⟨_, rfl⟩
  obtain ⟨o, ho⟩ : ∃ o, (facOf l pol).2 = o := ⟨_, rfl⟩
  rw [hx, ho]
  rw [ho] at hfa
  have HX := Lib.hid hx
  have HO := Lib.hid ho
  have H := Lib.hid h
  have HFA := Lib.hid hfa
  clear hx ho h hfa
  rintro e w1 ⟨rfl, hb1⟩
  have p8 := box_last hb1
  have hw1 := bw_trans (bw_alloc _ _) hb1
  have P8 := Lib.hid p8
  clear p8
  go_wp2_with fail
  refine (JobsValid_spec _ _ _ _ _ l js hl hj (HR.out.bw (bw_trans hw1 (bw_alloc _ _))) (HS.out.bw (bw_trans hw1 (bw_alloc _ _)))).mono ?_
  obtain ⟨q, HQ⟩ : ∃ q, Hid (jobsOk l js = q) := ⟨_, rfl⟩
  rw [HQ.out]
  rintro e w2 ⟨rfl, hb2⟩
  have hw12 := bw_trans (bw_alloc w1 _) hb2
  have hw2 := bw_trans hw1 hw12
  have p8 := blk_bw hw12 P8.out
  have l8 := blk_lt p8
  have s0 := blk_cell p8 0 rfl
  have s1 := blk_cell p8 1 rfl
  have s2 := blk_cell p8 2 rfl
  have s3 := blk_cell p8 3 rfl
  have fr := fun j => blk_free p8 j
  have P8 := Lib.hid p8
  clear p8
  cases q with
  | false =>
    go_wp2
    refine bodyPost_ret (v := .tuple #[.agg #[.slice none 0 0, .slice none 0 0, .slice none 0 0, .bool false], .bool false]) (by simp [results, Tryd.results25, go_sem, s0, s1, s2, s3]) rfl ?_
    exact runO_none rfl (bw_set (bw_set (bw_set (bw_set hw2 (by omega) _ _) (by omega) _ _) (by omega) _ _) (by omega) _ _)
  | true =>
    cases o with
    | false =>
      go_wp2
      refine bodyPost_ret (v := .tuple #[.agg #[.slice none 0 0, .slice none 0 0, .slice none 0 0, .bool false], .bool false]) (by simp [results, Tryd.results25, go_sem, s0, s1, s2, s3]) rfl ?_
      exact runO_none rfl (bw_set (bw_set (bw_set (bw_set hw2 (by omega) _ _) (by omega) _ _) (by omega) _ _) (by omega) _ _)
    | true =>
      by_cases hn0 : n < 0
      · go_wp2
        refine bodyPost_ret (v := .tuple #[.agg #[.slice none 0 0, .slice none 0 0, .slice none 0 0, .bool false], .bool false]) (by simp [results, Tryd.results25, go_sem, s0, s1, s2, s3]) rfl ?_
        exact runO_none rfl (bw_set (bw_set (bw_set (bw_set hw2 (by omega) _ _) (by omega) _ _) (by omega) _ _) (by omega) _ _)
      · have en0 : decide (n < 0) = false := decide_eq_false hn0
        by_cases hn1 : 200 < n
        · go_wp2
          refine bodyPost_ret (v := .tuple #[.agg #[.slice none 0 0, .slice none 0 0, .slice none 0 0, .bool false], .bool false]) (by simp [results, Tryd.results25, go_sem, s0, s1, s2, s3]) rfl ?_
          exact runO_none rfl (bw_set (bw_set (bw_set (bw_set hw2 (by omega) _ _) (by omega) _ _) (by omega) _ _) (by omega) _ _)
        · exact absurd ⟨HQ.out, HFA.out rfl, by omega, by omega⟩ H.out


theorem SM.begin {w0 w : World} {x : Fr} {n : Nat} {e : List Int} (he : e = []) (hb : Bw w0 w) : SM w0 w (w.alloc (.cells #[.slice .none 0 0, .slice .none 0 0, .slice .none 0 0, .bool false, .slice .none 0 0, .int .i64 0, .int .i64 x.p, .int .i64 x.q] 81)) [] w.heap.size 0 (.slice .none 0 0) (.slice .none 0 0) (.slice .none 0 0) (.slice .none 0 0) (.slice .none 0 0) x { st0 n with ended := e } [] := by
  subst he
  have hb2 := bw_trans hb (bw_alloc w (.cells #[.slice .none 0 0, .slice .none 0 0, .slice .none 0 0, .bool false, .slice .none 0 0, .int .i64 0, .int .i64 x.p, .int .i64 x.q] 81))
  refine ⟨⟨hb2, World.ownsRow_nil _ _ _ _, World.ownsRow_nil _ _ _ _, World.ownsRow_nil _ _ _ _, World.ownsRow_nil _ _ _ _, World.ownsRow_nil _ _ _ _, ?_⟩, ?_, by simp [Value.ownBlock], Turn.bw (bw_alloc _ _), by simp [Value.ownBlock], .inr (Nat.le_refl _), hb.size⟩
  · refine Dj.of_list ?_
    simp [rowsL, Value.ownBlock]
  · have := heap_alloc_new w (.cells #[.slice .none 0 0, .slice .none 0 0, .slice .none 0 0, .bool false, .slice .none 0 0, .int .i64 0, .int .i64 x.p, .int .i64 x.q] 81)
    exact this
theorem SM.runR {w0 w wr : World} {B nx : Nat} {a1 a2 a3 a4 : Option Addr} {c1 c2 c3 c4 n4 g : Nat} {v0 v1 v2 v3 : Value} {x : Fr} {s : St} (h : SM w0 w wr [] B nx (.slice a1 s.ended.length c1) (.slice a2 s.trace.length c2) (.slice a3 s.switches.length c3) (.slice a4 n4 c4) (.slice .none 0 0) x s []) (hg0 : w0.heap.size ≤ g) (hg : g < w.heap.size) :
    RunO w0 s.run true (.returned (.tuple #[rnVal a1 s.ended.length c1 a2 s.trace.length c2 a3 s.switches.length c3 s.high, .bool true])) ((((wr.setCell ⟨g, 0, .none⟩ v0).setCell ⟨g, 1, .none⟩ v1).setCell ⟨g, 2, .none⟩ v2).setCell ⟨g, 3, .none⟩ v3) := by
  have hn : some g ∉ rowsL (.slice a1 s.ended.length c1) (.slice a2 s.trace.length c2) (.slice a3 s.switches.length c3) (.slice a4 n4 c4) (.slice .none 0 0) := fun m => by
    rcases h.inL g m with h1 | h1
    · simp at h1
    · omega
  have r1 := h.rows.turn (grown_set wr g 0 v0) hg0 hn
  have r2 := r1.turn (grown_set _ g 1 v1) hg0 hn
  have r3 := r2.turn (grown_set _ g 2 v2) hg0 hn
  have r4 := r3.turn (grown_set _ g 3 v3) hg0 hn
  exact ⟨_, _, _, _, _, _, rfl, r4.e, r4.t, r4.sw, r4.dj.pick [0, 1, 2] (by decide) (by cases a1 <;> cases a2 <;> cases a3 <;> rfl), r4.bw⟩

set_option maxRecDepth 100000 in
set_option maxHeartbeats 3200000 in
theorem RunS_yesO_false (ao bo : Option Addr) (c d : Nat) (w : World) (l : List Tk) (js : List Jb) (N : Nat) (hl : l.length ≤ 1048576) (hj : js.length ≤ 1048576) (hr : RT w ao l) (hs : RJ w bo js)
    (hok : jobsOk l js = true) (hf : false = true → (factor l).2 = true) (hN : N ≤ 200) :
    Calls Tryd.prog 25 #[.slice ao l.length c, .slice bo js.length d, .int .i64 0, .int .i64 N] w (RunO w (ticks l js false (factor l).1 N 0 (st0 js.length)).run true) := by
  have h60 := jobs_len hok
  have hfo : (facOf l 0).2 = true := by first | rfl | (simp [facOf]; exact hf rfl)
  have hfx : (facOf l 0).1 = (⟨1, 1⟩ : Fr) := by simp [facOf]
  have htx : ticks l js false (factor l).1 N 0 (st0 js.length) = ticks l js false (⟨1, 1⟩ : Fr) N 0 (st0 js.length) := by first | rfl | exact ticks_place _ _ _ _ _ _ _
  have hxb : (((⟨1, 1⟩ : Fr)).p ≤ 1000000000 ∧ ((⟨1, 1⟩ : Fr)).q ≤ 1000000000) := by first | exact factor_bd (l := l) | decide
  rw [htx]
  obtain ⟨x, hx⟩ : ∃ x, (⟨1, 1⟩ : Fr) = x := ⟨_, rfl⟩
  rw [hx] at hfx hxb ⊢
  obtain ⟨hx1, hx2⟩ := hxb
  have HR := Lib.hid hr
  have HS := Lib.hid hs
  have HOK := Lib.hid hok
  have HF := Lib.hid hf
  have HFO := Lib.hid hfo
  have HFX := Lib.hid hfx
  have HTX := Lib.hid htx
  have HX := Lib.hid hx
  clear hr hs hok hf hfo hfx htx hx
  go_enter Tryd.func25, Tryd.ntmps25
  go_wp2_with fail
  refine (l7Policy_any _ _ _ l 0 hl (HR.out.bw (bw_alloc _ _))).mono ?_
  rw [HFO.out, HFX.out]
  rintro e w1 ⟨rfl, hb1⟩
  have p8 := box_last hb1
  have hw1 := bw_trans (bw_alloc _ _) hb1
  have P8 := Lib.hid p8
  clear p8
  go_wp2_with fail
  refine (JobsValid_spec _ _ _ _ _ l js hl hj (HR.out.bw (bw_trans hw1 (bw_alloc _ _))) (HS.out.bw (bw_trans hw1 (bw_alloc _ _)))).mono ?_
  rw [HOK.out]
  rintro e wA ⟨rfl, hb2⟩
  have hw12 := bw_trans (bw_alloc w1 _) hb2
  have hw2 := bw_trans hw1 hw12
  have P8 := Lib.hid (blk_bw hw12 P8.out)
  have p10 := box_last hb2
  have l8 := blk_lt P8.out
  have k0 := blk_cell p10 0 rfl
  have k1 := blk_cell p10 1 rfl
  have l10 := blk_lt p10
  have en0 : decide ((N : Int) < 0) = false := decide_eq_false (by omega)
  have en1 : decide (200 < (N : Int)) = false := decide_eq_false (by omega)
  have hsz := hw2.size
  have P10 := Lib.hid p10
  clear p10
  go_upto_block 5 with fail
  have hS0 := SM.begin (x := x) (n := js.length) (e := []) rfl hw2
  obtain ⟨wB, eB⟩ : ∃ wB : World, wA.alloc (.cells #[.slice .none 0 0, .slice .none 0 0, .slice .none 0 0, .bool false, .slice .none 0 0, .int .i64 0, .int .i64 x.p, .int .i64 x.q] 81) = wB := ⟨_, rfl⟩
  rw [eB] at hS0 ⊢
  clear eB k0 k1 l10
  have HS0 := Lib.hid hS0
  clear hS0
  go_wp2_with fail
  go_loopw [13] (fun i wr => ∃ (k : Nat) (e : List Int) (vE : Value), k ≤ js.length ∧ i = .int .i64 k ∧ e.length = k ∧ Hid (e = List.replicate k (-1)) ∧ Hid (SM w wA wr [] wA.heap.size 0 vE (.slice .none 0 0) (.slice .none 0 0) (.slice .none 0 0) (.slice .none 0 0) x { st0 js.length with ended := e } [])) (fun i _ => js.length - (intOf i).toNat)
  case atStart => exact ⟨0, [], _, Nat.zero_le _, rfl, rfl, rfl, HS0.out⟩
  case round =>
    clear HS0
    obtain ⟨k, e, vE, hk, rfl, hel, hee, hS⟩ := hrel
    obtain ⟨aE, cE, eE⟩ := own_form hS.out.rows.e
    subst eE
    dsimp only at hS
    by_cases hlt : k < js.length
    · obtain ⟨b0, b1, b2, b3, b4, b5, b6, b7⟩ := box8 hS.out.box
      have bf := fun j => blk_free hS.out.box j
      have lB := blk_lt hS.out.box
      have HS4 := Lib.hid (hS.out.on (bw_alloc _ (.cells #[.int .i64 (-1)] 3)))
      have h200 : e.length ≤ 1000000 := by omega
      have HEL := Lib.hid hel
      clear hel
      go_wp2_with (at_builtin; refine wpList_app_int rfl _ _ rfl w.heap.size e.length _ e (-1) rfl HS4.out.rows.e _ rfl (cell_new0 _ _ _) h200 HS4.out.rows.bw.size ?_; intro ao' c' w5 hown' hgrow' hwhere'; have hA := HS4.out.app_e trivial rfl hown' hgrow' hwhere'; have r1 := blk_cell hA.1 0 rfl; have r1f := blk_free hA.1 0; have HS5 := Lib.hid hA.2; clear hA hown' hgrow' hwhere' b0 b1 b2 b3 b4 b5 b6 b7 bf)
      go_roundw
      case rel => exact ⟨k + 1, e ++ [-1], _, by omega, by go_num, by simp [HEL.out], by show _ = _; rw [hee.out, List.replicate_succ'], HS5.out⟩
      case measure => simp [intOf]; omega
    · obtain rfl : k = js.length := by omega
      have hst : ({ st0 js.length with ended := e } : St) = st0 js.length := by rw [hee.out]; rfl
      rw [hst] at hS
      clear hst hee hel
      obtain ⟨wb2, rfl⟩ : ∃ wb2 : World, wb2 = wr := ⟨_, rfl⟩
      go_wp2_with fail
      go_loopw [14] (fun i wr => ∃ (k n' : Nat) (s : St) (vE vT vS vW : Value), k ≤ N ∧ i = .int .i64 k ∧ Hid (NX js k n') ∧ Hid (Inv l js (Here js k) k s) ∧ Hid (s.trace.length = k) ∧ Hid (SM w wA wr [] wA.heap.size n' vE vT vS vW (.slice .none 0 0) x s []) ∧ Hid (ticks l js false x N 0 (st0 js.length) = ticks l js false x (N - k) k s)) (fun i _ => N - (intOf i).toNat)
      case atStart => exact ⟨0, 0, st0 js.length, _, _, _, _, Nat.zero_le _, rfl, NX.zero HOK.out, inv_start HOK.out, rfl, hS.out, rfl⟩
      case round =>
        clear hS
        obtain ⟨k, n', s, vE, vT, vS, vW, hk, rfl, hNX, hI, htl, hS, hx⟩ := hrel
        obtain ⟨aE, cE, eE⟩ := own_form hS.out.rows.e
        obtain ⟨aT, cT, eT⟩ := own_form hS.out.rows.t
        obtain ⟨aS, cS, eS⟩ := own_form hS.out.rows.sw
        obtain ⟨aW, cW, eW⟩ := own_form hS.out.rows.k
        subst eE eT eS eW
        obtain ⟨b0, b1, b2, b3, b4, b5, b6, b7⟩ := box8 hS.out.box
        have bf := fun j => blk_free hS.out.box j
        have lB := blk_lt hS.out.box
        by_cases hlt : k < N
        · go_wp2_with fail
          refine (l7Tick_false _ _ _ _ _ _ _ _ l js _ _ _ _ x s HOK.out HR.out HS.out hx1 hx2 hS.out.rows hI.out hNX.out htl.out (by omega)).mono ?_
          have hInx := hI.out.tick HOK.out false x
          have hstep := ticks_step l js false x hlt s
          have htl2 : (tick l js false x k s).trace.length = k + 1 := by
            obtain ⟨y, hy⟩ := tick_trace l js false x k s HOK.out (hI.out.comes HOK.out)
            rw [hy, (come_keep l js k s).1]; simp [htl.out]
          obtain ⟨s4, hs4⟩ : ∃ s4, tick l js false x k s = s4 := ⟨_, rfl⟩
          rw [hs4] at hInx hstep htl2 ⊢
          rintro e w5 ⟨n4, hN4, vE4, vT4, vS4, vW4, rfl, hR4, hT4, hin4⟩
          obtain ⟨aE4, cE4, eE⟩ := own_form hR4.e
          obtain ⟨aT4, cT4, eT⟩ := own_form hR4.t
          obtain ⟨aS4, cS4, eS⟩ := own_form hR4.sw
          obtain ⟨aW4, cW4, eW⟩ := own_form hR4.k
          subst eE eT eS eW
          have hB5 := hT4.heap hS.out.box hS.out.nb
          have HSa := Lib.hid (SM.take (nx' := n4) hS.out hR4 hT4 hin4)
          clear b0 b1 b2 b3 b4 b5 b6 b7 bf lB
          have bf := fun j => blk_free hB5 j
          have lB := blk_lt hB5
          obtain ⟨b0, b1, b2, b3, b4, b5, b6, b7⟩ := box8 hB5
          have HINX := Lib.hid hInx
          have HSTEP := Lib.hid hstep
          have HTL2 := Lib.hid htl2
          have HS4 := Lib.hid hs4
          have HN4 := Lib.hid hN4
          have HR4 := Lib.hid hR4
          have HT4 := Lib.hid hT4
          have HIN4 := Lib.hid hin4
          have HB5 := Lib.hid hB5
          clear hInx hstep htl2 hs4 hN4 hR4 hT4 hin4 hB5
          go_wp2_with fail
          go_roundw
          case rel => exact ⟨k + 1, n4, s4, _, _, _, _, by omega, by go_num, HN4.out, HINX.out, HTL2.out, HSa.out, by show _ = _; rw [hx.out, HSTEP.out]⟩
          case measure => simp [intOf]; omega
        · obtain rfl : k = N := by omega
          have hfin : ticks l js false x k 0 (st0 js.length) = s := by rw [hx.out, Nat.sub_self]; rfl
          have hp8 := hS.out.turn.heap P8.out (by simp)
          have s0 := blk_cell hp8 0 rfl
          have s1 := blk_cell hp8 1 rfl
          have s2 := blk_cell hp8 2 rfl
          have s3 := blk_cell hp8 3 rfl
          have l8' := blk_lt hp8
          have fr := fun j => blk_free hp8 j
          have HFIN := Lib.hid hfin
          have HP8 := Lib.hid hp8
          clear hfin hp8
          go_wp2
          refine bodyPost_ret (v := .tuple #[rnVal aE s.ended.length cE aT s.trace.length cT aS s.switches.length cS s.high, .bool true]) (by simp [results, Tryd.results25, go_sem, s0, s1, s2, s3, rnVal]) rfl ?_
          rw [HFIN.out]
          exact hS.out.runR (Nat.le_refl _) l8
theorem RunS_yes_false (ao bo : Option Addr) (c d : Nat) (w : World) (l : List Tk) (js : List Jb) (N : Nat) (hl : l.length ≤ 1048576) (hj : js.length ≤ 1048576) (hr : RT w ao l) (hs : RJ w bo js)
    (hok : jobsOk l js = true) (hf : false = true → (factor l).2 = true) (hN : N ≤ 200) :
    Calls Tryd.prog 25 #[.slice ao l.length c, .slice bo js.length d, .int .i64 0, .int .i64 N] w (RunR w (ticks l js false (factor l).1 N 0 (st0 js.length)).run true) := (RunS_yesO_false ao bo c d w l js N hl hj hr hs hok hf hN).mono fun _ _ h => h.r
set_option maxRecDepth 100000 in
set_option maxHeartbeats 3200000 in
theorem RunS_yesO_true (ao bo : Option Addr) (c d : Nat) (w : World) (l : List Tk) (js : List Jb) (N : Nat) (hl : l.length ≤ 1048576) (hj : js.length ≤ 1048576) (hr : RT w ao l) (hs : RJ w bo js)
    (hok : jobsOk l js = true) (hf : true = true → (factor l).2 = true) (hN : N ≤ 200) :
    Calls Tryd.prog 25 #[.slice ao l.length c, .slice bo js.length d, .int .i64 1, .int .i64 N] w (RunO w (ticks l js true (factor l).1 N 0 (st0 js.length)).run true) := by
  have h60 := jobs_len hok
  have hfo : (facOf l 1).2 = true := by first | rfl | (simp [facOf]; exact hf rfl)
  have hfx : (facOf l 1).1 = (factor l).1 := by simp [facOf]
  have htx : ticks l js true (factor l).1 N 0 (st0 js.length) = ticks l js true (factor l).1 N 0 (st0 js.length) := by first | rfl | exact ticks_place _ _ _ _ _ _ _
  have hxb : (((factor l).1).p ≤ 1000000000 ∧ ((factor l).1).q ≤ 1000000000) := by first | exact factor_bd (l := l) | decide
  rw [htx]
  obtain ⟨x, hx⟩ : ∃ x, (factor l).1 = x := ⟨_, rfl⟩
  rw [hx] at hfx hxb ⊢
  obtain ⟨hx1, hx2⟩ := hxb
  have HR := Lib.hid hr
  have HS := Lib.hid hs
  have HOK := Lib.hid hok
  have HF := Lib.hid hf
  have HFO := Lib.hid hfo
  have HFX := Lib.hid hfx
  have HTX := Lib.hid htx
  have HX := Lib.hid hx
  clear hr hs hok hf hfo hfx htx hx
  go_enter Tryd.func25, Tryd.ntmps25
  go_wp2_with fail
  refine (l7Policy_any _ _ _ l 1 hl (HR.out.bw (bw_alloc _ _))).mono ?_
  rw [HFO.out, HFX.out]
  rintro e w1 ⟨rfl, hb1⟩
  have p8 := box_last hb1
  have hw1 := bw_trans (bw_alloc _ _) hb1
  have P8 := Lib.hid p8
  clear p8
  go_wp2_with fail
  refine (JobsValid_spec _ _ _ _ _ l js hl hj (HR.out.bw (bw_trans hw1 (bw_alloc _ _))) (HS.out.bw (bw_trans hw1 (bw_alloc _ _)))).mono ?_
  rw [HOK.out]
  rintro e wA ⟨rfl, hb2⟩
  have hw12 := bw_trans (bw_alloc w1 _) hb2
  have hw2 := bw_trans hw1 hw12
  have P8 := Lib.hid (blk_bw hw12 P8.out)
  have p10 := box_last hb2
  have l8 := blk_lt P8.out
  have k0 := blk_cell p10 0 rfl
  have k1 := blk_cell p10 1 rfl
  have l10 := blk_lt p10
  have en0 : decide ((N : Int) < 0) = false := decide_eq_false (by omega)
  have en1 : decide (200 < (N : Int)) = false := decide_eq_false (by omega)
  have hsz := hw2.size
  have P10 := Lib.hid p10
  clear p10
  go_upto_block 5 with fail
  have hS0 := SM.begin (x := x) (n := js.length) (e := []) rfl hw2
  obtain ⟨wB, eB⟩ : ∃ wB : World, wA.alloc (.cells #[.slice .none 0 0, .slice .none 0 0, .slice .none 0 0, .bool false, .slice .none 0 0, .int .i64 0, .int .i64 x.p, .int .i64 x.q] 81) = wB := ⟨_, rfl⟩
  rw [eB] at hS0 ⊢
  clear eB k0 k1 l10
  have HS0 := Lib.hid hS0
  clear hS0
  go_wp2_with fail
  go_loopw [13] (fun i wr => ∃ (k : Nat) (e : List Int) (vE : Value), k ≤ js.length ∧ i = .int .i64 k ∧ e.length = k ∧ Hid (e = List.replicate k (-1)) ∧ Hid (SM w wA wr [] wA.heap.size 0 vE (.slice .none 0 0) (.slice .none 0 0) (.slice .none 0 0) (.slice .none 0 0) x { st0 js.length with ended := e } [])) (fun i _ => js.length - (intOf i).toNat)
  case atStart => exact ⟨0, [], _, Nat.zero_le _, rfl, rfl, rfl, HS0.out⟩
  case round =>
    clear HS0
    obtain ⟨k, e, vE, hk, rfl, hel, hee, hS⟩ := hrel
    obtain ⟨aE, cE, eE⟩ := own_form hS.out.rows.e
    subst eE
    dsimp only at hS
    by_cases hlt : k < js.length
    · obtain ⟨b0, b1, b2, b3, b4, b5, b6, b7⟩ := box8 hS.out.box
      have bf := fun j => blk_free hS.out.box j
      have lB := blk_lt hS.out.box
      have HS4 := Lib.hid (hS.out.on (bw_alloc _ (.cells #[.int .i64 (-1)] 3)))
      have h200 : e.length ≤ 1000000 := by omega
      have HEL := Lib.hid hel
      clear hel
      go_wp2_with (at_builtin; refine wpList_app_int rfl _ _ rfl w.heap.size e.length _ e (-1) rfl HS4.out.rows.e _ rfl (cell_new0 _ _ _) h200 HS4.out.rows.bw.size ?_; intro ao' c' w5 hown' hgrow' hwhere'; have hA := HS4.out.app_e trivial rfl hown' hgrow' hwhere'; have r1 := blk_cell hA.1 0 rfl; have r1f := blk_free hA.1 0; have HS5 := Lib.hid hA.2; clear hA hown' hgrow' hwhere' b0 b1 b2 b3 b4 b5 b6 b7 bf)
      go_roundw
      case rel => exact ⟨k + 1, e ++ [-1], _, by omega, by go_num, by simp [HEL.out], by show _ = _; rw [hee.out, List.replicate_succ'], HS5.out⟩
      case measure => simp [intOf]; omega
    · obtain rfl : k = js.length := by omega
      have hst : ({ st0 js.length with ended := e } : St) = st0 js.length := by rw [hee.out]; rfl
      rw [hst] at hS
      clear hst hee hel
      obtain ⟨wb2, rfl⟩ : ∃ wb2 : World, wb2 = wr := ⟨_, rfl⟩
      go_wp2_with fail
      go_loopw [14] (fun i wr => ∃ (k n' : Nat) (s : St) (vE vT vS vW : Value), k ≤ N ∧ i = .int .i64 k ∧ Hid (NX js k n') ∧ Hid (Inv l js (Here js k) k s) ∧ Hid (s.trace.length = k) ∧ Hid (SM w wA wr [] wA.heap.size n' vE vT vS vW (.slice .none 0 0) x s []) ∧ Hid (ticks l js true x N 0 (st0 js.length) = ticks l js true x (N - k) k s)) (fun i _ => N - (intOf i).toNat)
      case atStart => exact ⟨0, 0, st0 js.length, _, _, _, _, Nat.zero_le _, rfl, NX.zero HOK.out, inv_start HOK.out, rfl, hS.out, rfl⟩
      case round =>
        clear hS
        obtain ⟨k, n', s, vE, vT, vS, vW, hk, rfl, hNX, hI, htl, hS, hx⟩ := hrel
        obtain ⟨aE, cE, eE⟩ := own_form hS.out.rows.e
        obtain ⟨aT, cT, eT⟩ := own_form hS.out.rows.t
        obtain ⟨aS, cS, eS⟩ := own_form hS.out.rows.sw
        obtain ⟨aW, cW, eW⟩ := own_form hS.out.rows.k
        subst eE eT eS eW
        obtain ⟨b0, b1, b2, b3, b4, b5, b6, b7⟩ := box8 hS.out.box
        have bf := fun j => blk_free hS.out.box j
        have lB := blk_lt hS.out.box
        by_cases hlt : k < N
        · go_wp2_with fail
          refine (l7Tick_true _ _ _ _ _ _ _ _ l js _ _ _ _ x s HOK.out HR.out HS.out hx1 hx2 hS.out.rows hI.out hNX.out htl.out (by omega)).mono ?_
          have hInx := hI.out.tick HOK.out true x
          have hstep := ticks_step l js true x hlt s
          have htl2 : (tick l js true x k s).trace.length = k + 1 := by
            obtain ⟨y, hy⟩ := tick_trace l js true x k s HOK.out (hI.out.comes HOK.out)
            rw [hy, (come_keep l js k s).1]; simp [htl.out]
          obtain ⟨s4, hs4⟩ : ∃ s4, tick l js true x k s = s4 := ⟨_, rfl⟩
          rw [hs4] at hInx hstep htl2 ⊢
          rintro e w5 ⟨n4, hN4, vE4, vT4, vS4, vW4, rfl, hR4, hT4, hin4⟩
          obtain ⟨aE4, cE4, eE⟩ := own_form hR4.e
          obtain ⟨aT4, cT4, eT⟩ := own_form hR4.t
          obtain ⟨aS4, cS4, eS⟩ := own_form hR4.sw
          obtain ⟨aW4, cW4, eW⟩ := own_form hR4.k
          subst eE eT eS eW
          have hB5 := hT4.heap hS.out.box hS.out.nb
          have HSa := Lib.hid (SM.take (nx' := n4) hS.out hR4 hT4 hin4)
          clear b0 b1 b2 b3 b4 b5 b6 b7 bf lB
          have bf := fun j => blk_free hB5 j
          have lB := blk_lt hB5
          obtain ⟨b0, b1, b2, b3, b4, b5, b6, b7⟩ := box8 hB5
          have HINX := Lib.hid hInx
          have HSTEP := Lib.hid hstep
          have HTL2 := Lib.hid htl2
          have HS4 := Lib.hid hs4
          have HN4 := Lib.hid hN4
          have HR4 := Lib.hid hR4
          have HT4 := Lib.hid hT4
          have HIN4 := Lib.hid hin4
          have HB5 := Lib.hid hB5
          clear hInx hstep htl2 hs4 hN4 hR4 hT4 hin4 hB5
          go_wp2_with fail
          go_roundw
          case rel => exact ⟨k + 1, n4, s4, _, _, _, _, by omega, by go_num, HN4.out, HINX.out, HTL2.out, HSa.out, by show _ = _; rw [hx.out, HSTEP.out]⟩
          case measure => simp [intOf]; omega
        · obtain rfl : k = N := by omega
          have hfin : ticks l js true x k 0 (st0 js.length) = s := by rw [hx.out, Nat.sub_self]; rfl
          have hp8 := hS.out.turn.heap P8.out (by simp)
          have s0 := blk_cell hp8 0 rfl
          have s1 := blk_cell hp8 1 rfl
          have s2 := blk_cell hp8 2 rfl
          have s3 := blk_cell hp8 3 rfl
          have l8' := blk_lt hp8
          have fr := fun j => blk_free hp8 j
          have HFIN := Lib.hid hfin
          have HP8 := Lib.hid hp8
          clear hfin hp8
          go_wp2
          refine bodyPost_ret (v := .tuple #[rnVal aE s.ended.length cE aT s.trace.length cT aS s.switches.length cS s.high, .bool true]) (by simp [results, Tryd.results25, go_sem, s0, s1, s2, s3, rnVal]) rfl ?_
          rw [HFIN.out]
          exact hS.out.runR (Nat.le_refl _) l8
theorem RunS_yes_true (ao bo : Option Addr) (c d : Nat) (w : World) (l : List Tk) (js : List Jb) (N : Nat) (hl : l.length ≤ 1048576) (hj : js.length ≤ 1048576) (hr : RT w ao l) (hs : RJ w bo js)
    (hok : jobsOk l js = true) (hf : true = true → (factor l).2 = true) (hN : N ≤ 200) :
    Calls Tryd.prog 25 #[.slice ao l.length c, .slice bo js.length d, .int .i64 1, .int .i64 N] w (RunR w (ticks l js true (factor l).1 N 0 (st0 js.length)).run true) := (RunS_yesO_true ao bo c d w l js N hl hj hr hs hok hf hN).mono fun _ _ h => h.r
theorem RunS_no (ao bo : Option Addr) (c d : Nat) (w : World) (l : List Tk) (js : List Jb) (pol n : Int) (hl : l.length ≤ 1048576) (hj : js.length ≤ 1048576) (hr : RT w ao l) (hs : RJ w bo js)
    (h : ¬ (jobsOk l js = true ∧ (pol = 0 ∨ (pol = 1 ∧ (factor l).2 = true)) ∧ 0 ≤ n ∧ n ≤ 200)) :
    Calls Tryd.prog 25 #[.slice ao l.length c, .slice bo js.length d, .int .i64 pol, .int .i64 n] w (RunR w (runJ l js pol n).1 (runJ l js pol n).2) := (RunS_noO ao bo c d w l js pol n hl hj hr hs h).mono fun _ _ h => h.r
end Go.Proofs.YtaadlgpglfpmpaaDoor
