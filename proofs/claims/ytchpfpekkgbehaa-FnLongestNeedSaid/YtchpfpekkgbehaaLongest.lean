/-
  The walks of LongestOf. Lengths at most 2^20; the numbers are ints of Go.
-/
import Derived.Test.YtchpfpekkgbehaaGB
namespace Go.Proofs.Ytchpfpekkgbehaa
open Go.RowKit

/-- The greatest difference so far: the jobs and the ticks at which they ended, side by side. -/
def longFrom (t : Int) : List Jb → List Int → Int → Int
  | j :: js, e :: es, m => longFrom t js es (if j.task = t ∧ 0 ≤ j.at_ ∧ 0 ≤ e ∧ m < e - j.at_ then e - j.at_ else m)
  | _, _, m => m
def longest (js : List Jb) (es : List Int) (t : Int) : Int := if js.length = es.length then longFrom t js es 0 else 0

structure JR (js : List Jb) : Prop where
  rng : ∀ x ∈ js, I64 x.task ∧ I64 x.at_ ∧ I64 x.need

set_option maxHeartbeats 3200000 in
theorem longest_impl {w : World} {v u : Value} {js : List Jb} {r : Rn} (hj : SJ w v js) (hr : RR w u r) (hg : JR js) (t : Int) : Calls Try.prog 27 #[v, u, .int .i64 t] w fun e w' => e = .returned (.int .i64 (longest js r.ended t)) ∧ Bw w w' := by
  obtain ⟨⟨ao, c, rfl, hjr, _⟩, hjn⟩ := hj
  obtain ⟨⟨a1, c1, a2, c2, a3, c3, rfl, h1, h2, h3⟩, n1, n2, n3, ng⟩ := hr
  have HJR := Lib.hid hjr
  have H1 := Lib.hid h1
  have HG := Lib.hid hg
  have NG := Lib.hid ng
  clear hjr h1 hg ng
  clear h2 h3
  by_cases hl : js.length = r.ended.length
  · have hq : ((r.ended.length : Int) != (js.length : Int)) = false := by simp [hl]
    have hx0 : longest js r.ended t = longFrom t js r.ended 0 := by rw [longest, if_pos hl]
    have HL := Lib.hid hl
    have HX0 := Lib.hid hx0
    clear hl hx0
    go_enter Try.func27, Try.ntmps27
    go_wp2
    go_loopw [7, 18] (fun m i wr => ∃ (k : Nat) (q : Int), k ≤ js.length ∧ i = .int .i64 k ∧ m = .int .i64 q ∧ 0 ≤ q ∧ q ≤ 9223372036854775807 ∧ Hid (longest js r.ended t = longFrom t (js.drop k) (r.ended.drop k) q) ∧ Bw w wr ∧ Hid (wr.heap[w.heap.size]? = some (.cells #[.slice a1 r.ended.length c1, .slice a2 r.trace.length c2, .slice a3 r.switches.length c3, .bool r.high] 29 (0, 0)))) (fun _ i _ => js.length - (intOf i).toNat)
    case atStart => exact ⟨0, 0, Nat.zero_le _, rfl, rfl, by omega, by omega, HX0.out, bw_alloc _ _, heap_alloc_new w _⟩
    case round =>
      obtain ⟨k, q, hk, rfl, rfl, hq0, hq1, hx, hbw, hbox⟩ := hrel
      by_cases hlt : k < js.length
      · have hlt2 : k < r.ended.length := by rw [← HL.out]; exact hlt
        obtain ⟨⟨x, y, z⟩, b, off, hjk, hao, hbs, c0, c1', c2'⟩ := HJR.out.get hbw hlt
        obtain ⟨e, b2, off2, hek, ha1, hbs2, d0⟩ := H1.out.get hbw hlt2
        dsimp only at c0 c1' c2'
        have hgy := (HG.out.rng _ (List.mem_of_getElem? hjk)).2.1
        have hge := NG.out.1 _ (List.mem_of_getElem? hek)
        obtain ⟨gy0, gy1⟩ := hgy
        obtain ⟨ge0, ge1⟩ := hge
        dsimp only at gy0 gy1
        have hst : longFrom t (js.drop k) (r.ended.drop k) q = longFrom t (js.drop (k + 1)) (r.ended.drop (k + 1)) (if x = t ∧ 0 ≤ y ∧ 0 ≤ e ∧ q < e - y then e - y else q) := by rw [drop_cons hjk, drop_cons hek]; rfl
        have HJK := Lib.hid hjk
        have HEK := Lib.hid hek
        have HST := Lib.hid hst
        clear hjk hek hst
        subst hao; subst ha1
        have hbl : w.heap.size < wr.heap.size := blk_lt hbox.out
        have p0 := blk_cell hbox.out 0 rfl
        have hbox2 := blk_bw (bw_alloc wr (.cells #[.int .i64 x, .int .i64 y, .int .i64 z] 45)) hbox.out
        have HBOX2 := Lib.hid hbox2
        clear hbox2
        by_cases hxt : x = t
        · subst hxt
          have hxq : (x == x) = true := by simp
          by_cases hy0 : 0 ≤ y
          · by_cases he0 : 0 ≤ e
            · have hwr : IntKind.i64.wrap (e - y) = e - y := IntWalk.i64_in _ (by omega)
              have hst2 : longest js r.ended x = longFrom x (js.drop (k + 1)) (r.ended.drop (k + 1)) (if q < e - y then e - y else q) := by rw [hx.out, HST.out]; simp [hy0, he0]
              have HST2 := Lib.hid hst2
              clear hst2
              go_wp2
              go_quiet (fail)
              go_wp2
              go_roundw
              case rel => exact ⟨k + 1, _, by omega, by go_num, rfl, by split <;> omega, by split <;> omega, HST2.out, blw_drewN (bw_trans hbw (bw_alloc _ _)) _, blk_bw (bw_drewN _ _) HBOX2.out⟩
              case measure => simp [intOf]; omega
            · have hst2 : longest js r.ended x = longFrom x (js.drop (k + 1)) (r.ended.drop (k + 1)) q := by rw [hx.out, HST.out, if_neg (by omega)]
              have HST2 := Lib.hid hst2
              clear hst2
              go_wp2
              go_roundw
              case rel => exact ⟨k + 1, q, by omega, by go_num, rfl, hq0, hq1, HST2.out, bw_trans hbw (bw_alloc _ _), HBOX2.out⟩
              case measure => simp [intOf]; omega
          · have hst2 : longest js r.ended x = longFrom x (js.drop (k + 1)) (r.ended.drop (k + 1)) q := by rw [hx.out, HST.out, if_neg (by omega)]
            have HST2 := Lib.hid hst2
            clear hst2
            go_wp2
            go_roundw
            case rel => exact ⟨k + 1, q, by omega, by go_num, rfl, hq0, hq1, HST2.out, bw_trans hbw (bw_alloc _ _), HBOX2.out⟩
            case measure => simp [intOf]; omega
        · have hxq : (x == t) = false := by simp [hxt]
          have hst2 : longest js r.ended t = longFrom t (js.drop (k + 1)) (r.ended.drop (k + 1)) q := by rw [hx.out, HST.out, if_neg (fun h => hxt h.1)]
          have HST2 := Lib.hid hst2
          have HXT := Lib.hid hxt
          clear hst2 hxt
          go_wp2
          go_roundw
          case rel => exact ⟨k + 1, q, by omega, by go_num, rfl, hq0, hq1, HST2.out, bw_trans hbw (bw_alloc _ _), HBOX2.out⟩
          case measure => simp [intOf]; omega
      · have HD : Hid (q = longest js r.ended t) := by
          have h2 : ¬ k < r.ended.length := by rw [← HL.out]; exact hlt
          show _ = _
          rw [hx.out, drop_end hlt, drop_end h2]; rfl
        go_wp2
        go_ret
        exact ⟨ret_i HD.out, hbw⟩
  · have hq : ((r.ended.length : Int) != (js.length : Int)) = true := by simp; omega
    have hx0 : 0 = longest js r.ended t := by rw [longest, if_neg hl]
    have HL := Lib.hid hl
    have HX0 := Lib.hid hx0
    clear hl hx0
    go_enter Try.func27, Try.ntmps27
    go_wp2
    go_ret
    exact ⟨ret_i HX0.out, bw_alloc _ _⟩

set_option maxHeartbeats 3200000 in
theorem longest_spec {w : World} {v u : Value} {js : List Jb} {r : Rn} (hj : SJ w v js) (hr : RR w u r) (hg : JR js) (t : Int) : Calls Try.prog 28 #[v, u, .int .i64 t] w fun e w' => e = .returned (.int .i64 (longest js r.ended t)) ∧ Bw w w' := by
  obtain ⟨⟨ao, c, rfl, hjr, _⟩, hjn⟩ := hj
  obtain ⟨⟨a1, c1, a2, c2, a3, c3, rfl, h1, h2, h3⟩, n1, n2, n3, ng⟩ := hr
  have HJR := Lib.hid hjr
  have H1 := Lib.hid h1
  have HG := Lib.hid hg
  have NG := Lib.hid ng
  clear hjr h1 hg ng
  clear h2 h3
  by_cases hl : js.length = r.ended.length
  · have hq : ((r.ended.length : Int) != (js.length : Int)) = false := by simp [hl]
    have hx0 : longest js r.ended t = longFrom t js r.ended 0 := by rw [longest, if_pos hl]
    have HL := Lib.hid hl
    have HX0 := Lib.hid hx0
    clear hl hx0
    go_enter Try.func28, Try.ntmps28
    go_wp2
    go_loopw [7, 8] (fun m i wr => ∃ (k : Nat) (q : Int), k ≤ js.length ∧ i = .int .i64 k ∧ m = .int .i64 q ∧ 0 ≤ q ∧ q ≤ 9223372036854775807 ∧ Hid (longest js r.ended t = longFrom t (js.drop k) (r.ended.drop k) q) ∧ Bw w wr ∧ Hid (wr.heap[w.heap.size]? = some (.cells #[.slice a1 r.ended.length c1, .slice a2 r.trace.length c2, .slice a3 r.switches.length c3, .bool r.high] 29 (0, 0)))) (fun _ i _ => js.length - (intOf i).toNat)
    case atStart => exact ⟨0, 0, Nat.zero_le _, rfl, rfl, by omega, by omega, HX0.out, bw_alloc _ _, heap_alloc_new w _⟩
    case round =>
      obtain ⟨k, q, hk, rfl, rfl, hq0, hq1, hx, hbw, hbox⟩ := hrel
      by_cases hlt : k < js.length
      · have hlt2 : k < r.ended.length := by rw [← HL.out]; exact hlt
        obtain ⟨⟨x, y, z⟩, b, off, hjk, hao, hbs, c0, c1', c2'⟩ := HJR.out.get hbw hlt
        obtain ⟨e, b2, off2, hek, ha1, hbs2, d0⟩ := H1.out.get hbw hlt2
        dsimp only at c0 c1' c2'
        have hgy := (HG.out.rng _ (List.mem_of_getElem? hjk)).2.1
        have hge := NG.out.1 _ (List.mem_of_getElem? hek)
        obtain ⟨gy0, gy1⟩ := hgy
        obtain ⟨ge0, ge1⟩ := hge
        dsimp only at gy0 gy1
        have hst : longFrom t (js.drop k) (r.ended.drop k) q = longFrom t (js.drop (k + 1)) (r.ended.drop (k + 1)) (if x = t ∧ 0 ≤ y ∧ 0 ≤ e ∧ q < e - y then e - y else q) := by rw [drop_cons hjk, drop_cons hek]; rfl
        have HJK := Lib.hid hjk
        have HEK := Lib.hid hek
        have HST := Lib.hid hst
        clear hjk hek hst
        subst hao; subst ha1
        have p0 := blk_cell hbox.out 0 rfl
        by_cases hxt : x = t
        · subst hxt
          have hxq : (x == x) = true := by simp
          by_cases he0 : 0 ≤ e
          · by_cases hy0 : 0 ≤ y
            · have hwr : IntKind.i64.wrap (e - y) = e - y := IntWalk.i64_in _ (by omega)
              by_cases hqe : q < e - y
              · have hst2 : longest js r.ended x = longFrom x (js.drop (k + 1)) (r.ended.drop (k + 1)) (e - y) := by rw [hx.out, HST.out]; simp [hy0, he0, hqe]
                have HST2 := Lib.hid hst2
                clear hst2
                go_wp2_with fail
                go_quiet (fail)
                go_wp2_with fail
                go_quiet (fail)
                go_wp2
                go_roundw
                case rel => exact ⟨k + 1, _, by omega, by go_num, rfl, by omega, by omega, HST2.out, blw_drewN hbw _, blk_bw (bw_drewN _ _) hbox.out⟩
                case measure => simp [intOf]; omega
              · have hst2 : longest js r.ended x = longFrom x (js.drop (k + 1)) (r.ended.drop (k + 1)) q := by rw [hx.out, HST.out, if_neg (by omega)]
                have hqd : decide (q < e - y) = false := by simp; omega
                have HST2 := Lib.hid hst2
                have HQE := Lib.hid hqe
                clear hst2 hqe
                go_wp2_with fail
                go_quiet (fail)
                go_wp2
                go_roundw
                case rel => exact ⟨k + 1, q, by omega, by go_num, rfl, hq0, hq1, HST2.out, blw_drewN hbw _, blk_bw (bw_drewN _ _) hbox.out⟩
                case measure => simp [intOf]; omega
            · have hst2 : longest js r.ended x = longFrom x (js.drop (k + 1)) (r.ended.drop (k + 1)) q := by rw [hx.out, HST.out, if_neg (by omega)]
              have hqd : decide (0 ≤ y) = false := by simp; omega
              have HST2 := Lib.hid hst2
              have HY0 := Lib.hid hy0
              clear hst2 hy0
              go_wp2_with fail
              go_quiet (fail)
              go_wp2
              go_roundw
              case rel => exact ⟨k + 1, q, by omega, by go_num, rfl, hq0, hq1, HST2.out, blw_drewN hbw _, blk_bw (bw_drewN _ _) hbox.out⟩
              case measure => simp [intOf]; omega
          · have hst2 : longest js r.ended x = longFrom x (js.drop (k + 1)) (r.ended.drop (k + 1)) q := by rw [hx.out, HST.out, if_neg (by omega)]
            have hqd : decide (0 ≤ e) = false := by simp; omega
            have HST2 := Lib.hid hst2
            have HE0 := Lib.hid he0
            clear hst2 he0
            go_wp2_with fail
            go_quiet (fail)
            go_wp2
            go_roundw
            case rel => exact ⟨k + 1, q, by omega, by go_num, rfl, hq0, hq1, HST2.out, blw_drewN hbw _, blk_bw (bw_drewN _ _) hbox.out⟩
            case measure => simp [intOf]; omega
        · have hxq : (x == t) = false := by simp [hxt]
          have hst2 : longest js r.ended t = longFrom t (js.drop (k + 1)) (r.ended.drop (k + 1)) q := by rw [hx.out, HST.out, if_neg (fun h => hxt h.1)]
          have HST2 := Lib.hid hst2
          have HXT := Lib.hid hxt
          clear hst2 hxt
          go_wp2_with fail
          go_quiet (fail)
          go_wp2
          go_roundw
          case rel => exact ⟨k + 1, q, by omega, by go_num, rfl, hq0, hq1, HST2.out, blw_drewN hbw _, blk_bw (bw_drewN _ _) hbox.out⟩
          case measure => simp [intOf]; omega
      · have HD : Hid (q = longest js r.ended t) := by
          have h2 : ¬ k < r.ended.length := by rw [← HL.out]; exact hlt
          show _ = _
          rw [hx.out, drop_end hlt, drop_end h2]; rfl
        go_wp2
        go_ret
        exact ⟨ret_i HD.out, hbw⟩
  · have hq : ((r.ended.length : Int) != (js.length : Int)) = true := by simp; omega
    have hx0 : 0 = longest js r.ended t := by rw [longest, if_neg hl]
    have HL := Lib.hid hl
    have HX0 := Lib.hid hx0
    clear hl hx0
    go_enter Try.func28, Try.ntmps28
    go_wp2
    go_ret
    exact ⟨ret_i HX0.out, bw_alloc _ _⟩
theorem jr_raw {w : World} {v : Value} {l : List Jb} (h : RawJ w v l) : JR l := ⟨h.rng⟩
end Go.Proofs.Ytchpfpekkgbehaa
