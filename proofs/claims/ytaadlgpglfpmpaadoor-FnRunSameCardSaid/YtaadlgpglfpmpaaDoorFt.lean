/-
  The walks of FormatTrace. No condition on the run but that its lengths are known.
-/
import Derived.Test.YtaadlgpglfpmpaaDoorGB
import Derived.Test.YtaadlgpglfpmpaaDoorItoa
import Derived.Laws.Concat
import Derived.Laws.IdiomStrings



namespace Go.Proofs.YtaadlgpglfpmpaaDoor
open Go.RowKit

/-- The text of a trace. -/
def ftByte (t : Int) : UInt8 := if t = -1 then 46 else UInt8.ofNat (48 + t.toNat)
def ftGood (l : List Int) : Prop := ∀ t ∈ l, -1 ≤ t ∧ t ≤ 4
instance (l : List Int) : Decidable (ftGood l) := by unfold ftGood; infer_instance
def ftB (l : List Int) : List UInt8 := if l.length ≤ 200 ∧ ftGood l then l.map ftByte else []
abbrev sB (b : List UInt8) : Value := .string ⟨b.toArray⟩
theorem ft_dig {i : Nat} (h : i ≤ 4) : Lib.decDigits i = [ftByte i] := by
  rcases (show i = 0 ∨ i = 1 ∨ i = 2 ∨ i = 3 ∨ i = 4 by omega) with rfl | rfl | rfl | rfl | rfl <;> decide +kernel
theorem ft_take {l : List Int} {k : Nat} {t : Int} (h : l[k]? = some t) : (l.map ftByte).take (k + 1) = (l.map ftByte).take k ++ [ftByte t] := by
  rw [List.take_add_one]; simp [h]
theorem good_take {l : List Int} {k : Nat} {t : Int} (h : l[k]? = some t) (hg : ftGood (l.take k)) (ht : -1 ≤ t ∧ t ≤ 4) : ftGood (l.take (k + 1)) := by
  intro y hy
  rw [List.take_add_one, h] at hy
  rcases List.mem_append.1 hy with hy | hy
  · exact hg y hy
  · simp at hy; subst hy; exact ht
theorem sb_app (a : List UInt8) (b : UInt8) : Value.string (⟨a.toArray⟩ ++ ⟨#[b]⟩) = sB (a ++ [b]) := by
  have := ByteArray.mk_append_mk a [b]
  show Value.string _ = Value.string _
  rw [← this]
theorem ft_add (P : Program) (a : List UInt8) (b : UInt8) (h : a.length ≤ 200) (W : World) : (Op.stringOp .add ⟨a.toArray⟩ ⟨#[b]⟩).run P W = .ok (.string ⟨(a ++ [b]).toArray⟩) W := by
  have := run_string_add_lists (P := P) W a [b] (by omega) (by simp)
  simpa using this

set_option maxRecDepth 100000 in
set_option maxHeartbeats 1600000 in
theorem ft_impl {w : World} {v : Value} {r : Rn} (h : RR w v r) : Calls Tryd.prog 17 #[v] w fun e w' => e = .returned (sB (ftB r.trace)) ∧ Bw w w' := by
  obtain ⟨⟨a1, c1, a2, c2, a3, c3, rfl, h1, h2, h3⟩, n1, n2, n3, ng⟩ := h
  have H2 := Lib.hid h2
  clear h2
  clear h1 h3 ng
  go_enter Tryd.func17, Tryd.ntmps17
  by_cases hl : r.trace.length ≤ 200
  · have hd : decide (200 < (r.trace.length : Int)) = false := decide_eq_false (by omega)
    go_wp2
    go_loopw [3, 13] (fun o i wr => ∃ k : Nat, k ≤ r.trace.length ∧ i = .int .i64 k ∧ o = sB ((r.trace.map ftByte).take k) ∧ Hid (ftGood (r.trace.take k)) ∧ Bw w wr) (fun _ i _ => r.trace.length - (intOf i).toNat)
    case atStart => exact ⟨0, Nat.zero_le _, rfl, rfl, fun t ht => by simp at ht, bw_alloc _ _⟩
    case round =>
      obtain ⟨k, hk, rfl, rfl, hg, hbw⟩ := hrel
      by_cases hlt : k < r.trace.length
      · obtain ⟨t, b, off, htk, hao, hbs, hcell⟩ := H2.out.get hbw hlt
        subst hao
        have hlen : ((r.trace.map ftByte).take k).length ≤ 200 := by simp; omega
        have hadd := fun (b : UInt8) (W : World) => ft_add Tryd.prog ((r.trace.map ftByte).take k) b hlen W
        have hst := ft_take htk
        by_cases ht1 : t = -1
        · subst ht1
          have d0 : ((-1 : Int) == -1) = true := by simp
          have hb46 : ftByte (-1) = 46 := by decide
          have hadd := hadd 46
          have hgd := good_take htk hg.out (by omega)
          rw [hb46] at hst
          have HTK := Lib.hid htk
          have HST := Lib.hid hst
          have HGD := Lib.hid hgd
          have HLEN := Lib.hid hlen
          clear htk hst hgd hlen
          go_wp2
          go_roundw
          case rel => exact ⟨k + 1, by omega, by go_num, by rw [HST.out], HGD.out, hbw⟩
          case measure => simp [intOf]; omega
        · have d0 : (t == -1) = false := by simp [ht1]
          by_cases ht2 : 0 ≤ t ∧ t ≤ 4
          · obtain ⟨ht0, ht4⟩ := ht2
            obtain ⟨i, rfl⟩ := Int.eq_ofNat_of_zero_le ht0
            have d1 : decide (0 ≤ (i : Int)) = true := decide_eq_true (by omega)
            have d2 : decide ((i : Int) ≤ 4) = true := decide_eq_true (by omega)
            have hadd := hadd (ftByte i)
            have hgd := good_take htk hg.out (by omega)
            have hdg := ft_dig (i := i) (by omega)
            have HTK := Lib.hid htk
            have HST := Lib.hid hst
            have HGD := Lib.hid hgd
            have HLEN := Lib.hid hlen
            have HDG := Lib.hid hdg
            clear htk hst hgd hlen hdg
            go_wp2_with fail
            refine (Tryd.strconv_Itoa_small i (by omega) _).mono ?_
            rw [HDG.out]
            rintro e w5 ⟨rfl, rfl⟩
            go_wp2
            go_roundw
            case rel => exact ⟨k + 1, by omega, by go_num, by rw [HST.out], HGD.out, hbw⟩
            case measure => simp [intOf]; omega
          · have hbad : ftB r.trace = [] := by
              rw [ftB, if_neg]
              intro h
              have := h.2 t (List.mem_of_getElem? htk)
              omega
            have HBAD := Lib.hid hbad
            have HST := Lib.hid hst
            have HTK := Lib.hid htk
            have HLEN := Lib.hid hlen
            clear hbad hst htk hlen
            by_cases ht0 : 0 ≤ t
            · have d1 : decide (0 ≤ t) = true := decide_eq_true ht0
              have d2 : decide (t ≤ 4) = false := decide_eq_false (by omega)
              go_wp2
              go_ret
              exact ⟨by rw [HBAD.out]; rfl, hbw⟩
            · have d1 : decide (0 ≤ t) = false := decide_eq_false ht0
              go_wp2
              go_ret
              exact ⟨by rw [HBAD.out]; rfl, hbw⟩
      · have hge : decide ((k : Int) < (r.trace.length : Int)) = false := decide_eq_false (by omega)
        have hke : r.trace.take k = r.trace := List.take_of_length_le (by omega)
        have hgo : ftB r.trace = (r.trace.map ftByte).take k := by
          have := hg.out
          rw [hke] at this
          rw [ftB, if_pos ⟨hl, this⟩, List.take_of_length_le (by simp; omega)]
        have HGO := Lib.hid hgo
        have HKE := Lib.hid hke
        clear hgo hke
        go_wp2
        go_ret
        exact ⟨by rw [HGO.out]; rfl, hbw⟩
  · have hd : decide (200 < (r.trace.length : Int)) = true := decide_eq_true (by omega)
    have hbad : ftB r.trace = [] := by rw [ftB, if_neg (fun h => hl h.1)]
    have HBAD := Lib.hid hbad
    clear hbad
    go_wp2
    go_ret
    exact ⟨by rw [HBAD.out]; rfl, bw_alloc _ _⟩
/-- Bytes as cells. -/
abbrev bys (l : List UInt8) : List Value := l.map fun b => .int .u8 (b.toNat : Int)
theorem infoByte : (Tryd.prog.info? 5).map (fun i => (i.zero, i.size, i.bytes)) = some (some (.int .u8 0), 1, 1) := by kernel_rfl
theorem oneB (n : Int) : ∀ u ∈ [Value.int .u8 n], u.oneCell' = true := by intro u hu; simp at hu; subst hu; rfl
theorem ft_byte {i : Nat} (h : i ≤ 4) : ((ftByte i).toNat : Int) = 48 + (i : Int) := by
  rcases (show i = 0 ∨ i = 1 ∨ i = 2 ∨ i = 3 ∨ i = 4 by omega) with rfl | rfl | rfl | rfl | rfl <;> decide
theorem u8w (i : Nat) (h : i ≤ 4) : IntKind.u8.wrap (48 + (i : Int)) = 48 + (i : Int) := by
  rcases (show i = 0 ∨ i = 1 ∨ i = 2 ∨ i = 3 ∨ i = 4 by omega) with rfl | rfl | rfl | rfl | rfl <;> rfl
theorem conv_own {w : World} {base k : Nat} {u : Value} {l : List UInt8} (h : w.ownsRow base 5 1 u k (bys l)) (hk : l.length = k) : (convert 22 9 u).run Tryd.prog w = .ok (sB l) w := by
  subst hk
  rcases h.2 with ⟨rfl, h0⟩ | ⟨g, cap, cur, rfl, _, hb, hn, _, hs, ht⟩
  · have : l = [] := List.length_eq_zero_iff.1 h0
    subst this
    rw [run_convert_bytes_string w 22 9 5 none 0 0 Tryd.underlying22 Tryd.underlying5 Tryd.underlying9]
    rfl
  · refine run_convert_bytes_back w _ _ 5 ⟨g, 0, none⟩ cap l Tryd.underlying22 Tryd.underlying5 Tryd.underlying9 (fun j hj => ?_)
    have h1 : (cur.toList.take (l.length * 1))[j]? = some (.int .u8 (l[j].toNat : Int)) := by rw [ht]; simp [bys, hj]
    rw [List.getElem?_take_of_lt (by omega)] at h1
    have := blk_cell hb j (by rw [← Array.getElem?_toList]; exact h1)
    have hadr : (⟨g, 0, none⟩ : Addr).add j = ⟨g, j, none⟩ := by
      unfold Addr.add
      split <;> simp_all
    rw [hadr]; exact this
set_option maxRecDepth 100000 in
set_option maxHeartbeats 1600000 in
theorem ft_spec {w : World} {v : Value} {r : Rn} (h : RR w v r) : Calls Tryd.prog 19 #[v] w fun e w' => e = .returned (sB (ftB r.trace)) ∧ Bw w w' := by
  obtain ⟨⟨a1, c1, a2, c2, a3, c3, rfl, h1, h2, h3⟩, n1, n2, n3, ng⟩ := h
  obtain ⟨i0, hi0, hz0, hz1, hz2⟩ := info_parts infoByte
  have H2 := Lib.hid h2
  clear h2
  clear h1 h3 ng
  go_enter Tryd.func19, Tryd.ntmps19
  go_wp2
  go_loopw [3, 4] (fun u i wr => ∃ k : Nat, k ≤ r.trace.length ∧ k ≤ 200 ∧ i = .int .i64 k ∧ wr.ownsRow (w.heap.size + 1) 5 1 u k (bys ((r.trace.map ftByte).take k)) ∧ Hid (ftGood (r.trace.take k)) ∧ Hid (200 < r.trace.length → k = 0) ∧ Bw w wr ∧ Hid (wr.heap[w.heap.size]? = some (.cells #[.slice a1 r.ended.length c1, .slice a2 r.trace.length c2, .slice a3 r.switches.length c3, .bool r.high] 25 (0, 0)))) (fun _ i _ => r.trace.length - (intOf i).toNat)
  case atStart => exact ⟨0, Nat.zero_le _, Nat.zero_le _, rfl, by simpa [bys] using World.ownsRow_made (w.alloc _) #[] 0 (by simp) (by simp) rfl, fun t ht => by simp at ht, fun _ => rfl, bw_trans (bw_alloc _ _) (bw_alloc _ _), blk_bw (bw_alloc _ _) (heap_alloc_new w _)⟩
  case round =>
    obtain ⟨k, hk, hk2, rfl, hown, hg, h200, hbw, hbox⟩ := hrel
    have p1 := blk_cell hbox.out 1 rfl
    have hz := hbw.size
    have hbl : w.heap.size < wr.heap.size := blk_lt hbox.out
    by_cases hlt : k < r.trace.length
    · by_cases hl : r.trace.length ≤ 200
      · obtain ⟨t, b, off, htk, hao, hbs, hcell⟩ := H2.out.get hbw hlt
        subst hao
        have hd1 : decide ((k : Int) < (r.trace.length : Int)) = true := decide_eq_true (by omega)
        have hd2 : decide ((r.trace.length : Int) ≤ 200) = true := decide_eq_true (by omega)
        have hst := ft_take htk
        by_cases ht1 : t = -1
        · subst ht1
          have d0 : ((-1 : Int) == -1) = true := by simp
          have hgd := good_take htk hg.out (by omega)
          have hb46 : ftByte (-1) = 46 := by decide
          rw [hb46] at hst
          have HTK := Lib.hid htk
          have HST := Lib.hid hst
          have HGD := Lib.hid hgd
          have HL := Lib.hid hl
          clear htk hst hgd hl
          go_wp2_with (at_builtin; refine wpList_append_own _ rfl _ _ 22 rfl (w.heap.size + 1) 5 i0 (.int .u8 0) 1 1 Tryd.underlying22 hi0 hz0 hz1 hz2 rfl (by decide) _ _ _ rfl (hown.alloc _) ⟨wr.heap.size, 0, none⟩ 1 1 [.int .u8 46] rfl rfl (cell_one_new _ _ _) (oneB _) (by unfold maxLen; omega) (by omega) (by simp; omega) ?_; intro v' w1 hown' hgrow _)
          have hb1 : Bw w w1 := Below.grown (Below.alloc hbw hz _) hgrow (by simp; omega) (fun g hg => by have := own_cap0 hown g hg; omega)
          have hbox1 : Hid (w1.heap[w.heap.size]? = some (.cells #[.slice a1 r.ended.length c1, .slice (some ⟨b, off, none⟩) r.trace.length c2, .slice a3 r.switches.length c3, .bool r.high] 25 (0, 0))) := by
            show _ = _
            rw [hgrow.block w.heap.size (by simp; omega) (fun e => by have := own_cap0 hown w.heap.size e.symm; omega)]
            exact blk_bw (bw_alloc _ _) hbox.out
          have hown2 : w1.ownsRow (w.heap.size + 1) 5 1 v' (k + 1) (bys ((r.trace.map ftByte).take (k + 1))) := by rw [HST.out]; simpa [bys, hb46] using hown'
          clear hown' hgrow hown hbox p1 hcell
          go_wp2
          go_roundw
          case rel => exact ⟨k + 1, by omega, by have := HL.out; omega, by go_num, hown2, HGD.out, by show _ → _; intro h; have := HL.out; omega, hb1, hbox1⟩
          case measure => simp [intOf]; omega
        · have d0 : (t == -1) = false := by simp [ht1]
          by_cases ht2 : 0 ≤ t ∧ t ≤ 4
          · obtain ⟨ht0, ht4⟩ := ht2
            obtain ⟨i, rfl⟩ := Int.eq_ofNat_of_zero_le ht0
            have d1 : decide (0 ≤ (i : Int)) = true := decide_eq_true (by omega)
            have d2 : decide ((i : Int) < 5) = true := decide_eq_true (by omega)
            have hw1 := IntWalk.i64_in (48 + (i : Int)) (by omega)
            have hw2 := u8w i (by omega)
            have hgd := good_take htk hg.out (by omega)
            have hby := ft_byte (i := i) (by omega)
            have HTK := Lib.hid htk
            have HST := Lib.hid hst
            have HGD := Lib.hid hgd
            have HL := Lib.hid hl
            have HBY := Lib.hid hby
            clear htk hst hgd hl hby
            go_wp2_with (at_builtin; refine wpList_append_own _ rfl _ _ 22 rfl (w.heap.size + 1) 5 i0 (.int .u8 0) 1 1 Tryd.underlying22 hi0 hz0 hz1 hz2 rfl (by decide) _ _ _ rfl (hown.alloc _) ⟨wr.heap.size, 0, none⟩ 1 1 [.int .u8 (48 + (i : Int))] rfl rfl (cell_one_new _ _ _) (oneB _) (by unfold maxLen; omega) (by omega) (by simp; omega) ?_; intro v' w1 hown' hgrow _)
            have hb1 : Bw w w1 := Below.grown (Below.alloc hbw hz _) hgrow (by simp; omega) (fun g hg => by have := own_cap0 hown g hg; omega)
            have hbox1 : Hid (w1.heap[w.heap.size]? = some (.cells #[.slice a1 r.ended.length c1, .slice (some ⟨b, off, none⟩) r.trace.length c2, .slice a3 r.switches.length c3, .bool r.high] 25 (0, 0))) := by
              show _ = _
              rw [hgrow.block w.heap.size (by simp; omega) (fun e => by have := own_cap0 hown w.heap.size e.symm; omega)]
              exact blk_bw (bw_alloc _ _) hbox.out
            have hown2 : w1.ownsRow (w.heap.size + 1) 5 1 v' (k + 1) (bys ((r.trace.map ftByte).take (k + 1))) := by rw [HST.out]; simpa [bys, HBY.out] using hown'
            clear hown' hgrow hown hbox p1 hcell
            go_wp2
            go_roundw
            case rel => exact ⟨k + 1, by omega, by have := HL.out; omega, by go_num, hown2, HGD.out, by show _ → _; intro h; have := HL.out; omega, hb1, hbox1⟩
            case measure => simp [intOf]; omega
          · have hbad : ftB r.trace = [] := by
              rw [ftB, if_neg]
              intro h
              have := h.2 t (List.mem_of_getElem? htk)
              omega
            have HBAD := Lib.hid hbad
            have HST := Lib.hid hst
            have HTK := Lib.hid htk
            have HL := Lib.hid hl
            clear hbad hst htk hl
            by_cases ht0 : 0 ≤ t
            · have d1 : decide (0 ≤ t) = true := decide_eq_true ht0
              have d2 : decide (t < 5) = false := decide_eq_false (by omega)
              go_wp2
              go_ret
              exact ⟨by rw [HBAD.out]; rfl, hbw⟩
            · have d1 : decide (0 ≤ t) = false := decide_eq_false ht0
              go_wp2
              go_ret
              exact ⟨by rw [HBAD.out]; rfl, hbw⟩
      · have hd1 : decide ((k : Int) < (r.trace.length : Int)) = true := decide_eq_true (by omega)
        have hd2 : decide ((r.trace.length : Int) ≤ 200) = false := decide_eq_false (by omega)
        obtain rfl : k = 0 := h200.out (by omega)
        have hbad : ftB r.trace = [] := by rw [ftB, if_neg (fun h => hl h.1)]
        have hcv := conv_own (l := []) (by simpa [bys] using hown) rfl
        obtain ⟨ao', c', hu⟩ := own_form hown
        subst hu
        have HBAD := Lib.hid hbad
        have HL := Lib.hid hl
        clear hbad hl
        go_wp2
        go_ret
        exact ⟨by rw [HBAD.out]; rfl, hbw⟩
    · have hge : decide ((k : Int) < (r.trace.length : Int)) = false := decide_eq_false (by omega)
      have hke : r.trace.take k = r.trace := List.take_of_length_le (by omega)
      have hgo : ftB r.trace = (r.trace.map ftByte).take k := by
        have := hg.out
        rw [hke] at this
        rw [ftB, if_pos ⟨by omega, this⟩, List.take_of_length_le (by simp; omega)]
      have hcv := conv_own hown (by simp; omega)
      rw [← hgo] at hcv
      obtain ⟨ao', c', hu⟩ := own_form hown
      subst hu
      have HGO := Lib.hid hgo
      have HKE := Lib.hid hke
      clear hgo hke
      go_wp2
      go_ret
      exact ⟨rfl, hbw⟩
end Go.Proofs.YtaadlgpglfpmpaaDoor
