/-
  The walks of the functions that draw: a reader of bytes. What a draw returns lies in its bounds; of the blocks that were there only the reader's own turns.
-/
import Derived.Test.YtaadlgpglfpmpaaDoorGB
import Derived.Laws.BitsLemmas

namespace Go.Proofs.YtaadlgpglfpmpaaDoor
open Go.RowKit

/-! ### Only the blocks from lo on and below hi may have turned: how such facts are joined -/

theorem HitR.refl (lo hi : Nat) (w : World) : HitR lo hi w w := ⟨rfl, rfl, rfl, Nat.le_refl _, fun _ _ _ => rfl⟩
theorem HitR.trans {lo hi : Nat} {a b c : World} (h : HitR lo hi a b) (k : HitR lo hi b c) : HitR lo hi a c :=
  ⟨k.os.trans h.os, k.tape.trans h.tape, k.output.trans h.output, Nat.le_trans h.size k.size, fun g hg hx => (k.block g (Nat.lt_of_lt_of_le hg h.size) hx).trans (h.block g hg hx)⟩
theorem HitR.of_bw {lo hi : Nat} {a b : World} (h : Bw a b) : HitR lo hi a b := ⟨h.os, h.tape, h.output, h.size, fun g hg _ => h.block g hg⟩
theorem hitR_set {lo hi g : Nat} {a b : World} (h : HitR lo hi a b) (h1 : lo ≤ g) (h2 : g < hi) (j : Nat) (v : Value) : HitR lo hi a (b.setCell ⟨g, j, none⟩ v) :=
  ⟨h.os, h.tape, h.output, by simpa using h.size, fun k hk hx => by rw [Below.heap_setCell _ _ _ _ (show k ≠ g by omega)]; exact h.block k hk hx⟩
theorem cell_hit {lo hi : Nat} {w w' : World} (h : HitR lo hi w w') {b o : Nat} {v : Value} (hc : w.cell? ⟨b, o, none⟩ = some v) (hg : b < lo ∨ hi ≤ b) : w'.cell? ⟨b, o, none⟩ = some v := by
  rw [World.cell?_of_block (h.block b (World.block_lt_of_cell? w _ hc) hg)]; exact hc

/-! ### The reader -/

/-- n bytes from the address on, all in blocks below base. -/
def RBy (w : World) (base : Nat) (bo : Option Addr) (n : Nat) : Prop := ∀ i, i < n → ∃ b off x, bo = some ⟨b, off, none⟩ ∧ b < base ∧ w.cell? ⟨b, off + i, none⟩ = some (.int .u8 x) ∧ 0 ≤ x ∧ x < 256
/-- The reader in block G has drawn p times. -/
def Rd (w : World) (base G p : Nat) : Prop := base ≤ G ∧ ∃ bo n c, w.heap[G]? = some (.cells #[.slice bo n c, .int .i64 p] 93 (0, 0)) ∧ n ≤ 2000 ∧ RBy w base bo n
/-- One draw: p times have become q; of the blocks that were there only G has turned. -/
abbrev Dr (w w' : World) (base G q : Nat) : Prop := Rd w' base G q ∧ HitR G (G + 1) w w'

theorem RBy.hit {w w' : World} {base lo hi : Nat} {bo : Option Addr} {n : Nat} (h : RBy w base bo n) (hh : HitR lo hi w w') (hl : base ≤ lo) : RBy w' base bo n := fun i hi => by
  obtain ⟨b, off, x, e, hb, hc, h0, h1⟩ := h i hi
  exact ⟨b, off, x, e, hb, cell_hit hh hc (.inl (by omega)), h0, h1⟩
theorem Rd.bw {w w' : World} {base G p : Nat} (h : Rd w base G p) (hb : Bw w w') : Rd w' base G p := by
  obtain ⟨h1, bo, n, c, h2, h3, h4⟩ := h
  exact ⟨h1, bo, n, c, blk_bw hb h2, h3, h4.hit (HitR.of_bw (lo := base) (hi := base) hb) (Nat.le_refl _)⟩
theorem Rd.lt {w : World} {base G p : Nat} (h : Rd w base G p) : G < w.heap.size := by
  obtain ⟨h1, bo, n, c, h2, h3, h4⟩ := h
  exact blk_lt h2

theorem xor_ok (a b : Int) (ha : 0 ≤ a) (ha' : a < 4611686018427387904) (hb : 0 ≤ b) (hb' : b < 4611686018427387904) : ∃ r, bits .xor .i64 a b = r ∧ 0 ≤ r ∧ r ≤ 4611686018427387904 := by
  obtain ⟨A, rfl⟩ := Int.eq_ofNat_of_zero_le ha
  obtain ⟨B, rfl⟩ := Int.eq_ofNat_of_zero_le hb
  have hx : A ^^^ B < 2 ^ 62 := Nat.xor_lt_two_pow (by omega) (by omega)
  have h1 : (BitVec.ofInt 64 (A : Int)).toNat = A := by
    rw [BitVec.ofInt_natCast, BitVec.toNat_ofNat]; exact Nat.mod_eq_of_lt (by omega)
  have h2 : (BitVec.ofInt 64 (B : Int)).toNat = B := by
    rw [BitVec.ofInt_natCast, BitVec.toNat_ofNat]; exact Nat.mod_eq_of_lt (by omega)
  refine ⟨((A ^^^ B : Nat) : Int), ?_, by omega, by omega⟩
  show IntKind.i64.wrap ((BitVec.ofInt 64 (A : Int) ^^^ BitVec.ofInt 64 (B : Int)).toNat : Int) = _
  rw [BitVec.toNat_xor, h1, h2, IntKind.wrap_i64]
  omega

def PickEnd (w : World) (base G p : Nat) (n : Int) (e : Ending) (w' : World) : Prop := ∃ r : Nat, e = .returned (.int .i64 r) ∧ (r = 0 ∨ (r : Int) < n) ∧ Dr w w' base G (p + 1)

set_option maxRecDepth 100000 in
set_option maxHeartbeats 1600000 in
theorem pick_any (w : World) (base G p : Nat) (n : Int) (hr : Rd w base G p) (hp : p ≤ 1000000) :
    Calls Tryd.prog 42 #[.pointer (some ⟨G, 0, none⟩), .int .i64 n] w (PickEnd w base G p n) := by
  obtain ⟨hG, bo, nb, c, hblk, hnb, hby⟩ := hr
  have hGs := blk_lt hblk
  have p0 := blk_cell hblk 0 rfl
  have p1 := blk_cell hblk 1 rfl
  have f1 := blk_free hblk 1
  have hw0 := IntWalk.i64_in ((p : Int) + 1) (by omega)
  have hd : ∀ W n', W = (w.setCell ⟨G, 1, none⟩ (.int .i64 ((p : Int) + 1))).drewN n' → Dr w W base G (p + 1) := by
    intro W n' e
    subst e
    have hh : HitR G (G + 1) w ((w.setCell ⟨G, 1, none⟩ (.int .i64 ((p : Int) + 1))).drewN n') := (hitR_set (HitR.refl G (G + 1) w) (Nat.le_refl _) (by omega) 1 _).trans (HitR.of_bw (bw_drewN _ _))
    refine ⟨⟨hG, bo, nb, c, ?_, hnb, hby.hit hh hG⟩, hh⟩
    have := blk_set hblk 1 (.int .i64 ((p : Int) + 1))
    simpa using this
  have HBLK := Lib.hid hblk
  have HBY := Lib.hid hby
  have HD := Lib.hid hd
  clear hblk hby hd
  by_cases hn : n < 1
  · go_enter Tryd.func42, Tryd.ntmps42
    go_wp2
    go_ret
    exact ⟨0, rfl, .inl rfl, HD.out _ 0 rfl⟩
  · have hn1 : 1 ≤ n := by omega
    have hdn : decide (n < 1) = false := by simp; omega
    by_cases hb0 : nb = 0
    · subst hb0
      go_enter Tryd.func42, Tryd.ntmps42
      go_wp2
      go_ret
      exact ⟨0, rfl, .inl rfl, HD.out _ 0 rfl⟩
    · have hb1 : 0 < nb := by omega
      have hbz : ((nb : Int) == 0) = false := by simp; omega
      by_cases hlt : p < nb
      · obtain ⟨b, off, x, hbo, hbb, hc, hx0, hx1⟩ := HBY.out p hlt
        subst hbo
        have hc' : (w.setCell ⟨G, 1, none⟩ (.int .i64 ((p : Int) + 1))).cell? ⟨b, off + p, none⟩ = some (.int .u8 x) := cell_hit (hitR_set (HitR.refl G (G + 1) w) (Nat.le_refl _) (by omega) 1 _) hc (.inl (by omega))
        clear hc hb0 hn
        go_enter Tryd.func42, Tryd.ntmps42
        go_wp2
        go_ret
        obtain ⟨r, hr⟩ := Int.eq_ofNat_of_zero_le (Int.emod_nonneg x (show n ≠ 0 by omega))
        have hlt2 := Int.emod_lt_of_pos x (show 0 < n by omega)
        exact ⟨r, ret_i hr, .inr (by omega), HD.out _ 0 rfl⟩
      · have m1 : p % nb < nb := Nat.mod_lt _ hb1
        have m2 : (p * 7 + 3) % nb < nb := Nat.mod_lt _ hb1
        obtain ⟨b, off, x, hbo, hbb, hc, hx0, hx1⟩ := HBY.out (p % nb) m1
        obtain ⟨b', off', y, hbo', hbb', hcy, hy0, hy1⟩ := HBY.out ((p * 7 + 3) % nb) m2
        subst hbo
        simp only [Option.some.injEq, Addr.mk.injEq, and_true] at hbo'
        obtain ⟨rfl, rfl⟩ := hbo'
        have hc' : (w.setCell ⟨G, 1, none⟩ (.int .i64 ((p : Int) + 1))).cell? ⟨b, off + p % nb, none⟩ = some (.int .u8 x) := cell_hit (hitR_set (HitR.refl G (G + 1) w) (Nat.le_refl _) (by omega) 1 _) hc (.inl (by omega))
        have hcy' : (w.setCell ⟨G, 1, none⟩ (.int .i64 ((p : Int) + 1))).cell? ⟨b, off + (p * 7 + 3) % nb, none⟩ = some (.int .u8 y) := cell_hit (hitR_set (HitR.refl G (G + 1) w) (Nat.le_refl _) (by omega) 1 _) hcy (.inl (by omega))
        have q1 : p / nb ≤ p := Nat.div_le_self _ _
        have k1 : (p : Int).tmod nb = ((p % nb : Nat) : Int) := (Int.ofNat_tmod p nb).symm
        have k2 : ((p : Int) * 7 + 3).tmod nb = (((p * 7 + 3) % nb : Nat) : Int) := by rw [show (p : Int) * 7 + 3 = ((p * 7 + 3 : Nat) : Int) by simp, ← Int.ofNat_tmod]
        have k3 : (p : Int).tdiv nb = ((p / nb : Nat) : Int) := (Int.ofNat_tdiv p nb).symm
        have w1 := IntWalk.i64_in (x * 131) (by omega)
        have w2 := IntWalk.i64_in ((p : Int) * 7) (by omega)
        have w3 := IntWalk.i64_in ((p : Int) * 7 + 3) (by omega)
        have w4 := IntWalk.i64_in (y * 1117) (by omega)
        have w5 := IntWalk.i64_in (x * 131 + y * 1117) (by omega)
        have w6 := IntWalk.i64_in ((p : Int) * 29) (by omega)
        have w7 := IntWalk.i64_in (x * 131 + y * 1117 + (p : Int) * 29) (by omega)
        obtain ⟨dv, hdv, hdv1⟩ : ∃ dv : Nat, p / nb = dv ∧ dv ≤ 1000000 := ⟨_, rfl, by omega⟩
        have w8 := IntWalk.i64_in ((dv : Int) * 53) (by omega)
        have w9 := IntWalk.i64_in (x * 131 + y * 1117 + (p : Int) * 29 + (dv : Int) * 53) (by omega)
        have hlti : decide ((p : Int) < nb) = false := by simp; omega
        rw [hdv] at k3
        have ec : ((p : Int) * 7 + 3) % (nb : Int) = (((p * 7 + 3) % nb : Nat) : Int) := by simp
        have i1 : (0 : Int) ≤ ((p : Int) * 7 + 3) % (nb : Int) := by omega
        have i2 : ((p : Int) * 7 + 3) % (nb : Int) < (nb : Int) := by omega
        have i3 : (((p : Int) * 7 + 3) % (nb : Int)).toNat = (p * 7 + 3) % nb := by omega
        clear ec
        clear hc hcy
        go_enter Tryd.func42, Tryd.ntmps42
        go_wp2_with fail
        go_quiet (fail)
        obtain ⟨s, hs⟩ : ∃ s, x * 131 + y * 1117 + (p : Int) * 29 + (dv : Int) * 53 = s := ⟨_, rfl⟩
        have hs0 : 0 ≤ s := by omega
        have hs1 : s < 1000000000 := by omega
        rw [hs]
        clear hs w9 w8 w7 w6 w5 w4 w3 w2 w1 k1 k2 k3 i1 i2 i3 p0 p1 f1 hc' hcy'
        have hq : s.tdiv 64 = s / 64 := Int.tdiv_eq_ediv_of_nonneg hs0
        obtain ⟨r, hx, hr0, hr1⟩ := xor_ok s (s / 64) hs0 (by omega) (by omega) (by omega)
        go_wp2
        go_ret
        obtain ⟨u, hu⟩ := Int.eq_ofNat_of_zero_le (Int.emod_nonneg r (show n ≠ 0 by omega))
        have hlt2 := Int.emod_lt_of_pos r (show 0 < n by omega)
        exact ⟨u, ret_i hu, .inr (by omega), HD.out _ _ rfl⟩

def NumEnd (w : World) (base G p : Nat) (l : List Int) (e : Ending) (w' : World) : Prop := ∃ x, e = .returned (.int .i64 x) ∧ x ∈ l ∧ Dr w w' base G (p + 1)

set_option maxHeartbeats 800000 in
theorem num_any (w : World) (base G p g : Nat) (l : List Int) (c : Nat) (hr : Rd w base G p) (hp : p ≤ 1000000) (hl : 0 < l.length) (hl1 : l.length ≤ 100) (hg : G < g) (hi : RI w (some ⟨g, 0, none⟩) l) :
    Calls Tryd.prog 39 #[.pointer (some ⟨G, 0, none⟩), .slice (some ⟨g, 0, none⟩) l.length c] w (NumEnd w base G p l) := by
  have HR := Lib.hid hr
  have HI := Lib.hid hi
  clear hr hi
  go_enter Tryd.func39, Tryd.ntmps39
  go_wp2_with fail
  refine (pick_any _ base G p _ HR.out hp).mono ?_
  rintro e w1 ⟨r, rfl, hr, hd⟩
  have hrl : r < l.length := by omega
  obtain ⟨x, hx⟩ := getSome hrl
  have hm := List.mem_of_getElem? hx
  obtain ⟨b, off, e, hbs, hc⟩ := HI.out r x hx
  simp only [Option.some.injEq, Addr.mk.injEq, and_true] at e
  obtain ⟨rfl, rfl⟩ := e
  have hc1 := cell_hit hd.2 hc (.inr (by omega))
  simp only [Nat.zero_add] at hc1
  have HX := Lib.hid hx
  have HD := Lib.hid hd
  have HM := Lib.hid hm
  clear hx hd hm
  clear hc hr
  go_wp2
  go_ret
  exact ⟨x, rfl, HM.out, HD.out⟩

theorem hitR_own {lo hi g : Nat} {a b : World} (h : HitR lo hi a b) (hg : a.heap.size ≤ g) (j : Nat) (v : Value) : HitR lo hi a (b.setCell ⟨g, j, none⟩ v) :=
  ⟨h.os, h.tape, h.output, by simpa using h.size, fun k hk hx => by rw [Below.heap_setCell _ _ _ _ (show k ≠ g by omega)]; exact h.block k hk hx⟩
theorem hitR_alloc {lo hi : Nat} {a b : World} (h : HitR lo hi a b) (o : Obj) : HitR lo hi a (b.alloc o) := h.trans (HitR.of_bw (bw_alloc _ _))
theorem Rd.set {w : World} {base G p g : Nat} (h : Rd w base G p) (hg : g ≠ G) (hb : base ≤ g) (j : Nat) (v : Value) : Rd (w.setCell ⟨g, j, none⟩ v) base G p := by
  obtain ⟨h1, bo, n, c, h2, h3, h4⟩ := h
  exact ⟨h1, bo, n, c, blk_oth h2 (Ne.symm hg) j v, h3, h4.hit (hitR_set (HitR.refl g (g + 1) w) (Nat.le_refl _) (by omega) j v) hb⟩
theorem ri_lit {w : World} {g E : Nat} {c : Array Value} {fr : Nat × Nat} (l : List Int) (h : w.heap[g]? = some (.cells c E fr)) (hc : c.toList = ints l) : RI w (some ⟨g, 0, none⟩) l := fun k x hx => by
  refine ⟨g, 0, rfl, blk_lt h, ?_⟩
  rw [Nat.zero_add]
  exact blk_cell h k (by rw [← Array.getElem?_toList, hc]; exact ints_get l k x hx)

/-- What came in as bytes. -/
structure RawB (w : World) (v : Value) : Prop where
  form : ∃ bo n c, v = .slice bo n c ∧ n ≤ c ∧ n ≤ maxLen ∧ RBy w w.heap.size bo n

set_option maxHeartbeats 800000 in
theorem l11Open_any {w0 w : World} {v : Value} (hv : RawB w0 v) (hb : Bw w0 w) :
    Calls Tryd.prog 38 #[v] w fun e w' => e = .returned (.pointer (some ⟨w.heap.size, 0, none⟩)) ∧ Rd w' w.heap.size w.heap.size 0 ∧ Bw w w' := by
  obtain ⟨bo, n, c, rfl, hc, hm, hby0⟩ := hv
  have hby : RBy w w.heap.size bo n := fun i hi => by
    obtain ⟨b, off, x, e, h1, h2, h3, h4⟩ := hby0 i hi
    exact ⟨b, off, x, e, Nat.lt_of_lt_of_le h1 hb.size, cell_bw hb h2, h3, h4⟩
  have fin : ∀ m c', m ≤ n → m ≤ 2000 → Rd (w.alloc (.cells #[.slice bo m c', .int .i64 0] 93)) w.heap.size w.heap.size 0 := fun m c' h1 h2 =>
    ⟨Nat.le_refl _, bo, m, c', heap_alloc_new w _, h2, fun i hi => by
      obtain ⟨b, off, x, e, h1, h2, h3, h4⟩ := hby i (by omega)
      exact ⟨b, off, x, e, h1, cell_bw (bw_alloc _ _) h2, h3, h4⟩⟩
  unfold maxLen at hm
  clear hby0
  by_cases h2 : 2000 < n
  · obtain ⟨b, off, _, hbo, _⟩ := hby 0 (by omega)
    subst hbo
    have HBY := Lib.hid hby
    have FIN := Lib.hid fin
    clear hby fin
    have hc2 : 2000 ≤ c := by omega
    go_enter Tryd.func38, Tryd.ntmps38
    go_wp2
    go_ret
    exact ⟨rfl, FIN.out 2000 c (by omega) (by omega), bw_alloc _ _⟩
  · have HBY := Lib.hid hby
    have FIN := Lib.hid fin
    clear hby fin
    go_enter Tryd.func38, Tryd.ntmps38
    go_wp2
    go_ret
    exact ⟨rfl, FIN.out n c (Nat.le_refl _) (by omega), bw_alloc _ _⟩
end Go.Proofs.YtaadlgpglfpmpaaDoor
