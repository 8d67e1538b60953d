/-
  The walks of the functions that mark a result's cells and look whether the marks are held. Lengths at most 2^20.
-/
import Derived.Test.YtbgfclcnddgboaaTo
namespace Go.Proofs.Ytbgfclcnddgboaa
open Go.RowKit

/-- Only the block of this address may have turned. -/
abbrev Hit (w w' : World) (ao : Option Addr) : Prop := w.grownBy w' (ao.map (·.block))

theorem hit_refl (w : World) (ao : Option Addr) : Hit w w ao := ⟨rfl, rfl, rfl, Nat.le_refl _, fun _ _ _ => rfl⟩
theorem hit_drewN {w w' : World} {ao : Option Addr} (h : Hit w w' ao) (n : Nat) : Hit w (w'.drewN n) ao := ⟨h.os, h.tape, h.output, h.size, h.block⟩
theorem hit_set {w w' : World} {g : Nat} (h : Hit w w' (some ⟨g, 0, none⟩)) (j : Nat) (v : Value) : Hit w (w'.setCell ⟨g, j, none⟩ v) (some ⟨g, 0, none⟩) :=
  ⟨h.os, h.tape, h.output, by simpa using h.size, fun k hk hne => by rw [Below.heap_setCell _ _ _ _ (fun e => hne (by simp [e]))]; exact h.block k hk hne⟩

def marksI (k : Int) : Nat → List Int
  | 0 => []
  | n + 1 => marksI k n ++ [k + n]
def marksJ (k : Int) : Nat → List Jb
  | 0 => []
  | n + 1 => marksJ k n ++ [⟨k + 3 * n, k + 3 * n + 1, k + 3 * n + 1 + 1⟩]
def marksT (k : Int) : Nat → List Tk
  | 0 => []
  | n + 1 => marksT k n ++ [⟨k + 5 * n, k + 5 * n + 1, k + 5 * n + 1 + 1, k + 5 * n + 1 + 1 + 1, (k + 5 * n + 1 + 1 + 1 + 1) % 3 == 0⟩]
theorem marksI_len (k : Int) (n : Nat) : (marksI k n).length = n := by induction n <;> simp_all [marksI]
theorem marksJ_len (k : Int) (n : Nat) : (marksJ k n).length = n := by induction n <;> simp_all [marksJ]
theorem marksT_len (k : Int) (n : Nat) : (marksT k n).length = n := by induction n <;> simp_all [marksT]
theorem marksI_get (k : Int) (n i : Nat) (h : i < n) : (marksI k n)[i]? = some (k + i) := by
  induction n with
  | zero => omega
  | succ n ih =>
    rw [marksI]
    by_cases hi : i < n
    · rw [List.getElem?_append_left (by rw [marksI_len]; exact hi)]; exact ih hi
    · obtain rfl : i = n := by omega
      rw [List.getElem?_append_right (by rw [marksI_len]; exact Nat.le_refl _), marksI_len]; simp
theorem marksJ_get (k : Int) (n i : Nat) (h : i < n) : (marksJ k n)[i]? = some ⟨k + 3 * i, k + 3 * i + 1, k + 3 * i + 1 + 1⟩ := by
  induction n with
  | zero => omega
  | succ n ih =>
    rw [marksJ]
    by_cases hi : i < n
    · rw [List.getElem?_append_left (by rw [marksJ_len]; exact hi)]; exact ih hi
    · obtain rfl : i = n := by omega
      rw [List.getElem?_append_right (by rw [marksJ_len]; exact Nat.le_refl _), marksJ_len]; simp
theorem marksT_get (k : Int) (n i : Nat) (h : i < n) : (marksT k n)[i]? = some ⟨k + 5 * i, k + 5 * i + 1, k + 5 * i + 1 + 1, k + 5 * i + 1 + 1 + 1, (k + 5 * i + 1 + 1 + 1 + 1) % 3 == 0⟩ := by
  induction n with
  | zero => omega
  | succ n ih =>
    rw [marksT]
    by_cases hi : i < n
    · rw [List.getElem?_append_left (by rw [marksT_len]; exact hi)]; exact ih hi
    · obtain rfl : i = n := by omega
      rw [List.getElem?_append_right (by rw [marksT_len]; exact Nat.le_refl _), marksT_len]; simp

/-- The end of a mark: how far it has counted, what turned, what lies there now. -/
def MarkEnd (w : World) (ao : Option Addr) (E : Nat) (q : Int) (xs : List Value) (e : Ending) (w' : World) : Prop := e = .returned (.int .i64 q) ∧ Hit w w' ao ∧ Own w' 0 E ao xs ∧ (xs = [] → w' = w)

theorem own_len {w : World} {E : Nat} {ao : Option Addr} {xs : List Value} (h : Own w 0 E ao xs) (hne : xs ≠ []) : ∃ g cur, ao = some ⟨g, 0, none⟩ ∧ w.heap[g]? = some (.cells cur E (0, 0)) ∧ xs.length ≤ cur.size := by
  rcases h with h | ⟨g, cur, e, _, hh, ht⟩
  · exact absurd h hne
  · refine ⟨g, cur, e, hh, ?_⟩
    rw [← ht]; simp only [List.length_take, Array.length_toList]; omega

set_option maxHeartbeats 800000 in
theorem markIntS_any (ao : Option Addr) (E n c : Nat) (k : Int) (w : World) (hn : n ≤ 1048576) (hk0 : 0 ≤ k) (hk1 : k ≤ 100000000) (ho : n = 0 ∨ ∃ g cur, ao = some ⟨g, 0, none⟩ ∧ w.heap[g]? = some (.cells cur E (0, 0)) ∧ n ≤ cur.size) :
    Calls Try.prog 72 #[.slice ao n c, .int .i64 k] w (MarkEnd w ao E (k + n) (ints (marksI k n))) := by
  rcases Nat.eq_zero_or_pos n with rfl | hpos
  · go_enter Try.func72, Try.ntmps72
    go_wp2
    refine wp_loop_rounds 1 ?_
    rw [rounds_succ]
    go_wp2
    go_ret
    exact ⟨ret_i (by simp), hit_refl _ _, .inl rfl, fun _ => rfl⟩
  · obtain ⟨g, cur0, rfl, hblk, hsz⟩ := ho.resolve_left (by omega)
    have HBLK := Lib.hid hblk
    clear hblk
    go_enter Try.func72, Try.ntmps72
    go_wp2
    go_loopw [1, 5] (fun u i wr => ∃ (m : Nat) (cur : Array Value), m ≤ n ∧ i = .int .i64 m ∧ u = .int .i64 (k + m) ∧ Hid (wr.heap[g]? = some (.cells cur E (0, 0))) ∧ n ≤ cur.size ∧ Hid (cur.toList.take m = ints (marksI k m)) ∧ Hit w wr (some ⟨g, 0, none⟩)) (fun _ i _ => n - (intOf i).toNat)
    case atStart => exact ⟨0, cur0, Nat.zero_le _, rfl, by simp, HBLK.out, hsz, rfl, hit_refl _ _⟩
    case round =>
      obtain ⟨m, cur, hm, rfl, rfl, hb, hs, hx, hh⟩ := hrel
      by_cases hlt : m < n
      · have hmc : m < cur.size := by omega
        have hold := blk_cell hb.out m (v := cur[m]) (by simp [hmc])
        have hfree := blk_free hb.out m
        obtain ⟨vo, HVO⟩ : ∃ v, Hid (cur[m] = v) := ⟨cur[m], rfl⟩
        rw [HVO.out] at hold
        go_wp2
        go_roundw
        case rel => exact ⟨m + 1, cur.setIfInBounds m (vi (k + m)), by omega, by go_num, by simp; omega, blk_set hb.out m _, by simpa using hs, by
            show _ = _
            rw [fill_one hx.out hmc, marksI, ints_append]; rfl, hit_set hh m _⟩
        case measure => simp [intOf]; omega
      · obtain rfl : m = n := by omega
        go_wp2
        go_ret
        exact ⟨rfl, hh, .inr ⟨g, cur, rfl, Nat.zero_le _, hb.out, by rw [ints_length, marksI_len]; exact hx.out⟩, fun e => by have := congrArg List.length e; rw [ints_length, marksI_len] at this; simp at this; omega⟩

set_option maxHeartbeats 800000 in
theorem heldIntS_any (ao : Option Addr) (n c : Nat) (k : Int) (w : World) (hn : n ≤ 1048576) (hk0 : 0 ≤ k) (hk1 : k ≤ 100000000) (hr : RI w ao (marksI k n)) :
    Calls Try.prog 73 #[.slice ao n c, .int .i64 k] w fun e w' => e = .returned (.int .i64 (k + n)) ∧ Bw w w' := by
  have HR := Lib.hid hr
  clear hr
  go_enter Try.func73, Try.ntmps73
  go_wp2
  go_loopw [1, 5] (fun u i wr => ∃ m : Nat, m ≤ n ∧ i = .int .i64 m ∧ u = .int .i64 (k + m) ∧ Bw w wr) (fun _ i _ => n - (intOf i).toNat)
  case atStart => exact ⟨0, Nat.zero_le _, rfl, by simp, Bw.refl _⟩
  case round =>
    obtain ⟨m, hm, rfl, rfl, hbw⟩ := hrel
    by_cases hlt : m < n
    · obtain ⟨x, b, off, hxm, hao, hbs, hcell⟩ := HR.out.get hbw (k := m) (by rw [marksI_len]; exact hlt)
      have hx : x = k + m := by rw [marksI_get k n m hlt] at hxm; simpa using hxm.symm
      subst hx; subst hao
      have HXM := Lib.hid hxm
      clear hxm
      have hq : ((k + (m : Int)) != (k + (m : Int))) = false := by simp
      go_wp2
      go_roundw
      case rel => exact ⟨m + 1, by omega, by go_num, by simp; omega, hbw⟩
      case measure => simp [intOf]; omega
    · obtain rfl : m = n := by omega
      go_wp2
      go_ret
      exact ⟨rfl, hbw⟩
end Go.Proofs.Ytbgfclcnddgboaa
