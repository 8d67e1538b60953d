/-
  The walks of DrawRaiseAll and of DrawWorstJobs: what they draw is small, lies in memory of its own, and nothing that was there has turned.
-/
import Derived.Test.YtbgfclcnddgboaaDrL
namespace Go.Proofs.Ytbgfclcnddgboaa
open Go.RowKit

theorem st_row {w : World} {base c : Nat} {ao : Option Addr} {l : List Tk} (h : w.ownsRow base 64 5 (.slice ao l.length c) l.length (tks l)) (hn : l.length ≤ 1048576) : ST w (.slice ao l.length c) l := by
  refine ⟨⟨ao, c, rfl, (Own.ofRow h).rt, ?_, ?_⟩, hn⟩
  · rcases h.2 with ⟨e, h0⟩ | ⟨g, cap, cur, e, _, _, h, _⟩
    · simp at e; omega
    · simp at e; omega
  · rcases h.2 with ⟨e, h0⟩ | ⟨g, cap, cur, e, _, _, h, _⟩
    · simp at e; exact .inl ⟨e.1, e.2.2⟩
    · simp at e; exact .inr ⟨g, 0, e.1⟩
theorem sj_row {w : World} {base c : Nat} {ao : Option Addr} {l : List Jb} (h : w.ownsRow base 26 3 (.slice ao l.length c) l.length (jbs l)) (hn : l.length ≤ 1048576) : SJ w (.slice ao l.length c) l := by
  refine ⟨⟨ao, c, rfl, (Own.ofRow h).rj, ?_, ?_⟩, hn⟩
  · rcases h.2 with ⟨e, h0⟩ | ⟨g, cap, cur, e, _, _, h, _⟩
    · simp at e; omega
    · simp at e; omega
  · rcases h.2 with ⟨e, h0⟩ | ⟨g, cap, cur, e, _, _, h, _⟩
    · simp at e; exact .inl ⟨e.1, e.2.2⟩
    · simp at e; exact .inr ⟨g, 0, e.1⟩

/-- Some list of small tasks that the call made. -/
def Ts (w w' : World) (ao : Option Addr) (c : Nat) (l : List Tk) : Prop := w'.ownsRow w.heap.size 64 5 (.slice ao l.length c) l.length (tks l) ∧ l.length ≤ 6 ∧ (∀ t ∈ l, Sm t) ∧ Bw w w'
def DrawRaiseAllEnd (w : World) (e : Ending) (w' : World) : Prop := ∃ (ao : Option Addr) (c : Nat) (l : List Tk) (t : Int), e = .returned (.tuple #[.slice ao l.length c, .int .i64 t]) ∧ Ts w w' ao c l ∧ (-1 ≤ t ∧ t ≤ 21)
def DrawWorstJobsEnd (w : World) (e : Ending) (w' : World) : Prop := ∃ (ao : Option Addr) (c : Nat) (l : List Tk) (t : Int) (h : Bool), e = .returned (.tuple #[.slice ao l.length c, .int .i64 t, .bool h]) ∧ Ts w w' ao c l ∧ (-1 ≤ t ∧ t ≤ 201)

set_option maxHeartbeats 1600000 in
theorem DrawRaiseAll_any {w0 w : World} {v : Value} (hv : RawB w0 v) (hb : Bw w0 w) : Calls Try.prog 21 #[v] w (DrawRaiseAllEnd w) := by
  have HV := Lib.hid hv
  clear hv
  go_enter Try.func21, Try.ntmps21
  go_wp2_with fail
  refine (l11Open_any HV.out hb).mono ?_
  rintro e w1 ⟨rfl, hrd, hb1⟩
  have hz1 := hb1.size
  have hG := hrd.lt
  go_wp2_with fail
  refine (l1Some_any _ _ _ _ hrd (by omega)).mono ?_
  rintro e w2 ⟨ao, c, l, q, rfl, hown, hl6, hsm, hq, hd2⟩
  have hz2 := hd2.2.size
  have HSM := Lib.hid hsm
  clear hsm
  go_wp2_with fail
  refine (num_any _ w.heap.size w.heap.size q w2.heap.size [1, 0, -1, 2, 21] 5 (hd2.1.bw (bw_alloc _ _)) (by omega) (by simp) (by simp) (by omega) (ri_lit _ (heap_alloc_new w2 _) rfl)).mono ?_
  rintro e w3 ⟨x, rfl, hx, hd3⟩
  have hown3 := row_hit (row_bw hown (bw_alloc _ _)) hd3.2 (by omega)
  have hx1 : -1 ≤ x ∧ x ≤ 21 := by simp at hx; omega
  have hbw : Bw w w3 := bw_hit hb1 ((hd2.2.trans (HitR.of_bw (bw_alloc _ _))).trans hd3.2) (Nat.le_refl _)
  clear hd2 hd3 hx hown hrd
  go_wp2
  go_ret2
  exact ⟨ao, c, l, x, rfl, ⟨Go.Joins.ownsRow_le hown3 (by omega), hl6, HSM.out, hbw⟩, hx1⟩

end Go.Proofs.Ytbgfclcnddgboaa
