/-
  The walks of DueAt (impl) and of MissesOf. Lengths at most 2^20.
-/
import Derived.Test.YtihegjjhcfoapaaHigh
namespace Go.Proofs.Ytihegjjhcfoapaa
open Go.RowKit

def dueV (l : List Tk) (j : Jb) : Int := if jobIn l j then match l[j.task.toNat]? with
  | some t => j.at_ + t.due
  | none => 0
  else 0

set_option maxRecDepth 100000 in
set_option maxHeartbeats 1600000 in
theorem DueAt_impl (ao : Option Addr) (c : Nat) (w : World) (l : List Tk) (x y z : Int) (hl : l.length ≤ 1048576) (hr : RT w ao l) :
    Calls Try.prog 29 #[.slice ao l.length c, .agg #[.int .i64 x, .int .i64 y, .int .i64 z]] w fun r w' => r = .returned (.tuple #[.int .i64 (dueV l ⟨x, y, z⟩), .bool (jobIn l ⟨x, y, z⟩)]) ∧ Bw w w' := by
  have HR := Lib.hid hr
  clear hr
  go_enter Try.func29, Try.ntmps29
  go_wp2_with fail
  refine (jobOf_any _ _ _ l _ _ _ hl (HR.out.bw (bw_alloc _ _))).mono ?_
  obtain ⟨q, HQ⟩ : ∃ q, Hid (jobIn l ⟨x, y, z⟩ = q) := ⟨_, rfl⟩
  rw [HQ.out]
  rintro e w1 ⟨rfl, hb1⟩
  have hw1 := bw_trans (bw_alloc _ _) hb1
  cases q with
  | false =>
    have hd : dueV l ⟨x, y, z⟩ = 0 := by rw [dueV, HQ.out]; rfl
    have HD := Lib.hid hd
    clear hd
    go_wp2
    go_ret2
    exact ⟨by rw [HD.out, HQ.out]; rfl, hw1⟩
  | true =>
    obtain ⟨hso, ht0, htl, ha0, ha1, hn1, t, htk, hnh⟩ := jobIn_spec HQ.out
    dsimp only at ht0 htl ha0 ha1 hn1 htk hnh
    obtain ⟨x, rfl⟩ : ∃ n : Nat, x = (n : Int) := ⟨x.toNat, by omega⟩
    have hx' : x < l.length := by omega
    have htk' : l[x]? = some t := by simpa using htk
    obtain ⟨t', b2, off2, htk2, hao2, hbs2, _, _, r2, _, _⟩ := HR.out.get hw1 hx'
    have htt : t' = t := by rw [htk'] at htk2; simpa using htk2.symm
    subst htt
    have hok := (Tk.ok_iff _).1 (setOk_at hso htk')
    have hdv : dueV l ⟨(x : Int), y, z⟩ = y + t'.due := by rw [dueV, HQ.out]; dsimp only; rw [htk]; rfl
    have hwr := IntWalk.i64_in (y + t'.due) (by omega)
    subst hao2
    have B := Lib.hid (box_last hb1)
    have c0 := blk_cell B.out 0 rfl
    have c1 := blk_cell B.out 1 rfl
    have HTK := Lib.hid htk
    have HTK' := Lib.hid htk'
    have HTK2 := Lib.hid htk2
    have HOK := Lib.hid hok
    have HDV := Lib.hid hdv
    have HSO := Lib.hid hso
    have HNH := Lib.hid hnh
    clear htk htk' htk2 hok hdv hso hnh
    go_wp2_with fail
    go_quiet (fail)
    go_wp2
    go_ret2
    exact ⟨by rw [HDV.out, HQ.out]; rfl, blw_drewN hw1 _⟩

def missP (l : List Tk) (js : List Jb) (es : List Int) (n : Nat) (i : Nat) : Bool := match js[i]? with
  | some j => match es[i]? with
    | some e => decide (dueV l j < e ∨ (e = -1 ∧ dueV l j ≤ n))
    | none => false
  | none => false
def misses (l : List Tk) (js : List Jb) (es : List Int) (n : Nat) : List Int := if jobsOk l js = true ∧ es.length = js.length then pickFrom (missP l js es n) js.length 0 else []
theorem misses_len (l : List Tk) (js : List Jb) (es : List Int) (n : Nat) : (misses l js es n).length ≤ js.length := by
  unfold misses
  split
  · exact pick_len _ _ _
  · simp

theorem due_val {l : List Tk} {x y z : Int} {t : Tk} (h : jobIn l ⟨x, y, z⟩ = true) (ht : l[x.toNat]? = some t) : dueV l ⟨x, y, z⟩ = y + t.due := by rw [dueV, h]; dsimp only; rw [ht]; rfl

end Go.Proofs.Ytihegjjhcfoapaa
