/-
  What the laws hand on: slices and runs that were made for the call, what a mark may turn, and the walks in these words.
-/
import Derived.Test.YtihegjjhcfoapaaDrop
import Derived.Test.YtihegjjhcfoapaaMarkJ
import Derived.Test.YtihegjjhcfoapaaMarkT
import Derived.Test.YtihegjjhcfoapaaJobs
namespace Go.Proofs.Ytihegjjhcfoapaa
open Go.RowKit

/-- Of the blocks that were there only those from lo on and below hi may have turned. -/
structure HitR (lo hi : Nat) (w w' : World) : Prop where
  os : w'.os = w.os
  tape : w'.tape = w.tape
  output : w'.output = w.output
  size : w.heap.size ≤ w'.heap.size
  block : ∀ k, k < w.heap.size → (k < lo ∨ hi ≤ k) → w'.heap[k]? = w.heap[k]?

theorem bw_hit {w0 w w' : World} {lo hi : Nat} (hb : Bw w0 w) (h : HitR lo hi w w') (hl : w0.heap.size ≤ lo) : Bw w0 w' :=
  ⟨h.os.trans hb.os, h.tape.trans hb.tape, h.output.trans hb.output, Nat.le_trans hb.size h.size, fun k hk => (h.block k (Nat.lt_of_lt_of_le hk hb.size) (.inl (by omega))).trans (hb.block k hk)⟩
theorem blk_hit {w w' : World} {lo hi g : Nat} {x : Obj} (h : HitR lo hi w w') (hb : w.heap[g]? = some x) (hg : g < lo ∨ hi ≤ g) : w'.heap[g]? = some x := by rw [h.block g (blk_lt hb) hg]; exact hb
theorem Own.hit {w w' : World} {lo hi b E : Nat} {ao : Option Addr} {xs : List Value} (h : Own w b E ao xs) (hh : HitR lo hi w w') (hb : hi ≤ b) : Own w' b E ao xs := by
  rcases h with h | ⟨g, cur, e, hg, hk, ht⟩
  · exact .inl h
  · exact .inr ⟨g, cur, e, hg, blk_hit hh hk (.inr (by omega)), ht⟩
theorem hit_hitR {w w' : World} {lo hi : Nat} {ao : Option Addr} (h : Hit w w' ao) (hl : ∀ a, ao = some a → lo ≤ a.block ∧ a.block < hi) : HitR lo hi w w' :=
  ⟨h.os, h.tape, h.output, h.size, fun k hk hne => h.block k hk (fun e => by
    cases ao with
    | none => simp at e
    | some a => have := hl a rfl; simp at e; omega)⟩

/-- nil, or an address. -/
def Fit (ao : Option Addr) (c : Nat) : Prop := (ao = none ∧ c = 0) ∨ ∃ b off, ao = some ⟨b, off, none⟩

structure ST (w : World) (v : Value) (l : List Tk) : Prop where
  form : ∃ ao c, v = .slice ao l.length c ∧ RT w ao l ∧ l.length ≤ c ∧ Fit ao c
  n : l.length ≤ 1048576
theorem ST.bw {w w' : World} {v : Value} {l : List Tk} (h : ST w v l) (hb : Bw w w') : ST w' v l := by
  obtain ⟨⟨ao, c, e, r, q⟩, n⟩ := h
  exact ⟨⟨ao, c, e, r.bw hb, q⟩, n⟩
/-- Made for the call: block g whole. -/
structure NT (w : World) (g : Nat) (v : Value) (l : List Tk) : Prop where
  form : v = .slice (some ⟨g, 0, none⟩) l.length l.length
  blk : ∃ cur, w.heap[g]? = some (.cells cur 45 (0, 0)) ∧ cur.toList = tks l
  n : l.length ≤ 1048576
theorem NT.bw {w w' : World} {g : Nat} {v : Value} {l : List Tk} (h : NT w g v l) (hb : Bw w w') : NT w' g v l := by
  obtain ⟨e, ⟨cur, hk, hc⟩, n⟩ := h
  exact ⟨e, ⟨cur, blk_bw hb hk, hc⟩, n⟩
theorem NT.hit {w w' : World} {g lo hi : Nat} {v : Value} {l : List Tk} (h : NT w g v l) (hh : HitR lo hi w w') (hg : g < lo ∨ hi ≤ g) : NT w' g v l := by
  obtain ⟨e, ⟨cur, hk, hc⟩, n⟩ := h
  exact ⟨e, ⟨cur, blk_hit hh hk hg, hc⟩, n⟩
theorem NT.lt {w : World} {g : Nat} {v : Value} {l : List Tk} (h : NT w g v l) : g < w.heap.size := by
  obtain ⟨e, ⟨cur, hk, hc⟩, n⟩ := h
  exact blk_lt hk
structure SJ (w : World) (v : Value) (l : List Jb) : Prop where
  form : ∃ ao c, v = .slice ao l.length c ∧ RJ w ao l ∧ l.length ≤ c ∧ Fit ao c
  n : l.length ≤ 1048576
theorem SJ.bw {w w' : World} {v : Value} {l : List Jb} (h : SJ w v l) (hb : Bw w w') : SJ w' v l := by
  obtain ⟨⟨ao, c, e, r, q⟩, n⟩ := h
  exact ⟨⟨ao, c, e, r.bw hb, q⟩, n⟩
/-- Made for the call: block g whole. -/
structure NJ (w : World) (g : Nat) (v : Value) (l : List Jb) : Prop where
  form : v = .slice (some ⟨g, 0, none⟩) l.length l.length
  blk : ∃ cur, w.heap[g]? = some (.cells cur 38 (0, 0)) ∧ cur.toList = jbs l
  n : l.length ≤ 1048576
theorem NJ.bw {w w' : World} {g : Nat} {v : Value} {l : List Jb} (h : NJ w g v l) (hb : Bw w w') : NJ w' g v l := by
  obtain ⟨e, ⟨cur, hk, hc⟩, n⟩ := h
  exact ⟨e, ⟨cur, blk_bw hb hk, hc⟩, n⟩
theorem NJ.hit {w w' : World} {g lo hi : Nat} {v : Value} {l : List Jb} (h : NJ w g v l) (hh : HitR lo hi w w') (hg : g < lo ∨ hi ≤ g) : NJ w' g v l := by
  obtain ⟨e, ⟨cur, hk, hc⟩, n⟩ := h
  exact ⟨e, ⟨cur, blk_hit hh hk hg, hc⟩, n⟩
theorem NJ.lt {w : World} {g : Nat} {v : Value} {l : List Jb} (h : NJ w g v l) : g < w.heap.size := by
  obtain ⟨e, ⟨cur, hk, hc⟩, n⟩ := h
  exact blk_lt hk
theorem NT.st {w : World} {g : Nat} {v : Value} {l : List Tk} (h : NT w g v l) : ST w v l := by
  obtain ⟨e, ⟨cur, hk, hc⟩, n⟩ := h
  exact ⟨⟨_, _, e, (own_blk (Nat.zero_le _) hk hc).rt, Nat.le_refl _, .inr ⟨_, _, rfl⟩⟩, n⟩
theorem NJ.st {w : World} {g : Nat} {v : Value} {l : List Jb} (h : NJ w g v l) : SJ w v l := by
  obtain ⟨e, ⟨cur, hk, hc⟩, n⟩ := h
  exact ⟨⟨_, _, e, (own_blk (Nat.zero_le _) hk hc).rj, Nat.le_refl _, .inr ⟨_, _, rfl⟩⟩, n⟩
theorem NR.st {w : World} {g : Nat} {v : Value} {l : Rn} (h : NR w g v l) : RR w v l := h.rr

/-- A result slice of the call's own (or empty). -/
def RS (w : World) (E : Nat) (xs : List Value) (n : Nat) (e : Ending) (w' : World) : Prop := ∃ ao c, e = .returned (.slice ao n c) ∧ Own w' w.heap.size E ao xs ∧ Bw w w'
/-- Such a slice and whether there is one. -/
def RP (w : World) (E : Nat) (xs : List Value) (n : Nat) (ok : Bool) (e : Ending) (w' : World) : Prop := ∃ ao c, e = .returned (.tuple #[.slice ao n c, .bool ok]) ∧ Own w' w.heap.size E ao xs ∧ Bw w w'
theorem Ret.rs {w : World} {E size : Nat} {xs : List Value} {n : Nat} {e : Ending} {w' : World} (h : Ret w E size xs n e w') : RS w E xs n e w' := by
  obtain ⟨ao, c, he, ho, hb⟩ := h
  exact ⟨ao, c, he, Own.ofRow ho, hb⟩

/-- The end of a mark on a result. -/
def MkEnd (w : World) (ao : Option Addr) (b E : Nat) (q : Int) (xs : List Value) (e : Ending) (w' : World) : Prop := e = .returned (.int .i64 q) ∧ HitR b w.heap.size w w' ∧ Own w' b E ao xs

theorem mk_end {w w' : World} {ao : Option Addr} {b E : Nat} {q : Int} {xs ys : List Value} {e : Ending} (ho : Own w b E ao ys) (hl : xs.length = ys.length) (h : MarkEnd w ao E q xs e w') : MkEnd w ao b E q xs e w' := by
  obtain ⟨he, hh, hx, hnil⟩ := h
  rcases ho with h0 | ⟨g, cur, rfl, hg, hk, ht⟩
  · subst h0
    have : xs = [] := List.eq_nil_of_length_eq_zero (by simpa using hl)
    rw [hnil this]
    exact ⟨he, ⟨rfl, rfl, rfl, Nat.le_refl _, fun _ _ _ => rfl⟩, .inl this⟩
  · refine ⟨he, hit_hitR hh (fun a ha => by simp at ha; subst ha; exact ⟨hg, blk_lt hk⟩), ?_⟩
    rcases hx with hx | ⟨g', cur', e', _, hk', ht'⟩
    · exact .inl hx
    · simp at e'; subst e'; exact .inr ⟨g, cur', rfl, hg, hk', ht'⟩

theorem own_room {w : World} {b E : Nat} {ao : Option Addr} {xs : List Value} (h : Own w b E ao xs) : xs.length = 0 ∨ ∃ g cur, ao = some ⟨g, 0, none⟩ ∧ w.heap[g]? = some (.cells cur E (0, 0)) ∧ xs.length ≤ cur.size := by
  rcases h with h | ⟨g, cur, e, _, hh, ht⟩
  · exact .inl (by rw [h]; rfl)
  · refine .inr ⟨g, cur, e, hh, ?_⟩
    rw [← ht]; simp only [List.length_take, Array.length_toList]; omega

end Go.Proofs.Ytihegjjhcfoapaa
