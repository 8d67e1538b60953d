/-
  What the laws hand on: slices and runs that were made for the call, what a mark may turn, and the walks in these words.
-/
import Derived.Test.YtbgfclcnddgboaaDrop
import Derived.Test.YtbgfclcnddgboaaMarkJ
import Derived.Test.YtbgfclcnddgboaaMarkT
import Derived.Test.YtbgfclcnddgboaaJobs
namespace Go.Proofs.Ytbgfclcnddgboaa
open Go.RowKit

/-- Of the blocks that were there only those from lo on and below hi may have turned. -/
structure HitR (lo hi : Nat) (w w' : World) : Prop where
  os : w'.os = w.os
  tape : w'.tape = w.tape
  output : w'.output = w.output
  size : w.heap.size ≤ w'.heap.size
  block : ∀ k, k < w.heap.size → (k < lo ∨ hi ≤ k) → w'.heap[k]? = w.heap[k]?

theorem bw_hit {w0 w w' : World} {lo hi : Nat} (hb : Bw w0 w) (h : HitR lo hi w w') (hl : w0.heap.size ≤ lo) : Bw w0 w' :=
  ⟨h.os.trans hb.os, h.tape.trans hb.tape, h.output.trans hb.output, Nat.le_trans hb.size h.size, fun k hk => (h.block k (Nat.lt_of_lt_of_le hk hb.size) (.inl (by omega))).trans (hb.block k hk)⟩
theorem blk_hit {w w' : World} {lo hi g : Nat} {x : Obj} (h : HitR lo hi w w') (hb : w.heap[g]? = some x) (hg : g < lo ∨ hi ≤ g) : w'.heap[g]? = some x := by rw [h.block g (blk_lt hb) hg]; exact hb
theorem Own.hit {w w' : World} {lo hi b E : Nat} {ao : Option Addr} {xs : List Value} (h : Own w b E ao xs) (hh : HitR lo hi w w') (hb : hi ≤ b) : Own w' b E ao xs := by
  rcases h with h | ⟨g, cur, e, hg, hk, ht⟩
  · exact .inl h
  · exact .inr ⟨g, cur, e, hg, blk_hit hh hk (.inr (by omega)), ht⟩
theorem hit_hitR {w w' : World} {lo hi : Nat} {ao : Option Addr} (h : Hit w w' ao) (hl : ∀ a, ao = some a → lo ≤ a.block ∧ a.block < hi) : HitR lo hi w w' :=
  ⟨h.os, h.tape, h.output, h.size, fun k hk hne => h.block k hk (fun e => by
    cases ao with
    | none => simp at e
    | some a => have := hl a rfl; simp at e; omega)⟩

/-- nil, or an address. -/
def Fit (ao : Option Addr) (c : Nat) : Prop := (ao = none ∧ c = 0) ∨ ∃ b off, ao = some ⟨b, off, none⟩

structure ST (w : World) (v : Value) (l : List Tk) : Prop where
  form : ∃ ao c, v = .slice ao l.length c ∧ RT w ao l ∧ l.length ≤ c ∧ Fit ao c
  n : l.length ≤ 1048576
theorem ST.bw {w w' : World} {v : Value} {l : List Tk} (h : ST w v l) (hb : Bw w w') : ST w' v l := by
  obtain ⟨⟨ao, c, e, r, q⟩, n⟩ := h
  exact ⟨⟨ao, c, e, r.bw hb, q⟩, n⟩
/-- Made for the call: block g whole. -/
structure NT (w : World) (g : Nat) (v : Value) (l : List Tk) : Prop where
  form : v = .slice (some ⟨g, 0, none⟩) l.length l.length
  blk : ∃ cur, w.heap[g]? = some (.cells cur 64 (0, 0)) ∧ cur.toList = tks l
  n : l.length ≤ 1048576
theorem NT.bw {w w' : World} {g : Nat} {v : Value} {l : List Tk} (h : NT w g v l) (hb : Bw w w') : NT w' g v l := by
  obtain ⟨e, ⟨cur, hk, hc⟩, n⟩ := h
  exact ⟨e, ⟨cur, blk_bw hb hk, hc⟩, n⟩
theorem NT.hit {w w' : World} {g lo hi : Nat} {v : Value} {l : List Tk} (h : NT w g v l) (hh : HitR lo hi w w') (hg : g < lo ∨ hi ≤ g) : NT w' g v l := by
  obtain ⟨e, ⟨cur, hk, hc⟩, n⟩ := h
  exact ⟨e, ⟨cur, blk_hit hh hk hg, hc⟩, n⟩
theorem NT.lt {w : World} {g : Nat} {v : Value} {l : List Tk} (h : NT w g v l) : g < w.heap.size := by
  obtain ⟨e, ⟨cur, hk, hc⟩, n⟩ := h
  exact blk_lt hk
structure SJ (w : World) (v : Value) (l : List Jb) : Prop where
  form : ∃ ao c, v = .slice ao l.length c ∧ RJ w ao l ∧ l.length ≤ c ∧ Fit ao c
  n : l.length ≤ 1048576
theorem SJ.bw {w w' : World} {v : Value} {l : List Jb} (h : SJ w v l) (hb : Bw w w') : SJ w' v l := by
  obtain ⟨⟨ao, c, e, r, q⟩, n⟩ := h
  exact ⟨⟨ao, c, e, r.bw hb, q⟩, n⟩
/-- Made for the call: block g whole. -/
structure NJ (w : World) (g : Nat) (v : Value) (l : List Jb) : Prop where
  form : v = .slice (some ⟨g, 0, none⟩) l.length l.length
  blk : ∃ cur, w.heap[g]? = some (.cells cur 26 (0, 0)) ∧ cur.toList = jbs l
  n : l.length ≤ 1048576
theorem NJ.bw {w w' : World} {g : Nat} {v : Value} {l : List Jb} (h : NJ w g v l) (hb : Bw w w') : NJ w' g v l := by
  obtain ⟨e, ⟨cur, hk, hc⟩, n⟩ := h
  exact ⟨e, ⟨cur, blk_bw hb hk, hc⟩, n⟩
theorem NJ.hit {w w' : World} {g lo hi : Nat} {v : Value} {l : List Jb} (h : NJ w g v l) (hh : HitR lo hi w w') (hg : g < lo ∨ hi ≤ g) : NJ w' g v l := by
  obtain ⟨e, ⟨cur, hk, hc⟩, n⟩ := h
  exact ⟨e, ⟨cur, blk_hit hh hk hg, hc⟩, n⟩
theorem NJ.lt {w : World} {g : Nat} {v : Value} {l : List Jb} (h : NJ w g v l) : g < w.heap.size := by
  obtain ⟨e, ⟨cur, hk, hc⟩, n⟩ := h
  exact blk_lt hk
theorem NT.st {w : World} {g : Nat} {v : Value} {l : List Tk} (h : NT w g v l) : ST w v l := by
  obtain ⟨e, ⟨cur, hk, hc⟩, n⟩ := h
  exact ⟨⟨_, _, e, (own_blk (Nat.zero_le _) hk hc).rt, Nat.le_refl _, .inr ⟨_, _, rfl⟩⟩, n⟩
theorem NJ.st {w : World} {g : Nat} {v : Value} {l : List Jb} (h : NJ w g v l) : SJ w v l := by
  obtain ⟨e, ⟨cur, hk, hc⟩, n⟩ := h
  exact ⟨⟨_, _, e, (own_blk (Nat.zero_le _) hk hc).rj, Nat.le_refl _, .inr ⟨_, _, rfl⟩⟩, n⟩
theorem NR.st {w : World} {g : Nat} {v : Value} {l : Rn} (h : NR w g v l) : RR w v l := h.rr

theorem toTasks {w0 w : World} {v : Value} {l : List Tk} (h : RawT w0 v l) (hn : l.length ≤ 1048576) (hb : Bw w0 w) : Calls Try.prog 33 #[v] w fun e w' => ∃ u, e = .returned u ∧ NT w' w.heap.size u l ∧ Bw w w' := by
  obtain ⟨⟨ao, c, rfl, r⟩, _, _⟩ := h
  exact (toTaskS_any ao c w l hn (r.bw hb)).mono fun e w' ⟨he, hb', cur, hk, hc⟩ => ⟨_, he, ⟨rfl, ⟨cur, hk, hc⟩, hn⟩, hb'⟩
theorem toJobs {w0 w : World} {v : Value} {l : List Jb} (h : RawJ w0 v l) (hn : l.length ≤ 1048576) (hb : Bw w0 w) : Calls Try.prog 34 #[v] w fun e w' => ∃ u, e = .returned u ∧ NJ w' w.heap.size u l ∧ Bw w w' := by
  obtain ⟨⟨ao, c, rfl, r⟩, _, _⟩ := h
  exact (toJobS_any ao c w l hn (r.bw hb)).mono fun e w' ⟨he, hb', cur, hk, hc⟩ => ⟨_, he, ⟨rfl, ⟨cur, hk, hc⟩, hn⟩, hb'⟩

theorem markTasks {w : World} {g : Nat} {v : Value} {l : List Tk} (h : NT w g v l) (k : Int) (hk0 : 0 ≤ k) (hk1 : k ≤ 100000000) : Calls Try.prog 39 #[v, .int .i64 k] w fun e w' => e = .returned (.int .i64 (k + 5 * l.length)) ∧ HitR g (g + 1) w w' := by
  obtain ⟨e, ⟨cur, hk, hc⟩, n⟩ := h
  subst e
  exact (markTaskS_any (some ⟨g, 0, none⟩) 64 l.length _ k w n hk0 hk1 (.inr ⟨g, cur, rfl, hk, by rw [← Array.length_toList, hc, tks_length]; exact Nat.le_refl _⟩)).mono fun e w' ⟨he, hh, _⟩ => ⟨he, hit_hitR hh (fun a ha => by simp at ha; subst ha; simp)⟩
theorem markJobs {w : World} {g : Nat} {v : Value} {l : List Jb} (h : NJ w g v l) (k : Int) (hk0 : 0 ≤ k) (hk1 : k ≤ 100000000) : Calls Try.prog 40 #[v, .int .i64 k] w fun e w' => e = .returned (.int .i64 (k + 3 * l.length)) ∧ HitR g (g + 1) w w' := by
  obtain ⟨e, ⟨cur, hk, hc⟩, n⟩ := h
  subst e
  exact (markJobS_any (some ⟨g, 0, none⟩) 26 l.length _ k w n hk0 hk1 (.inr ⟨g, cur, rfl, hk, by rw [← Array.length_toList, hc, jbs_length]; exact Nat.le_refl _⟩)).mono fun e w' ⟨he, hh, _⟩ => ⟨he, hit_hitR hh (fun a ha => by simp at ha; subst ha; simp)⟩

/-- A result slice of the call's own (or empty). -/
def RS (w : World) (E : Nat) (xs : List Value) (n : Nat) (e : Ending) (w' : World) : Prop := ∃ ao c, e = .returned (.slice ao n c) ∧ Own w' w.heap.size E ao xs ∧ Bw w w'
/-- Such a slice and whether there is one. -/
def RP (w : World) (E : Nat) (xs : List Value) (n : Nat) (ok : Bool) (e : Ending) (w' : World) : Prop := ∃ ao c, e = .returned (.tuple #[.slice ao n c, .bool ok]) ∧ Own w' w.heap.size E ao xs ∧ Bw w w'
theorem Ret.rs {w : World} {E size : Nat} {xs : List Value} {n : Nat} {e : Ending} {w' : World} (h : Ret w E size xs n e w') : RS w E xs n e w' := by
  obtain ⟨ao, c, he, ho, hb⟩ := h
  exact ⟨ao, c, he, Own.ofRow ho, hb⟩

/-- The end of a mark on a result. -/
def MkEnd (w : World) (ao : Option Addr) (b E : Nat) (q : Int) (xs : List Value) (e : Ending) (w' : World) : Prop := e = .returned (.int .i64 q) ∧ HitR b w.heap.size w w' ∧ Own w' b E ao xs

theorem mk_end {w w' : World} {ao : Option Addr} {b E : Nat} {q : Int} {xs ys : List Value} {e : Ending} (ho : Own w b E ao ys) (hl : xs.length = ys.length) (h : MarkEnd w ao E q xs e w') : MkEnd w ao b E q xs e w' := by
  obtain ⟨he, hh, hx, hnil⟩ := h
  rcases ho with h0 | ⟨g, cur, rfl, hg, hk, ht⟩
  · subst h0
    have : xs = [] := List.eq_nil_of_length_eq_zero (by simpa using hl)
    rw [hnil this]
    exact ⟨he, ⟨rfl, rfl, rfl, Nat.le_refl _, fun _ _ _ => rfl⟩, .inl this⟩
  · refine ⟨he, hit_hitR hh (fun a ha => by simp at ha; subst ha; exact ⟨hg, blk_lt hk⟩), ?_⟩
    rcases hx with hx | ⟨g', cur', e', _, hk', ht'⟩
    · exact .inl hx
    · simp at e'; subst e'; exact .inr ⟨g, cur', rfl, hg, hk', ht'⟩

theorem own_room {w : World} {b E : Nat} {ao : Option Addr} {xs : List Value} (h : Own w b E ao xs) : xs.length = 0 ∨ ∃ g cur, ao = some ⟨g, 0, none⟩ ∧ w.heap[g]? = some (.cells cur E (0, 0)) ∧ xs.length ≤ cur.size := by
  rcases h with h | ⟨g, cur, e, _, hh, ht⟩
  · exact .inl (by rw [h]; rfl)
  · refine .inr ⟨g, cur, e, hh, ?_⟩
    rw [← ht]; simp only [List.length_take, Array.length_toList]; omega

theorem markInts {w : World} {b c : Nat} {ao : Option Addr} {l : List Int} (h : Own w b 3 ao (ints l)) (hn : l.length ≤ 1048576) (k : Int) (hk0 : 0 ≤ k) (hk1 : k ≤ 100000000) :
    Calls Try.prog 72 #[.slice ao l.length c, .int .i64 k] w (MkEnd w ao b 3 (k + l.length) (ints (marksI k l.length))) := by
  have hr := own_room h
  rw [ints_length] at hr
  exact (markIntS_any ao _ l.length c k w hn hk0 hk1 hr).mono fun e w' => mk_end h (by rw [ints_length, ints_length, marksI_len])
theorem markJbs {w : World} {b c : Nat} {ao : Option Addr} {l : List Jb} (h : Own w b 26 ao (jbs l)) (hn : l.length ≤ 1048576) (k : Int) (hk0 : 0 ≤ k) (hk1 : k ≤ 100000000) :
    Calls Try.prog 40 #[.slice ao l.length c, .int .i64 k] w (MkEnd w ao b 26 (k + 3 * l.length) (jbs (marksJ k l.length))) := by
  have hr := own_room h
  rw [jbs_length] at hr
  exact (markJobS_any ao _ l.length c k w hn hk0 hk1 (hr.imp (fun e => by omega) id)).mono fun e w' => mk_end h (by rw [jbs_length, jbs_length, marksJ_len])
theorem markTks {w : World} {b c : Nat} {ao : Option Addr} {l : List Tk} (h : Own w b 64 ao (tks l)) (hn : l.length ≤ 1048576) (k : Int) (hk0 : 0 ≤ k) (hk1 : k ≤ 100000000) :
    Calls Try.prog 39 #[.slice ao l.length c, .int .i64 k] w (MkEnd w ao b 64 (k + 5 * l.length) (tks (marksT k l.length))) := by
  have hr := own_room h
  rw [tks_length] at hr
  exact (markTaskS_any ao _ l.length c k w hn hk0 hk1 (hr.imp (fun e => by omega) id)).mono fun e w' => mk_end h (by rw [tks_length, tks_length, marksT_len])

/-- A run that was made in w0: its blocks lie from B on and below w0's end; nothing else turns when it is marked. -/
theorem markRun_any {w0 w : World} {B : Nat} {v : Value} {r : Rn} (h : NR w0 B v r) (keep : ∀ g x, w0.heap[g]? = some x → B ≤ g → w.heap[g]? = some x) (k : Int) (hk0 : 0 ≤ k) (hk1 : k ≤ 10000000) :
    Calls Try.prog 41 #[v, .int .i64 k] w fun e w' => ∃ q, e = .returned (.int .i64 q) ∧ k ≤ q ∧ q ≤ k + 3145728 ∧ HitR B w0.heap.size w w' := by
  obtain ⟨⟨g1, g2, g3, c1, c2, c3, a1, a2, a3, rfl, h1', k1, h2', k2, h3', k3⟩, n1, n2, n3, _⟩ := h
  have m1 := blk_lt h1'
  have m2 := blk_lt h2'
  have m3 := blk_lt h3'
  have h1 := keep _ _ h1' a1
  have h2 := keep _ _ h2' (by omega)
  have h3 := keep _ _ h3' (by omega)
  clear h1' h2' h3' keep
  have l1 := blk_lt h1
  have l2 := blk_lt h2
  have l3 := blk_lt h3
  have s1 : r.ended.length ≤ c1.size := by rw [← Array.length_toList, k1, ints_length]; exact Nat.le_refl _
  have s2 : r.trace.length ≤ c2.size := by rw [← Array.length_toList, k2, ints_length]; exact Nat.le_refl _
  have s3 : r.switches.length ≤ c3.size := by rw [← Array.length_toList, k3, ints_length]; exact Nat.le_refl _
  have H1 := Lib.hid h1
  have H2 := Lib.hid h2
  have H3 := Lib.hid h3
  have K1 := Lib.hid k1
  have K2 := Lib.hid k2
  have K3 := Lib.hid k3
  clear h1 h2 h3 k1 k2 k3
  go_enter Try.func41, Try.ntmps41
  go_wp2_with fail
  refine (markIntS_any (some ⟨g1, 0, none⟩) 3 r.ended.length _ k _ n1 hk0 (by omega) (.inr ⟨g1, c1, rfl, blk_bw (bw_alloc _ _) H1.out, s1⟩)).mono ?_
  rintro e w1 ⟨rfl, t1, _⟩
  have B1 := Lib.hid ((t1.block w.heap.size (by simp) (by simp; omega)).trans (heap_alloc_new w _))
  have b1 := blk_cell B1.out 1 rfl
  have z1 := t1.size
  simp only [World.size_alloc] at z1
  go_wp2_with fail
  refine (markIntS_any (some ⟨g2, 0, none⟩) 3 r.trace.length _ _ _ n2 (by omega) (by omega) (.inr ⟨g2, c2, rfl, (t1.block g2 (by simp; omega) (by simp; omega)).trans (blk_bw (bw_alloc _ _) H2.out), s2⟩)).mono ?_
  rintro e w2 ⟨rfl, t2, _⟩
  have B2 := Lib.hid ((t2.block w.heap.size (by omega) (by simp; omega)).trans B1.out)
  clear b1
  have b2 := blk_cell B2.out 2 rfl
  have z2 := t2.size
  go_wp2_with fail
  refine (markIntS_any (some ⟨g3, 0, none⟩) 3 r.switches.length _ _ _ n3 (by omega) (by omega) (.inr ⟨g3, c3, rfl, (t2.block g3 (by omega) (by simp; omega)).trans ((t1.block g3 (by simp; omega) (by simp; omega)).trans (blk_bw (bw_alloc _ _) H3.out)), s3⟩)).mono ?_
  rintro e w3 ⟨rfl, t3, _⟩
  have z3 := t3.size
  go_wp2
  go_ret
  refine ⟨_, rfl, by omega, by omega, ⟨t3.os.trans (t2.os.trans t1.os), t3.tape.trans (t2.tape.trans t1.tape), t3.output.trans (t2.output.trans t1.output), by omega, fun j hj hne => ?_⟩⟩
  rw [t3.block j (by omega) (by simp; omega), t2.block j (by omega) (by simp; omega), t1.block j (by simp; omega) (by simp; omega)]
  exact Below.heap_alloc _ _ _ hj
end Go.Proofs.Ytbgfclcnddgboaa
