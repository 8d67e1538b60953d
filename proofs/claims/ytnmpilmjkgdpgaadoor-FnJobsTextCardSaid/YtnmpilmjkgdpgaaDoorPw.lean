/-
  The walks of the library's calls in ParseJobs, and of the program's ParseJobs.
-/
import Derived.Test.YtnmpilmjkgdpgaaDoorPjl
import Derived.Test.YtnmpilmjkgdpgaaDoorPrs
import Derived.Test.YtnmpilmjkgdpgaaDoorFj
import Derived.Test.YtnmpilmjkgdpgaaDoorGB
import Derived.Test.YtnmpilmjkgdpgaaDoorLeave
import Derived.Shelf.Strings.PiecesUse





namespace Go.Proofs.YtnmpilmjkgdpgaaDoor
open Go.RowKit

/-- What ParseJobs asks of the world: the laid table, and that three variables hold what their types say. -/
def Env (w : World) : Prop := Pow10 w ∧ (∃ m, w.cell? ⟨0, 0, none⟩ = some (.int .i64 m)) ∧ (∃ ev, w.cell? ⟨1, 0, none⟩ = some ev ∧ (ev = .nilIface ∨ ∃ te pe, ev = .iface te pe)) ∧ (∃ ev, w.cell? ⟨2, 0, none⟩ = some ev ∧ (ev = .nilIface ∨ ∃ te pe, ev = .iface te pe))
theorem env_bw {w w' : World} (h : Env w) (hb : Bw w w') : Env w' := by
  obtain ⟨h0, ⟨m, h1⟩, ⟨e2, h2, k2⟩, ⟨e3, h3, k3⟩⟩ := h
  exact ⟨pow_bw h0 hb, ⟨m, cell_bw hb h1⟩, ⟨e2, cell_bw hb h2, k2⟩, ⟨e3, cell_bw hb h3, k3⟩⟩
theorem sB_size (B : List UInt8) : (⟨B.toArray⟩ : ByteArray).size = B.length := by show B.toArray.size = _; simp
theorem sB_data (B : List UInt8) : (⟨B.toArray⟩ : ByteArray).data.toList = B := by simp
theorem atoi_any (B : List UInt8) (hB : B.length ≤ 1048576) (w : World) (hE : Env w) : Calls Tryd.prog 23 #[sB B] w fun e w' => ∃ er, e = .returned (.tuple #[.int .i64 (atv B), er]) ∧ Bw w w' := by
  obtain ⟨_, _, ⟨e2, h2, k2⟩, ⟨e3, h3, k3⟩⟩ := hE
  have hs := sB_size B
  have hd := sB_data B
  have hn : ∀ w', (w' = w ∨ ∃ t, w' = Lib.bytesWorld w 5 t) → Bw w w' := by
    rintro w' (rfl | ⟨t, rfl⟩)
    · exact Bw.refl _
    · exact Lib.bytesWorld_below _ _ _
  have hv : ∀ x, Lib.atoiAll B = x → atv B = match x with
    | .ok v => v
    | .range => Lib.atoiSat B
    | _ => 0 := fun x hx => by unfold atv; rw [hx]; cases x <;> rfl
  cases h : Lib.atoiAll B with
  | ok v =>
    have hx := hv _ h
    refine (Tryd.strconv_Atoi_ok ⟨B.toArray⟩ (by omega) v (by rw [hd]; exact h) w).mono ?_
    rintro e w' ⟨rfl, hw⟩
    rw [hx]
    exact ⟨_, rfl, hn _ hw⟩
  | range =>
    have hx := hv _ h
    refine (Any.strconv_Atoi_range Tryd.laysC172 ⟨B.toArray⟩ (by omega) (by rw [hd]; exact h) e3 w h3 k3).mono ?_
    rintro e w' ⟨N, rfl, _, _, hb⟩
    rw [hx, hd]
    exact ⟨_, rfl, hb⟩
  | _ =>
    have hx := hv _ h
    refine (Any.strconv_Atoi_syntax Tryd.laysC172 ⟨B.toArray⟩ (by omega) (by rw [hd]; exact h) e2 w h2 k2).mono ?_
    rintro e w' ⟨N, rfl, _, _, hb⟩
    rw [hx]
    exact ⟨_, rfl, hb⟩
theorem cut_any (B : List UInt8) (c : UInt8) (hB : B.length ≤ 1048576) (w : World) (hE : Env w) : Calls Tryd.prog 22 #[sB B, .string ⟨#[c]⟩] w fun e w' => e = .returned (.tuple #[sB (Lib.cut B [c]).1, sB (Lib.cut B [c]).2.1, .bool (Lib.cut B [c]).2.2]) ∧ Bw w w' := by
  obtain ⟨_, ⟨m, h1⟩, _⟩ := hE
  have hs := sB_size B
  refine (Tryd.strings_Cut ⟨B.toArray⟩ ⟨#[c]⟩ m w (by omega) h1).mono ?_
  rintro e w' ⟨rfl, n, rfl⟩
  exact ⟨rfl, bw_drewN _ _⟩
theorem cutC_count (c : UInt8) : ∀ s, (cutC c s).length ≤ s.length + 1
  | [] => by simp [cutC]
  | b :: r => by
    have ih := cutC_count c r
    by_cases h : b = c
    · subst h; rw [cutC_eq]; simp; omega
    · obtain ⟨x, t, h1, h2⟩ := cutC_hd c b r h
      rw [h1] at ih
      rw [h2]
      simp only [List.length_cons] at ih ⊢; omega
theorem cutC_len (c : UInt8) : ∀ s, ∀ x ∈ cutC c s, x.length ≤ s.length
  | [], x, hx => by simp [cutC] at hx; subst hx; simp
  | b :: r, x, hx => by
    have ih := cutC_len c r
    by_cases h : b = c
    · subst h; rw [cutC_eq] at hx
      rcases List.mem_cons.1 hx with rfl | hx
      · simp
      · have := ih x hx; simp; omega
    · obtain ⟨y, t, h1, h2⟩ := cutC_hd c b r h
      rw [h2] at hx
      rw [h1] at ih
      rcases List.mem_cons.1 hx with rfl | hx
      · have := ih y (List.mem_cons_self ..); simp only [List.length_cons]; omega
      · have := ih x (List.mem_cons_of_mem _ hx); simp only [List.length_cons]; omega
theorem cut_len (B sep : List UInt8) : (Lib.cut B sep).1.length ≤ B.length ∧ (Lib.cut B sep).2.1.length ≤ B.length := by
  unfold Lib.cut
  split
  · exact ⟨by simp; omega, by simp⟩
  · simp
/-- The block of a row of strings. -/
abbrev Str (w : World) (g : Nat) (P : List (List UInt8)) : Prop := w.heap[g]? = some (.cells (P.map sB).toArray 9 (0, 0))
theorem str_cell {w : World} {g : Nat} {P : List (List UInt8)} (h : Str w g P) {k : Nat} {x : List UInt8} (hk : P[k]? = some x) : w.cell? ⟨g, k, none⟩ = some (sB x) := blk_cell h k (by simp [hk])
theorem own_ne {w : World} {base E E' size n : Nat} {v : Value} {xs : List Value} (h : w.ownsRow base E size v n xs) {g : Nat} {c : Array Value} {fr : Nat × Nat} (hg : w.heap[g]? = some (.cells c E' fr)) (hne : E ≠ E') : some g ≠ v.ownBlock := by
  intro he
  replace he := he.symm
  rcases h.2 with ⟨rfl, _⟩ | ⟨g', cap, cur, rfl, _, hh, _⟩
  · cases he
  · have e : g' = g := Option.some.inj he
    subst e
    rw [hh] at hg
    have := Option.some.inj hg
    injection this with h1 h2
    exact hne h2
theorem splits_any (B : List UInt8) (c : UInt8) (hB : B.length ≤ 1048576) (w : World) (hE : Env w) : Calls Tryd.prog 21 #[sB B, .string ⟨#[c]⟩] w fun e w' => ∃ g, e = .returned (.slice (some ⟨g, 0, none⟩) (cutC c B).length (cutC c B).length) ∧ Str w' g (cutC c B) ∧ Bw w w' := by
  obtain ⟨_, ⟨m, h1⟩, _⟩ := hE
  have hs := sB_size B
  have hd := Lib.splitB_data ⟨#[c]⟩ 0 (Lib.countB ⟨B.toArray⟩ ⟨#[c]⟩) ⟨B.toArray⟩
  have hx : (Lib.splitB ⟨#[c]⟩ 0 (Lib.countB ⟨B.toArray⟩ ⟨#[c]⟩) ⟨B.toArray⟩).map (·.data.toList) = cutC c B := by
    rw [hd, ← split_cut]
    rfl
  have hl := Lib.splitB_all ⟨#[c]⟩ (Nat.le_refl _) 0 _ ⟨B.toArray⟩ rfl
  obtain ⟨L, hL⟩ : ∃ L, Lib.splitB ⟨#[c]⟩ 0 (Lib.countB ⟨B.toArray⟩ ⟨#[c]⟩) ⟨B.toArray⟩ = L := ⟨_, rfl⟩
  have hcl : Lib.countB ⟨B.toArray⟩ ⟨#[c]⟩ + 1 = (cutC c B).length := by rw [← hl, ← hx]; simp
  refine (Tryd.strings_Split ⟨B.toArray⟩ ⟨#[c]⟩ m w (by omega) h1 (Nat.le_refl _)).mono ?_
  rintro e w' ⟨rfl, rfl⟩
  rw [hcl]
  refine ⟨_, rfl, ?_, bw_alloc _ _⟩
  rw [hL] at hx ⊢
  have hm : (cutC c B).map sB = L.map Value.string := by rw [← hx, List.map_map]; rfl
  rw [Str, hm]
  exact heap_alloc_new w _
theorem ip_len {B : List UInt8} : (optJ (ipB B)).1.length ≤ 60 := by
  cases h : ipB B with
  | none => simp [optJ]
  | some js =>
    by_cases hB : B = []
    · rw [ipB, if_pos hB] at h
      injection h with h
      subst h; simp [optJ]
    · exact told_len (fj_parts (ip_some h) hB).1
end Go.Proofs.YtnmpilmjkgdpgaaDoor
