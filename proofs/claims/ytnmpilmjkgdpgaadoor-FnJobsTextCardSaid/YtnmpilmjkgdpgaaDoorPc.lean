/-
  The walks of the specification's l11Cut and l11Num.
-/
import Derived.Test.YtnmpilmjkgdpgaaDoorPw
import Derived.Test.YtnmpilmjkgdpgaaDoorFs

namespace Go.Proofs.YtnmpilmjkgdpgaaDoor
open Go.RowKit

def cutG (c : UInt8) (p s : List UInt8) : List (List UInt8) := match cutC c s with
  | x :: t => (p ++ x) :: t
  | [] => [p]
theorem cutG_nil (c : UInt8) (p : List UInt8) : cutG c p [] = [p] := by simp [cutG, cutC]
theorem cutG_eq (c : UInt8) (p r : List UInt8) : cutG c p (c :: r) = p :: cutG c [] r := by
  have h1 : cutG c [] r = cutC c r := by
    unfold cutG
    cases h : cutC c r with
    | nil => exact absurd h (cutC_ne c r)
    | cons x t => rfl
  rw [h1]
  simp [cutG, cutC_eq]
theorem cutG_ne {c b : UInt8} (p r : List UInt8) (h : b ≠ c) : cutG c p (b :: r) = cutG c (p ++ [b]) r := by
  obtain ⟨x, t, h1, h2⟩ := cutC_hd c b r h
  simp [cutG, h1, h2]
theorem cutG_start (c : UInt8) (s : List UInt8) : cutG c [] s = cutC c s := by
  unfold cutG
  cases h : cutC c s with
  | nil => exact absurd h (cutC_ne c s)
  | cons x t => rfl
theorem str_idxP {B : List UInt8} {i : Nat} {b : UInt8} (h : B[i]? = some b) (W : World) : (Instr.index 9 (.string ⟨B.toArray⟩) (.int .i64 (i : Int))).run Tryd.prog W = .ok (.int .u8 (b.toNat : Int)) W := by
  obtain ⟨hi, hb⟩ := List.getElem?_eq_some_iff.1 h
  have hs : (⟨B.toArray⟩ : ByteArray).size = B.length := by show B.toArray.size = _; simp
  rw [run_index_string _ _ _ _ _ Tryd.underlying9, dif_pos ⟨by omega, by omega⟩]
  have : ((⟨B.toArray⟩ : ByteArray)[((i : Int)).toNat]'(by omega)) = b := by
    show B.toArray[((i : Int)).toNat]'(by simp; omega) = b
    simpa using hb
  rw [this]
theorem str_sub {B : List UInt8} {i j : Nat} (h1 : i ≤ j) (h2 : j ≤ B.length) (W : World) : (Instr.slice 9 (.string ⟨B.toArray⟩) (some (.int .i64 (i : Int))) (some (.int .i64 (j : Int))) none).run Tryd.prog W = .ok (sB ((B.drop i).take (j - i))) W := by
  have hs : (⟨B.toArray⟩ : ByteArray).size = B.length := by show B.toArray.size = _; simp
  rw [run_slice_string _ _ _ _ _ _ _ Tryd.underlying9 (by omega) (by omega) (by omega), Lib.extract_eq]
  simp
theorem sub_snoc {B : List UInt8} {m k : Nat} {b : UInt8} (hm : m ≤ k) (h : B[k]? = some b) : (B.drop m).take (k + 1 - m) = (B.drop m).take (k - m) ++ [b] := by
  have h1 : k + 1 - m = (k - m) + 1 := by omega
  rw [h1, List.take_add_one, List.getElem?_drop, show m + (k - m) = k by omega, h]; rfl

set_option maxRecDepth 100000 in
set_option maxHeartbeats 3200000 in
theorem l11Cut_any (B : List UInt8) (hB : B.length ≤ 1048576) (c : UInt8) (w : World) : Calls Tryd.prog 19 #[sB B, .int .u8 (c.toNat : Int)] w (Ret w 9 1 (strs (cutC c B)) (cutC c B).length) := by
  obtain ⟨i0, hi0, hz0, hz1, hz2⟩ := info_parts infoStr
  have hs0 := sB_size B
  have hs1 : B.toArray.size = B.length := by simp
  go_enter Tryd.func19, Tryd.ntmps19
  go_wp2
  go_loopw [5, 6, 7] (fun o f i wr => ∃ (k m : Nat) (q : List (List UInt8)), k ≤ B.length + 1 ∧ i = .int .i64 k ∧ f = .int .i64 m ∧ m ≤ k ∧ q.length ≤ k ∧ wr.ownsRow w.heap.size 9 1 o q.length (strs q) ∧ Hid ((k ≤ B.length ∧ cutC c B = q ++ cutG c ((B.drop m).take (k - m)) (B.drop k)) ∨ (B.length < k ∧ cutC c B = q)) ∧ Bw w wr) (fun _ _ i _ => B.length + 1 - (intOf i).toNat)
  case atStart => exact ⟨0, 0, [], by omega, rfl, rfl, Nat.le_refl _, Nat.le_refl _, by simpa using World.ownsRow_made w #[] 0 (by simp) (by simp) rfl, by left; exact ⟨by omega, by simp [cutG_start]⟩, bw_alloc _ _⟩
  case round =>
    obtain ⟨k, m, q, hk, rfl, rfl, hmk, hql, hown, hx, hbw⟩ := hrel
    obtain ⟨ao', c', hu⟩ := own_form hown
    subst hu
    by_cases hlt : k < B.length
    · obtain ⟨b, hb⟩ := getSome hlt
      have hix := str_idxP hb
      have hd1 : decide ((k : Int) ≤ (B.length : Int)) = true := decide_eq_true (by omega)
      have hd2 : ((k : Int) == (B.length : Int)) = false := by rw [beq_eq_false_iff_ne]; omega
      have hd3 : (k == B.length) = false := by rw [beq_eq_false_iff_ne]; omega
      have hxx : cutC c B = q ++ cutG c ((B.drop m).take (k - m)) (b :: B.drop (k + 1)) := by
        rcases hx.out with ⟨_, h⟩ | ⟨h, _⟩
        · rw [h, drop_cons hb]
        · omega
      by_cases hbc : b = c
      · subst hbc
        have hnew : cutC b B = (q ++ [(B.drop m).take (k - m)]) ++ cutG b ((B.drop (k + 1)).take (k + 1 - (k + 1))) (B.drop (k + 1)) := by
          rw [hxx, cutG_eq]; simp
        have hsl := str_sub hmk (show k ≤ B.length by omega)
        obtain ⟨S, hS⟩ : ∃ S, (B.drop m).take (k - m) = S := ⟨_, rfl⟩
        rw [hS] at hsl hnew
        have HXX := Lib.hid hxx
        have HNEW := Lib.hid hnew
        have HB := Lib.hid hb
        have HS := Lib.hid hS
        clear hxx hnew hb hS
        clear hx
        go_wp2_with (at_builtin; refine wpList_append_own _ rfl _ _ 38 rfl w.heap.size 9 i0 (.string ⟨#[]⟩) 1 16 Tryd.underlying38 hi0 hz0 hz1 hz2 rfl (by decide) _ _ _ rfl (row_bw hown (bw_alloc _ _)) ⟨wr.heap.size, 0, none⟩ 1 1 [sB S] rfl rfl (cell_one_new _ _ _) (oneS _) (by unfold maxLen; omega) (by omega) (by have := hbw.size; simp; omega) ?_; intro v9 w9 hown9 hgrow9 _)
        have hb9 : Bw w w9 := Below.grown (Below.alloc hbw (by have := hbw.size; omega) _) hgrow9 (by have := hbw.size; simp; omega) (fun g hg => by have := own_cap0 hown g hg; omega)
        have hown2 : w9.ownsRow w.heap.size 9 1 v9 (q ++ [S]).length (strs (q ++ [S])) := by simpa [strs] using hown9
        clear hown9 hgrow9 hown
        go_wp2
        go_roundw
        case rel => exact ⟨k + 1, k + 1, q ++ [S], by omega, by go_num, by go_num, Nat.le_refl _, by simp; omega, hown2, by left; exact ⟨by omega, HNEW.out⟩, hb9⟩
        case measure => simp [intOf]; omega
      · have hd4 : ((b.toNat : Int) == (c.toNat : Int)) = false := by
          rw [beq_eq_false_iff_ne]
          intro h
          exact hbc (UInt8.toNat_inj.1 (by omega))
        have hd5 : (b.toNat == c.toNat) = false := by
          rw [beq_eq_false_iff_ne]
          intro h
          exact hbc (UInt8.toNat_inj.1 h)
        have hnew : cutC c B = q ++ cutG c ((B.drop m).take (k + 1 - m)) (B.drop (k + 1)) := by
          rw [hxx, cutG_ne _ _ hbc, sub_snoc hmk hb]
        have HXX := Lib.hid hxx
        have HNEW := Lib.hid hnew
        have HB := Lib.hid hb
        clear hxx hnew hb
        clear hx
        go_wp2
        go_roundw
        case rel => exact ⟨k + 1, m, q, by omega, by go_num, rfl, by omega, by omega, hown, by left; exact ⟨by omega, HNEW.out⟩, hbw⟩
        case measure => simp [intOf]; omega
    · by_cases hke : k = B.length
      · subst hke
        have hd1 : decide ((B.length : Int) ≤ (B.length : Int)) = true := decide_eq_true (by omega)
        have hd2 : ((B.length : Int) == (B.length : Int)) = true := by simp
        have hsl := str_sub hmk (Nat.le_refl B.length)
        obtain ⟨S, hS⟩ : ∃ S, (B.drop m).take (B.length - m) = S := ⟨_, rfl⟩
        have hnew : cutC c B = q ++ [S] := by
          rcases hx.out with ⟨_, h⟩ | ⟨h, _⟩
          · rw [h, hS, List.drop_length, cutG_nil]
          · omega
        rw [hS] at hsl
        have HNEW := Lib.hid hnew
        have HS := Lib.hid hS
        clear hnew hS
        clear hx
        go_wp2_with (at_builtin; refine wpList_append_own _ rfl _ _ 38 rfl w.heap.size 9 i0 (.string ⟨#[]⟩) 1 16 Tryd.underlying38 hi0 hz0 hz1 hz2 rfl (by decide) _ _ _ rfl (row_bw hown (bw_alloc _ _)) ⟨wr.heap.size, 0, none⟩ 1 1 [sB S] rfl rfl (cell_one_new _ _ _) (oneS _) (by unfold maxLen; omega) (by omega) (by have := hbw.size; simp; omega) ?_; intro v9 w9 hown9 hgrow9 _)
        have hb9 : Bw w w9 := Below.grown (Below.alloc hbw (by have := hbw.size; omega) _) hgrow9 (by have := hbw.size; simp; omega) (fun g hg => by have := own_cap0 hown g hg; omega)
        have hown2 : w9.ownsRow w.heap.size 9 1 v9 (q ++ [S]).length (strs (q ++ [S])) := by simpa [strs] using hown9
        clear hown9 hgrow9 hown
        go_wp2
        go_roundw
        case rel => exact ⟨B.length + 1, B.length + 1, q ++ [S], by omega, by go_num, by go_num, Nat.le_refl _, by simp; omega, hown2, by right; exact ⟨by omega, HNEW.out⟩, hb9⟩
        case measure => simp [intOf]
      · have hd1 : decide ((k : Int) ≤ (B.length : Int)) = false := decide_eq_false (by omega)
        have hfin : cutC c B = q := by
          rcases hx.out with ⟨h, _⟩ | ⟨_, h⟩
          · omega
          · exact h
        have HFIN := Lib.hid hfin
        clear hfin
        go_wp2
        go_ret
        exact ⟨ao', c', by rw [HFIN.out]; rfl, by rw [HFIN.out]; exact hown, hbw⟩
theorem from_lt : ∀ (l : List UInt8) (acc u : Nat), Lib.decFrom acc l = some u → acc ≤ u := from_le
/-- The number behind the sign. -/
def numS (s : List UInt8) (neg : Bool) : Int × Bool :=
  if s = [] ∨ 17 < s.length ∨ (s.head? = some 48 ∧ (1 < s.length ∨ neg = true)) then (0, false)
  else match Lib.decFrom 0 s with
    | none => (0, false)
    | some n => (if neg then -(n : Int) else n, true)
theorem numB_neg (r : List UInt8) : numB (45 :: r) = numS r true := rfl
theorem numB_pos {l : List UInt8} (h : l.head? ≠ some 45) : numB l = numS l false := by
  have : (l.head? == some (45 : UInt8)) = false := by rw [beq_eq_false_iff_ne]; exact h
  simp only [numB, this]
  rfl
theorem pow_step {n k : Nat} (h : n < 10 ^ k) (d : Nat) (hd : d ≤ 9) : n * 10 + d < 10 ^ (k + 1) := by
  rw [Nat.pow_succ]; omega
theorem pow_le17 {n k : Nat} (h : n < 10 ^ k) (hk : k ≤ 17) : n < 100000000000000000 := by
  have : 10 ^ k ≤ 10 ^ 17 := Nat.pow_le_pow_right (by decide) hk
  omega
end Go.Proofs.YtnmpilmjkgdpgaaDoor
