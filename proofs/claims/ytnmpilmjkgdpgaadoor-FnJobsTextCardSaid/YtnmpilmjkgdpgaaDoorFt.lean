/-
  The walks of FormatTrace. No condition on the run but that its lengths are known.
-/
import Derived.Test.YtnmpilmjkgdpgaaDoorGB
import Derived.Test.YtnmpilmjkgdpgaaDoorItoa
import Derived.Laws.Concat
import Derived.Laws.IdiomStrings



namespace Go.Proofs.YtnmpilmjkgdpgaaDoor
open Go.RowKit

/-- The text of a trace. -/
def ftByte (t : Int) : UInt8 := if t = -1 then 46 else UInt8.ofNat (48 + t.toNat)
def ftGood (l : List Int) : Prop := ∀ t ∈ l, -1 ≤ t ∧ t ≤ 4
instance (l : List Int) : Decidable (ftGood l) := by unfold ftGood; infer_instance
def ftB (l : List Int) : List UInt8 := if l.length ≤ 200 ∧ ftGood l then l.map ftByte else []
abbrev sB (b : List UInt8) : Value := .string ⟨b.toArray⟩
theorem ft_dig {i : Nat} (h : i ≤ 4) : Lib.decDigits i = [ftByte i] := by
  rcases (show i = 0 ∨ i = 1 ∨ i = 2 ∨ i = 3 ∨ i = 4 by omega) with rfl | rfl | rfl | rfl | rfl <;> decide +kernel
theorem ft_take {l : List Int} {k : Nat} {t : Int} (h : l[k]? = some t) : (l.map ftByte).take (k + 1) = (l.map ftByte).take k ++ [ftByte t] := by
  rw [List.take_add_one]; simp [h]
theorem good_take {l : List Int} {k : Nat} {t : Int} (h : l[k]? = some t) (hg : ftGood (l.take k)) (ht : -1 ≤ t ∧ t ≤ 4) : ftGood (l.take (k + 1)) := by
  intro y hy
  rw [List.take_add_one, h] at hy
  rcases List.mem_append.1 hy with hy | hy
  · exact hg y hy
  · simp at hy; subst hy; exact ht
theorem sb_app (a : List UInt8) (b : UInt8) : Value.string (⟨a.toArray⟩ ++ ⟨#[b]⟩) = sB (a ++ [b]) := by
  have := ByteArray.mk_append_mk a [b]
  show Value.string _ = Value.string _
  rw [← this]
theorem ft_add (P : Program) (a : List UInt8) (b : UInt8) (h : a.length ≤ 200) (W : World) : (Op.stringOp .add ⟨a.toArray⟩ ⟨#[b]⟩).run P W = .ok (.string ⟨(a ++ [b]).toArray⟩) W := by
  have := run_string_add_lists (P := P) W a [b] (by omega) (by simp)
  simpa using this

/-- Bytes as cells. -/
abbrev bys (l : List UInt8) : List Value := l.map fun b => .int .u8 (b.toNat : Int)
theorem infoByte : (Tryd.prog.info? 5).map (fun i => (i.zero, i.size, i.bytes)) = some (some (.int .u8 0), 1, 1) := by kernel_rfl
theorem oneB (n : Int) : ∀ u ∈ [Value.int .u8 n], u.oneCell' = true := by intro u hu; simp at hu; subst hu; rfl
theorem ft_byte {i : Nat} (h : i ≤ 4) : ((ftByte i).toNat : Int) = 48 + (i : Int) := by
  rcases (show i = 0 ∨ i = 1 ∨ i = 2 ∨ i = 3 ∨ i = 4 by omega) with rfl | rfl | rfl | rfl | rfl <;> decide
theorem u8w (i : Nat) (h : i ≤ 4) : IntKind.u8.wrap (48 + (i : Int)) = 48 + (i : Int) := by
  rcases (show i = 0 ∨ i = 1 ∨ i = 2 ∨ i = 3 ∨ i = 4 by omega) with rfl | rfl | rfl | rfl | rfl <;> rfl
theorem conv_own {w : World} {base k : Nat} {u : Value} {l : List UInt8} (h : w.ownsRow base 5 1 u k (bys l)) (hk : l.length = k) : (convert 28 9 u).run Tryd.prog w = .ok (sB l) w := by
  subst hk
  rcases h.2 with ⟨rfl, h0⟩ | ⟨g, cap, cur, rfl, _, hb, hn, _, hs, ht⟩
  · have : l = [] := List.length_eq_zero_iff.1 h0
    subst this
    rw [run_convert_bytes_string w 28 9 5 none 0 0 Tryd.underlying28 Tryd.underlying5 Tryd.underlying9]
    rfl
  · refine run_convert_bytes_back w _ _ 5 ⟨g, 0, none⟩ cap l Tryd.underlying28 Tryd.underlying5 Tryd.underlying9 (fun j hj => ?_)
    have h1 : (cur.toList.take (l.length * 1))[j]? = some (.int .u8 (l[j].toNat : Int)) := by rw [ht]; simp [bys, hj]
    rw [List.getElem?_take_of_lt (by omega)] at h1
    have := blk_cell hb j (by rw [← Array.getElem?_toList]; exact h1)
    have hadr : (⟨g, 0, none⟩ : Addr).add j = ⟨g, j, none⟩ := by
      unfold Addr.add
      split <;> simp_all
    rw [hadr]; exact this
end Go.Proofs.YtnmpilmjkgdpgaaDoor
