/-
  What the condition and the world's shape give: the table of powers of ten, the two errors, the search's bound.
-/
import Derived.Test.YtnmpilmjkgdpgaaDoorPw
import Derived.Test.YtnmpilmjkgdpgaaDoorDoor
import Derived.Shelf.Vars


namespace Go.Proofs.YtnmpilmjkgdpgaaDoor
open Go.RowKit

theorem iface_var {W : World} {n : String} {g t f : Nat} {cs : Array Value} {nm : String} {d : DataW Unit} {p : List MemPlace} (hg : Tryd.prog.globalNamed n = some g) (ht : (Tryd.prog.globals[g]?).map (·.type) = some t) (he : t = 48) (hv : W.var? Tryd.prog n = some cs)
    (h : DataW.trod (fun _ => ()) Tryd.prog W 0 (fun _ => true) false f t cs.toList = some (.iface nm d, p)) : ∃ ev, W.cell? ⟨g, 0, none⟩ = some ev ∧ (ev = .nilIface ∨ ∃ te pe, ev = .iface te pe) := by
  subst he
  obtain ⟨_, u, v, hc, _, _⟩ := iface_of_trod Tryd.underlying48 h
  have hcs : cs = #[.iface u v] := by cases cs; simp_all
  subst hcs
  have h0 := World.var?_cell hg hv 0
  exact ⟨.iface u v, by simpa using h0, .inr ⟨u, v, rfl⟩⟩
theorem door_env {W : World} (h : laidMetH Tryd.prog Rows.fnExactParseJobsRow.laid W) (hs : W.ShapedOpen Tryd.prog) : Env W := by
  rw [MakeChecks.laidMetH_plain _ _ _ (by kernel_rfl)] at h
  obtain ⟨ps, ⟨g0, t0, cs0, f0, p0, q0, hg0, ht0, hv0, hd0, ⟨g1, t1, cs1, f1, p1, q1, hg1, ht1, hv1, hd1, ⟨g2, t2, cs2, f2, p2, q2, hg2, ht2, hv2, hd2, ⟨g3, t3, cs3, f3, p3, q3, hg3, ht3, hv3, hd3, ⟨g4, t4, cs4, f4, p4, q4, hg4, ht4, hv4, hd4, ⟨g5, t5, cs5, f5, p5, q5, hg5, ht5, hv5, hd5, _, _⟩, _⟩, _⟩, _⟩, _⟩, _⟩, _⟩ := h
  clear hg0 ht0 hv0 hd0 hg1 ht1 hv1 hd1 hg3 ht3 hv3 hd3
  have key : ∀ (g t n : Nat), Tryd.prog.globalNamed "internal/strconv.uint64pow10" = some g → (Tryd.prog.globals[g]?).map (·.type) = some t → Tryd.prog.underlying t = some (.array n 99) → Tryd.prog.cellsOf t = n → Pow10 W := fun g t n a b c d => by
    obtain rfl := Option.some.inj (a.symm.trans hg2)
    obtain rfl := Option.some.inj (b.symm.trans ht2)
    show W.var? Tryd.prog _ = _
    rw [hv2, ← Lib.cells_of_tab c Tryd.underlying99 (by kernel_rfl) d hd2]
  refine ⟨key 3 123 20 (by kernel_rfl) (by kernel_rfl) Tryd.underlying123 (by kernel_rfl), ?_, ?_, ?_⟩
  · exact cell_of_shapedOpen_int (P := Tryd.prog) (g := 0) (t := 3) (zero := #[.int .i64 0]) hs (of_decide_eq_true (by kernel_rfl)) (by kernel_rfl) rfl (by kernel_rfl) (by kernel_rfl) Tryd.underlying3
  · have e : g5 = 1 := Option.some.inj (hg5.symm.trans (show Tryd.prog.globalNamed "strconv.ErrSyntax" = some 1 by kernel_rfl))
    subst e
    exact iface_var hg5 ht5 (Option.some.inj (ht5.symm.trans (show (Tryd.prog.globals[1]?).map (·.type) = some 48 by kernel_rfl))) hv5 hd5
  · have e : g4 = 2 := Option.some.inj (hg4.symm.trans (show Tryd.prog.globalNamed "strconv.ErrRange" = some 2 by kernel_rfl))
    subst e
    exact iface_var hg4 ht4 (Option.some.inj (ht4.symm.trans (show (Tryd.prog.globals[2]?).map (·.type) = some 48 by kernel_rfl))) hv4 hd4
end Go.Proofs.YtnmpilmjkgdpgaaDoor
