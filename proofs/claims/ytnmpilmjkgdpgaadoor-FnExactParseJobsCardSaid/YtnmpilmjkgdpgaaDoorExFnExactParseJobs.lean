/-
  The walk of the law FnExactParseJobs: it returns true and writes nothing that was there. Of the world it asks what the listed variables hold.
-/
import Derived.Test.YtnmpilmjkgdpgaaDoorPsp
import Derived.Test.YtnmpilmjkgdpgaaDoorGA
import Derived.Test.YtnmpilmjkgdpgaaDoorWorstS
import Derived.Deep.RegionHeld3




namespace Go.Proofs.YtnmpilmjkgdpgaaDoor
open Go.RowKit
set_option maxRecDepth 100000 in
set_option maxHeartbeats 8000000 in
theorem law_FnExactParseJobs (x : ByteArray) (w : World) (hE : Env w) :
    Calls Tryd.prog 3 #[.string x] w fun e w' => e = .returned (.bool true) ∧ Bw w w' := by
  obtain ⟨B, rfl⟩ : ∃ B : List UInt8, x = ⟨B.toArray⟩ := ⟨x.data.toList, by simp⟩
  have hs0 := sB_size B
  have hs1 : B.toArray.size = B.length := by simp
  have HE := Lib.hid hE
  clear hE
  go_enter Tryd.func3, Tryd.ntmps3
  by_cases hB : B.length ≤ 1048576
  · have hd : decide (1048576 < (B.length : Int)) = false := decide_eq_false (by omega)
    have LEN := Lib.hid (show ((optJ (ipB B)).1).length ≤ 1048576 from Nat.le_trans ip_len (by omega))
    go_wp2_with fail
    refine (parse_spec B hB _).mono ?_
    obtain ⟨js, hjs⟩ : ∃ js, (optJ (ipB B)).1 = js := ⟨_, rfl⟩
    obtain ⟨ok, hok⟩ : ∃ ok, (optJ (ipB B)).2 = ok := ⟨_, rfl⟩
    have pimpl := fun W hW => parse_impl B hB W hW
    rw [hjs] at LEN pimpl ⊢
    rw [hok] at pimpl ⊢
    have PIMPL := Lib.hid pimpl
    clear pimpl hjs hok
    rintro e w3 ⟨aW, cW, rfl, ho, hb3⟩
    have OW := Lib.hid (Own.ofRow ho)
    clear ho
    go_wp2_with fail
    refine (PIMPL.out _ (env_bw HE.out hb3)).mono ?_
    rintro e w5 ⟨aGr, cGr, rfl, ho, hb5⟩
    have hw5 := bw_trans hb3 hb5
    have OGr := Lib.hid (Own.ofRow ho)
    clear ho
    go_wp2_with fail
    refine (eqJobS_any _ _ _ _ _ _ _ OGr.out.rj (OW.out.bw hb5).rj LEN.out LEN.out).mono ?_
    rw [decide_eq_true rfl]
    rintro e w6 ⟨rfl, hb6⟩
    have hw6 : Bw w w6 := bw_trans hw5 hb6
    have hz6 := hw6.size
    have hz36 := (bw_trans hb5 hb6).size
    have hz3 := hb3.size
    go_wp2_with fail
    refine (markJbs (OGr.out.bw hb6) LEN.out _ (by omega) (by omega)).mono ?_
    rintro e w11 ⟨rfl, t11, hm11⟩
    have hz11 := t11.size
    have hw11 : Bw w w11 := (bw_hit hw6 t11 (by omega))
    have HM := Lib.hid hm11
    clear hm11
    have h311 : Bw w3 w11 := bw_hit (bw_trans hb5 hb6) t11 (by omega)
    go_wp2_with fail
    refine (heldJobS_any aGr _ cGr 1 _ LEN.out (by omega) (by omega) HM.out.rj).mono ?_
    rintro e w12 ⟨rfl, hb12⟩
    have hw12 := bw_trans hw11 hb12
    go_wp2_with fail
    refine (PIMPL.out _ (env_bw HE.out hw12)).mono ?_
    rintro e w14 ⟨aHr, cHr, rfl, ho, hb14⟩
    have OHr := Lib.hid (Own.ofRow ho)
    clear ho
    have hw14 := bw_trans hw12 hb14
    go_wp2_with fail
    refine (eqJobS_any _ _ _ _ _ _ _ OHr.out.rj (OW.out.bw (bw_trans h311 (bw_trans hb12 hb14))).rj LEN.out LEN.out).mono ?_
    rw [decide_eq_true rfl]
    rintro e w15 ⟨rfl, hb15⟩
    have hw15 := bw_trans hw14 hb15
    go_wp2_with fail
    refine (heldJobS_any aGr _ cGr 1 _ LEN.out (by omega) (by omega) (HM.out.bw (bw_trans (bw_trans hb12 hb14) hb15)).rj).mono ?_
    rintro e w16 ⟨rfl, hb16⟩
    go_wp2
    go_ret
    exact ⟨rfl, bw_trans hw15 hb16⟩
  · have hd : decide (1048576 < (B.length : Int)) = true := decide_eq_true (by omega)
    go_wp2
    go_ret
    exact ⟨rfl, Bw.refl _⟩
end Go.Proofs.YtnmpilmjkgdpgaaDoor
