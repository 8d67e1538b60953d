import Derived.Test.YtaadlgpglfpmpaaDoorSpN
import Derived.Test.YtaadlgpglfpmpaaDoorRunYp
import Derived.Test.YtaadlgpglfpmpaaDoorRunYd
import Derived.Test.YtaadlgpglfpmpaaDoorGD
import Derived.Maps.AppendAt
import Derived.Test.YtaadlgpglfpmpaaDoorGE
import Derived.Test.YtaadlgpglfpmpaaDoorGC
import Derived.Test.YtaadlgpglfpmpaaDoorGB
import Derived.BigQuiet

/-
  RunJobs, the program's and the reference's: both give back the same run. 
-/





namespace Go.Proofs.YtaadlgpglfpmpaaDoor
open Go.RowKit

theorem runJ_yes {l : List Tk} {js : List Jb} {pol n : Int} (h : jobsOk l js = true ∧ (pol = 0 ∨ (pol = 1 ∧ (factor l).2 = true)) ∧ 0 ≤ n ∧ n ≤ 200) : runJ l js pol n = ((ticks l js (decide (pol = 1)) (factor l).1 n.toNat 0 (st0 js.length)).run, true) := by
  rw [runJ, if_pos]
  obtain ⟨h1, h2, h3⟩ := h
  simp [goB, h1, h3]
  rcases h2 with h2 | h2
  · exact .inl h2
  · exact .inr h2
theorem runjobs_impl {w : World} {ao bo : Option Addr} {c d : Nat} {l : List Tk} {js : List Jb} (pol n : Int) (hl : l.length ≤ 1048576) (hj : js.length ≤ 1048576) (hc : js.length ≤ d) (hr : RT w ao l) (hs : RJ w bo js) :
    Calls Tryd.prog 24 #[.slice ao l.length c, .slice bo js.length d, .int .i64 pol, .int .i64 n] w (RunR w (runJ l js pol n).1 (runJ l js pol n).2) := by
  by_cases h : jobsOk l js = true ∧ (pol = 0 ∨ (pol = 1 ∧ (factor l).2 = true)) ∧ 0 ≤ n ∧ n ≤ 200
  · rw [runJ_yes h]
    obtain ⟨h1, h2, h3, h4⟩ := h
    obtain ⟨N, rfl⟩ : ∃ N : Nat, n = N := ⟨n.toNat, by omega⟩
    rcases h2 with rfl | ⟨rfl, h2⟩
    · exact RunI_yes_false ao bo c d w l js N hl hj hc hr hs h1 (fun h => absurd h (by simp)) (by omega)
    · exact RunI_yes_true ao bo c d w l js N hl hj hc hr hs h1 (fun _ => h2) (by omega)
  · exact RunI_no ao bo c d w l js pol n hl hj hc hr hs h
theorem runjobs_implR {w : World} {v u : Value} {l : List Tk} {js : List Jb} (hv : ST w v l) (hu : SJ w u js) (pol n : Int) :
    Calls Tryd.prog 24 #[v, u, .int .i64 pol, .int .i64 n] w (RunR w (runJ l js pol n).1 (runJ l js pol n).2) := by
  obtain ⟨⟨ao, c, rfl, hr, _⟩, hn⟩ := hv
  obtain ⟨⟨bo, d, rfl, hs, hd, _⟩, hm⟩ := hu
  exact runjobs_impl pol n hn hm hd hr hs
theorem runjobs_spec {w : World} {ao bo : Option Addr} {c d : Nat} {l : List Tk} {js : List Jb} (pol n : Int) (hl : l.length ≤ 1048576) (hj : js.length ≤ 1048576) (_hc : js.length ≤ d) (hr : RT w ao l) (hs : RJ w bo js) :
    Calls Tryd.prog 25 #[.slice ao l.length c, .slice bo js.length d, .int .i64 pol, .int .i64 n] w (RunR w (runJ l js pol n).1 (runJ l js pol n).2) := by
  by_cases h : jobsOk l js = true ∧ (pol = 0 ∨ (pol = 1 ∧ (factor l).2 = true)) ∧ 0 ≤ n ∧ n ≤ 200
  · rw [runJ_yes h]
    obtain ⟨h1, h2, h3, h4⟩ := h
    obtain ⟨N, rfl⟩ : ∃ N : Nat, n = N := ⟨n.toNat, by omega⟩
    rcases h2 with rfl | ⟨rfl, h2⟩
    · exact RunS_yes_false ao bo c d w l js N hl hj  hr hs h1 (fun h => absurd h (by simp)) (by omega)
    · exact RunS_yes_true ao bo c d w l js N hl hj  hr hs h1 (fun _ => h2) (by omega)
  · exact RunS_no ao bo c d w l js pol n hl hj  hr hs h
theorem runjobs_specR {w : World} {v u : Value} {l : List Tk} {js : List Jb} (hv : ST w v l) (hu : SJ w u js) (pol n : Int) :
    Calls Tryd.prog 25 #[v, u, .int .i64 pol, .int .i64 n] w (RunR w (runJ l js pol n).1 (runJ l js pol n).2) := by
  obtain ⟨⟨ao, c, rfl, hr, _⟩, hn⟩ := hv
  obtain ⟨⟨bo, d, rfl, hs, hd, _⟩, hm⟩ := hu
  exact runjobs_spec pol n hn hm hd hr hs
theorem runjobs_specO {w : World} {v u : Value} {l : List Tk} {js : List Jb} (hv : ST w v l) (hu : SJ w u js) (pol n : Int) :
    Calls Tryd.prog 25 #[v, u, .int .i64 pol, .int .i64 n] w (RunO w (runJ l js pol n).1 (runJ l js pol n).2) := by
  obtain ⟨⟨ao, c, rfl, hr, _⟩, hl⟩ := hv
  obtain ⟨⟨bo, d, rfl, hs, _⟩, hj⟩ := hu
  by_cases h : jobsOk l js = true ∧ (pol = 0 ∨ (pol = 1 ∧ (factor l).2 = true)) ∧ 0 ≤ n ∧ n ≤ 200
  · rw [runJ_yes h]
    obtain ⟨h1, h2, h3, h4⟩ := h
    obtain ⟨N, rfl⟩ : ∃ N : Nat, n = N := ⟨n.toNat, by omega⟩
    rcases h2 with rfl | ⟨rfl, h2⟩
    · exact RunS_yesO_false ao bo c d w l js N hl hj hr hs h1 (fun h => absurd h (by simp)) (by omega)
    · exact RunS_yesO_true ao bo c d w l js N hl hj hr hs h1 (fun _ => h2) (by omega)
  · exact RunS_noO ao bo c d w l js pol n hl hj hr hs h
end Go.Proofs.YtaadlgpglfpmpaaDoor

/-
  What the walks of the laws of runs share.
-/






namespace Go.Proofs.YtaadlgpglfpmpaaDoor
open Go.RowKit

theorem rr_mk {w : World} {a1 a2 a3 : Option Addr} {c1 c2 c3 : Nat} {r : Rn} (h1 : RI w a1 r.ended) (h2 : RI w a2 r.trace) (h3 : RI w a3 r.switches) (hb : RunB r) : RR w (rnVal a1 r.ended.length c1 a2 r.trace.length c2 a3 r.switches.length c3 r.high) r :=
  ⟨⟨a1, c1, a2, c2, a3, c3, rfl, h1, h2, h3⟩, by have := hb.n1; omega, by have := hb.n2; omega, by have := hb.n3; omega, fun x hx => by have := hb.e x hx; unfold I64; omega, fun x hx => by have := hb.t x hx; unfold I64; omega, fun x hx => by have := hb.s x hx; unfold I64; omega⟩
end Go.Proofs.YtaadlgpglfpmpaaDoor
