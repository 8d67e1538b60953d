/-
  The law of runs by virtual deadlines: tasks that hold are late with no job. No program in sight.
-/
import Derived.Test.YtaadlgpglfpmpaaEdfJ
namespace Go.Proofs.Ytaadlgpglfpmpaa
open Go.RowKit

theorem run_due {l : List Tk} {js : List Jb} {N : Int} {r : Rn} (h : runJ l js 1 N = (r, true)) (hv : virtB l = true) : misses l js r.ended r.trace.length = [] := by
  have htl := run_tlen h
  obtain ⟨hok, h0, _, _, hr⟩ := runJ_ok h
  obtain ⟨hs, hd, _, hV⟩ := virt_of hv
  have he : r.ended = (sg l js true (factor l).1 N.toNat).ended := by rw [hr]; rfl
  have ht : r.trace.length = N.toNat := by omega
  unfold misses
  split
  · refine pick_nil fun k _ hk => ?_
    obtain ⟨j, hj⟩ := getSome (l := js) (k := k) (by omega)
    obtain ⟨i, T, hji, hil, hT⟩ := task_of hok hj
    have hkT := (Tk.ok_iff _).1 (setOk_at hs hT)
    have hdT := hd T (List.mem_of_getElem? hT)
    rw [he, ht]
    exact no_miss hok hT (R := T.every.toNat) (by omega) (by omega) (edf_claim hok hd hV hT) hj hji
  · rfl
end Go.Proofs.Ytaadlgpglfpmpaa
