/-
  No cell of these rows narrows 'for every input' (looked for: loops, veiled, ifaces, maps, wideKeys, modest, calm, conditions, laid).
  DERIVED. THE GIVEN ROWS OF THIS SEAT. 12 by the template 'for every input the law returns true; each argument reads behind the call as it read before'; 0 by the template 'total and deterministic' (their statements: YtbgfclcnddgboaaTotals.lean).
  GIVEN WITH THE SEED: the statements are not yours to turn. If you find one false, say at which input.
  Laid BY PROGRAM, IN A SANDBOX (cutbox-rows.mjs): the forced cells as the released guide's own fill.sh prints them over the translation 35d63605f967c0a3… (all of the seat's roots in one cut). By AI agents, Wed Nov 11 2026. No macro, syntax, notation, axiom, sorry.
-/
import Derived.Test.YtbgfclcnddgboaaChecked
import GoSem.Claim
import GoSem.ClaimJoined
import GoSem.ClaimMapViews
import Derived.JoinedTies
import Derived.KernelRfl
namespace Go.Proofs.Ytbgfclcnddgboaa
/- THE CELL 'sum', in the pinned program and in every row, IS THE sha256 OF THE DUMP (.gsa) THAT YtbgfclcnddgboaaProg.lean LOADS. Nothing in Lean hashes anything: it is a label: what it is worth is what the hold of that sum in a sandbox is worth. -/
noncomputable def Try.pinned : Pinned := { name := "ytbgfclcnddgboaa", sum := "35d63605f967c0a377323561ae1f0d3cba8c31ad9f17b8a56caa5310f3d6b383", checked := Try.checked }
namespace Rows
def none {H : Type} : Left H := { results := [], args := [] }

/-- 'laws.FnPutJob': WHATEVER THE INPUT: true; the input reads as it did. -/
def fnPutJobSpec : ChangeSpec := { name := "fnPutJob", fn := fun _ => fun
  | [d] => { results := [.lit (.bool true)], args := [d] }
  | _ => none }
def fnPutJobRow : OpenClaim := { program := "ytbgfclcnddgboaa", sum := "35d63605f967c0a377323561ae1f0d3cba8c31ad9f17b8a56caa5310f3d6b383", func := "loop.example/dualmodes/laws.FnPutJob", spec := "fnPutJob", apart := false }
def FnPutJobSaid : Prop := fnPutJobRow.holds Try.pinned (OpenSpec.ofChange fnPutJobSpec)

/-- ITS FALSE NEIGHBOUR: 'it returns false'. Refute it at one input. -/
def fnPutJobWrong : ChangeSpec := { name := "fnPutJob", fn := fun _ => fun
  | [d] => { results := [.lit (.bool false)], args := [d] }
  | _ => none }
def FnPutJobWrongFalsely : Prop := fnPutJobRow.holds Try.pinned (OpenSpec.ofChange fnPutJobWrong)

/-- 'laws.FnRaiseShare': WHATEVER THE INPUT: true; the input reads as it did. -/
def fnRaiseShareSpec : ChangeSpec := { name := "fnRaiseShare", fn := fun _ => fun
  | [d] => { results := [.lit (.bool true)], args := [d] }
  | _ => none }
def fnRaiseShareRow : OpenClaim := { program := "ytbgfclcnddgboaa", sum := "35d63605f967c0a377323561ae1f0d3cba8c31ad9f17b8a56caa5310f3d6b383", func := "loop.example/dualmodes/laws.FnRaiseShare", spec := "fnRaiseShare", apart := false }
def FnRaiseShareSaid : Prop := fnRaiseShareRow.holds Try.pinned (OpenSpec.ofChange fnRaiseShareSpec)

/-- ITS FALSE NEIGHBOUR: 'it returns false'. Refute it at one input. -/
def fnRaiseShareWrong : ChangeSpec := { name := "fnRaiseShare", fn := fun _ => fun
  | [d] => { results := [.lit (.bool false)], args := [d] }
  | _ => none }
def FnRaiseShareWrongFalsely : Prop := fnRaiseShareRow.holds Try.pinned (OpenSpec.ofChange fnRaiseShareWrong)

/-- 'laws.FnRaiseAll': WHATEVER THE INPUT: true; the input reads as it did. -/
def fnRaiseAllSpec : ChangeSpec := { name := "fnRaiseAll", fn := fun _ => fun
  | [d] => { results := [.lit (.bool true)], args := [d] }
  | _ => none }
def fnRaiseAllRow : OpenClaim := { program := "ytbgfclcnddgboaa", sum := "35d63605f967c0a377323561ae1f0d3cba8c31ad9f17b8a56caa5310f3d6b383", func := "loop.example/dualmodes/laws.FnRaiseAll", spec := "fnRaiseAll", unfollowed := true, recurses := true, apart := false }
def FnRaiseAllSaid : Prop := fnRaiseAllRow.holds Try.pinned (OpenSpec.ofChange fnRaiseAllSpec)

/-- ITS FALSE NEIGHBOUR: 'it returns false'. Refute it at one input. -/
def fnRaiseAllWrong : ChangeSpec := { name := "fnRaiseAll", fn := fun _ => fun
  | [d] => { results := [.lit (.bool false)], args := [d] }
  | _ => none }
def FnRaiseAllWrongFalsely : Prop := fnRaiseAllRow.holds Try.pinned (OpenSpec.ofChange fnRaiseAllWrong)

/-- 'laws.FnExactRunJobs': WHATEVER THE INPUT: true; the input reads as it did. -/
def fnExactRunJobsSpec : ChangeSpec := { name := "fnExactRunJobs", fn := fun _ => fun
  | [d1, d2, d3, d4] => { results := [.lit (.bool true)], args := [d1, d2, d3, d4] }
  | _ => none }
def fnExactRunJobsRow : OpenClaim := { program := "ytbgfclcnddgboaa", sum := "35d63605f967c0a377323561ae1f0d3cba8c31ad9f17b8a56caa5310f3d6b383", func := "loop.example/dualmodes/laws.FnExactRunJobs", spec := "fnExactRunJobs", unfollowed := true, recurses := true, apart := false }
def FnExactRunJobsSaid : Prop := fnExactRunJobsRow.holds Try.pinned (OpenSpec.ofChange fnExactRunJobsSpec)

/-- ITS FALSE NEIGHBOUR: 'it returns false'. Refute it at one input. -/
def fnExactRunJobsWrong : ChangeSpec := { name := "fnExactRunJobs", fn := fun _ => fun
  | [d1, d2, d3, d4] => { results := [.lit (.bool false)], args := [d1, d2, d3, d4] }
  | _ => none }
def FnExactRunJobsWrongFalsely : Prop := fnExactRunJobsRow.holds Try.pinned (OpenSpec.ofChange fnExactRunJobsWrong)

/-- 'laws.FnRunEnds': WHATEVER THE INPUT: true; the input reads as it did. -/
def fnRunEndsSpec : ChangeSpec := { name := "fnRunEnds", fn := fun _ => fun
  | [d] => { results := [.lit (.bool true)], args := [d] }
  | _ => none }
def fnRunEndsRow : OpenClaim := { program := "ytbgfclcnddgboaa", sum := "35d63605f967c0a377323561ae1f0d3cba8c31ad9f17b8a56caa5310f3d6b383", func := "loop.example/dualmodes/laws.FnRunEnds", spec := "fnRunEnds", unfollowed := true, recurses := true, apart := false }
def FnRunEndsSaid : Prop := fnRunEndsRow.holds Try.pinned (OpenSpec.ofChange fnRunEndsSpec)

/-- ITS FALSE NEIGHBOUR: 'it returns false'. Refute it at one input. -/
def fnRunEndsWrong : ChangeSpec := { name := "fnRunEnds", fn := fun _ => fun
  | [d] => { results := [.lit (.bool false)], args := [d] }
  | _ => none }
def FnRunEndsWrongFalsely : Prop := fnRunEndsRow.holds Try.pinned (OpenSpec.ofChange fnRunEndsWrong)

/-- 'laws.FnRunFirst': WHATEVER THE INPUT: true; the input reads as it did. -/
def fnRunFirstSpec : ChangeSpec := { name := "fnRunFirst", fn := fun _ => fun
  | [d] => { results := [.lit (.bool true)], args := [d] }
  | _ => none }
def fnRunFirstRow : OpenClaim := { program := "ytbgfclcnddgboaa", sum := "35d63605f967c0a377323561ae1f0d3cba8c31ad9f17b8a56caa5310f3d6b383", func := "loop.example/dualmodes/laws.FnRunFirst", spec := "fnRunFirst", unfollowed := true, recurses := true, apart := false }
def FnRunFirstSaid : Prop := fnRunFirstRow.holds Try.pinned (OpenSpec.ofChange fnRunFirstSpec)

/-- ITS FALSE NEIGHBOUR: 'it returns false'. Refute it at one input. -/
def fnRunFirstWrong : ChangeSpec := { name := "fnRunFirst", fn := fun _ => fun
  | [d] => { results := [.lit (.bool false)], args := [d] }
  | _ => none }
def FnRunFirstWrongFalsely : Prop := fnRunFirstRow.holds Try.pinned (OpenSpec.ofChange fnRunFirstWrong)

/-- 'laws.FnRunIdleLow': WHATEVER THE INPUT: true; the input reads as it did. -/
def fnRunIdleLowSpec : ChangeSpec := { name := "fnRunIdleLow", fn := fun _ => fun
  | [d] => { results := [.lit (.bool true)], args := [d] }
  | _ => none }
def fnRunIdleLowRow : OpenClaim := { program := "ytbgfclcnddgboaa", sum := "35d63605f967c0a377323561ae1f0d3cba8c31ad9f17b8a56caa5310f3d6b383", func := "loop.example/dualmodes/laws.FnRunIdleLow", spec := "fnRunIdleLow", unfollowed := true, recurses := true, apart := false }
def FnRunIdleLowSaid : Prop := fnRunIdleLowRow.holds Try.pinned (OpenSpec.ofChange fnRunIdleLowSpec)

/-- ITS FALSE NEIGHBOUR: 'it returns false'. Refute it at one input. -/
def fnRunIdleLowWrong : ChangeSpec := { name := "fnRunIdleLow", fn := fun _ => fun
  | [d] => { results := [.lit (.bool false)], args := [d] }
  | _ => none }
def FnRunIdleLowWrongFalsely : Prop := fnRunIdleLowRow.holds Try.pinned (OpenSpec.ofChange fnRunIdleLowWrong)

/-- 'laws.FnRunOwn': WHATEVER THE INPUT: true; the input reads as it did. -/
def fnRunOwnSpec : ChangeSpec := { name := "fnRunOwn", fn := fun _ => fun
  | [d] => { results := [.lit (.bool true)], args := [d] }
  | _ => none }
def fnRunOwnRow : OpenClaim := { program := "ytbgfclcnddgboaa", sum := "35d63605f967c0a377323561ae1f0d3cba8c31ad9f17b8a56caa5310f3d6b383", func := "loop.example/dualmodes/laws.FnRunOwn", spec := "fnRunOwn", unfollowed := true, recurses := true, apart := false }
def FnRunOwnSaid : Prop := fnRunOwnRow.holds Try.pinned (OpenSpec.ofChange fnRunOwnSpec)

/-- ITS FALSE NEIGHBOUR: 'it returns false'. Refute it at one input. -/
def fnRunOwnWrong : ChangeSpec := { name := "fnRunOwn", fn := fun _ => fun
  | [d] => { results := [.lit (.bool false)], args := [d] }
  | _ => none }
def FnRunOwnWrongFalsely : Prop := fnRunOwnRow.holds Try.pinned (OpenSpec.ofChange fnRunOwnWrong)

/-- 'laws.FnRunSwitch': WHATEVER THE INPUT: true; the input reads as it did. -/
def fnRunSwitchSpec : ChangeSpec := { name := "fnRunSwitch", fn := fun _ => fun
  | [d] => { results := [.lit (.bool true)], args := [d] }
  | _ => none }
def fnRunSwitchRow : OpenClaim := { program := "ytbgfclcnddgboaa", sum := "35d63605f967c0a377323561ae1f0d3cba8c31ad9f17b8a56caa5310f3d6b383", func := "loop.example/dualmodes/laws.FnRunSwitch", spec := "fnRunSwitch", unfollowed := true, recurses := true, apart := false }
def FnRunSwitchSaid : Prop := fnRunSwitchRow.holds Try.pinned (OpenSpec.ofChange fnRunSwitchSpec)

/-- ITS FALSE NEIGHBOUR: 'it returns false'. Refute it at one input. -/
def fnRunSwitchWrong : ChangeSpec := { name := "fnRunSwitch", fn := fun _ => fun
  | [d] => { results := [.lit (.bool false)], args := [d] }
  | _ => none }
def FnRunSwitchWrongFalsely : Prop := fnRunSwitchRow.holds Try.pinned (OpenSpec.ofChange fnRunSwitchWrong)

/-- 'laws.FnRunWork': WHATEVER THE INPUT: true; the input reads as it did. -/
def fnRunWorkSpec : ChangeSpec := { name := "fnRunWork", fn := fun _ => fun
  | [d] => { results := [.lit (.bool true)], args := [d] }
  | _ => none }
def fnRunWorkRow : OpenClaim := { program := "ytbgfclcnddgboaa", sum := "35d63605f967c0a377323561ae1f0d3cba8c31ad9f17b8a56caa5310f3d6b383", func := "loop.example/dualmodes/laws.FnRunWork", spec := "fnRunWork", unfollowed := true, recurses := true, apart := false }
def FnRunWorkSaid : Prop := fnRunWorkRow.holds Try.pinned (OpenSpec.ofChange fnRunWorkSpec)

/-- ITS FALSE NEIGHBOUR: 'it returns false'. Refute it at one input. -/
def fnRunWorkWrong : ChangeSpec := { name := "fnRunWork", fn := fun _ => fun
  | [d] => { results := [.lit (.bool false)], args := [d] }
  | _ => none }
def FnRunWorkWrongFalsely : Prop := fnRunWorkRow.holds Try.pinned (OpenSpec.ofChange fnRunWorkWrong)

/-- 'laws.FnDropLow': WHATEVER THE INPUT: true; the input reads as it did. -/
def fnDropLowSpec : ChangeSpec := { name := "fnDropLow", fn := fun _ => fun
  | [d] => { results := [.lit (.bool true)], args := [d] }
  | _ => none }
def fnDropLowRow : OpenClaim := { program := "ytbgfclcnddgboaa", sum := "35d63605f967c0a377323561ae1f0d3cba8c31ad9f17b8a56caa5310f3d6b383", func := "loop.example/dualmodes/laws.FnDropLow", spec := "fnDropLow", unfollowed := true, recurses := true, apart := false }
def FnDropLowSaid : Prop := fnDropLowRow.holds Try.pinned (OpenSpec.ofChange fnDropLowSpec)

/-- ITS FALSE NEIGHBOUR: 'it returns false'. Refute it at one input. -/
def fnDropLowWrong : ChangeSpec := { name := "fnDropLow", fn := fun _ => fun
  | [d] => { results := [.lit (.bool false)], args := [d] }
  | _ => none }
def FnDropLowWrongFalsely : Prop := fnDropLowRow.holds Try.pinned (OpenSpec.ofChange fnDropLowWrong)

/-- 'laws.FnRanEnds': WHATEVER THE INPUT: true; the input reads as it did. -/
def fnRanEndsSpec : ChangeSpec := { name := "fnRanEnds", fn := fun _ => fun
  | [d] => { results := [.lit (.bool true)], args := [d] }
  | _ => none }
def fnRanEndsRow : OpenClaim := { program := "ytbgfclcnddgboaa", sum := "35d63605f967c0a377323561ae1f0d3cba8c31ad9f17b8a56caa5310f3d6b383", func := "loop.example/dualmodes/laws.FnRanEnds", spec := "fnRanEnds", unfollowed := true, recurses := true, apart := false }
def FnRanEndsSaid : Prop := fnRanEndsRow.holds Try.pinned (OpenSpec.ofChange fnRanEndsSpec)

/-- ITS FALSE NEIGHBOUR: 'it returns false'. Refute it at one input. -/
def fnRanEndsWrong : ChangeSpec := { name := "fnRanEnds", fn := fun _ => fun
  | [d] => { results := [.lit (.bool false)], args := [d] }
  | _ => none }
def FnRanEndsWrongFalsely : Prop := fnRanEndsRow.holds Try.pinned (OpenSpec.ofChange fnRanEndsWrong)

/- THE SECOND FORM. 'bulk': how many values and letters a reading holds, each counted each time it is reached (what is shared counts as often as it is met; a slice's spare places count too). A statement '..UptoSaid' is the law's where the arguments, and the package variables that the reading takes, are together of bulk at most 1048576: NARROWER than '..Said'. Prove '..Said' where nothing that the law and all that it calls make is longer than what came in: it says more and counts as full. Else prove '..UptoSaid'. A law counts once. -/
mutual
def uptoBulk {H : Type} : DataW H → Nat
  | .lit (.string bytes) => bytes.length + 1
  | .lit _ => 1
  | .nil => 1
  | .ptr d => uptoBulk d + 1
  | .slice elems spare => uptoBulkAll elems + uptoBulkAll spare + 1
  | .agg parts => uptoBulkAll parts + 1
  | .iface _ d => uptoBulk d + 1
  | .map entries => uptoBulkEntries entries + 1
  | .held _ => 1
def uptoBulkAll {H : Type} : List (DataW H) → Nat
  | [] => 0
  | d :: r => uptoBulk d + uptoBulkAll r
def uptoBulkEntries {H : Type} : List (Lit × DataW H) → Nat
  | [] => 0
  | x :: r => uptoBulkEntry x + uptoBulkEntries r
def uptoBulkEntry {H : Type} : Lit × DataW H → Nat
  | (.string bytes, d) => bytes.length + uptoBulk d + 1
  | (_, d) => uptoBulk d + 1
 end
def uptoSmall : (H : Type) → List (DataW H) → Bool := fun _ ds => decide (uptoBulkAll ds ≤ 1048576)
def OpenSpec.upto (s : _root_.Go.ChangeSpec) : _root_.Go.OpenSpec := { _root_.Go.OpenSpec.ofChange s with cond := some uptoSmall }

/-- 'laws.FnPutJob', WHERE WHAT IT READS IS OF BULK AT MOST 1048576: true; the input reads as it did. -/
def fnPutJobUptoRow : OpenClaim := { program := "ytbgfclcnddgboaa", sum := "35d63605f967c0a377323561ae1f0d3cba8c31ad9f17b8a56caa5310f3d6b383", func := "loop.example/dualmodes/laws.FnPutJob", spec := "fnPutJob", apart := false, narrowed := true }
def FnPutJobUptoSaid : Prop := fnPutJobUptoRow.holds Try.pinned (OpenSpec.upto fnPutJobSpec)

/-- 'laws.FnRaiseShare', WHERE WHAT IT READS IS OF BULK AT MOST 1048576: true; the input reads as it did. -/
def fnRaiseShareUptoRow : OpenClaim := { program := "ytbgfclcnddgboaa", sum := "35d63605f967c0a377323561ae1f0d3cba8c31ad9f17b8a56caa5310f3d6b383", func := "loop.example/dualmodes/laws.FnRaiseShare", spec := "fnRaiseShare", apart := false, narrowed := true }
def FnRaiseShareUptoSaid : Prop := fnRaiseShareUptoRow.holds Try.pinned (OpenSpec.upto fnRaiseShareSpec)

/-- 'laws.FnRaiseAll', WHERE WHAT IT READS IS OF BULK AT MOST 1048576: true; the input reads as it did. -/
def fnRaiseAllUptoRow : OpenClaim := { program := "ytbgfclcnddgboaa", sum := "35d63605f967c0a377323561ae1f0d3cba8c31ad9f17b8a56caa5310f3d6b383", func := "loop.example/dualmodes/laws.FnRaiseAll", spec := "fnRaiseAll", unfollowed := true, recurses := true, apart := false, narrowed := true }
def FnRaiseAllUptoSaid : Prop := fnRaiseAllUptoRow.holds Try.pinned (OpenSpec.upto fnRaiseAllSpec)

/-- 'laws.FnExactRunJobs', WHERE WHAT IT READS IS OF BULK AT MOST 1048576: true; the input reads as it did. -/
def fnExactRunJobsUptoRow : OpenClaim := { program := "ytbgfclcnddgboaa", sum := "35d63605f967c0a377323561ae1f0d3cba8c31ad9f17b8a56caa5310f3d6b383", func := "loop.example/dualmodes/laws.FnExactRunJobs", spec := "fnExactRunJobs", unfollowed := true, recurses := true, apart := false, narrowed := true }
def FnExactRunJobsUptoSaid : Prop := fnExactRunJobsUptoRow.holds Try.pinned (OpenSpec.upto fnExactRunJobsSpec)

/-- 'laws.FnRunEnds', WHERE WHAT IT READS IS OF BULK AT MOST 1048576: true; the input reads as it did. -/
def fnRunEndsUptoRow : OpenClaim := { program := "ytbgfclcnddgboaa", sum := "35d63605f967c0a377323561ae1f0d3cba8c31ad9f17b8a56caa5310f3d6b383", func := "loop.example/dualmodes/laws.FnRunEnds", spec := "fnRunEnds", unfollowed := true, recurses := true, apart := false, narrowed := true }
def FnRunEndsUptoSaid : Prop := fnRunEndsUptoRow.holds Try.pinned (OpenSpec.upto fnRunEndsSpec)

/-- 'laws.FnRunFirst', WHERE WHAT IT READS IS OF BULK AT MOST 1048576: true; the input reads as it did. -/
def fnRunFirstUptoRow : OpenClaim := { program := "ytbgfclcnddgboaa", sum := "35d63605f967c0a377323561ae1f0d3cba8c31ad9f17b8a56caa5310f3d6b383", func := "loop.example/dualmodes/laws.FnRunFirst", spec := "fnRunFirst", unfollowed := true, recurses := true, apart := false, narrowed := true }
def FnRunFirstUptoSaid : Prop := fnRunFirstUptoRow.holds Try.pinned (OpenSpec.upto fnRunFirstSpec)

/-- 'laws.FnRunIdleLow', WHERE WHAT IT READS IS OF BULK AT MOST 1048576: true; the input reads as it did. -/
def fnRunIdleLowUptoRow : OpenClaim := { program := "ytbgfclcnddgboaa", sum := "35d63605f967c0a377323561ae1f0d3cba8c31ad9f17b8a56caa5310f3d6b383", func := "loop.example/dualmodes/laws.FnRunIdleLow", spec := "fnRunIdleLow", unfollowed := true, recurses := true, apart := false, narrowed := true }
def FnRunIdleLowUptoSaid : Prop := fnRunIdleLowUptoRow.holds Try.pinned (OpenSpec.upto fnRunIdleLowSpec)

/-- 'laws.FnRunOwn', WHERE WHAT IT READS IS OF BULK AT MOST 1048576: true; the input reads as it did. -/
def fnRunOwnUptoRow : OpenClaim := { program := "ytbgfclcnddgboaa", sum := "35d63605f967c0a377323561ae1f0d3cba8c31ad9f17b8a56caa5310f3d6b383", func := "loop.example/dualmodes/laws.FnRunOwn", spec := "fnRunOwn", unfollowed := true, recurses := true, apart := false, narrowed := true }
def FnRunOwnUptoSaid : Prop := fnRunOwnUptoRow.holds Try.pinned (OpenSpec.upto fnRunOwnSpec)

/-- 'laws.FnRunSwitch', WHERE WHAT IT READS IS OF BULK AT MOST 1048576: true; the input reads as it did. -/
def fnRunSwitchUptoRow : OpenClaim := { program := "ytbgfclcnddgboaa", sum := "35d63605f967c0a377323561ae1f0d3cba8c31ad9f17b8a56caa5310f3d6b383", func := "loop.example/dualmodes/laws.FnRunSwitch", spec := "fnRunSwitch", unfollowed := true, recurses := true, apart := false, narrowed := true }
def FnRunSwitchUptoSaid : Prop := fnRunSwitchUptoRow.holds Try.pinned (OpenSpec.upto fnRunSwitchSpec)

/-- 'laws.FnRunWork', WHERE WHAT IT READS IS OF BULK AT MOST 1048576: true; the input reads as it did. -/
def fnRunWorkUptoRow : OpenClaim := { program := "ytbgfclcnddgboaa", sum := "35d63605f967c0a377323561ae1f0d3cba8c31ad9f17b8a56caa5310f3d6b383", func := "loop.example/dualmodes/laws.FnRunWork", spec := "fnRunWork", unfollowed := true, recurses := true, apart := false, narrowed := true }
def FnRunWorkUptoSaid : Prop := fnRunWorkUptoRow.holds Try.pinned (OpenSpec.upto fnRunWorkSpec)

/-- 'laws.FnDropLow', WHERE WHAT IT READS IS OF BULK AT MOST 1048576: true; the input reads as it did. -/
def fnDropLowUptoRow : OpenClaim := { program := "ytbgfclcnddgboaa", sum := "35d63605f967c0a377323561ae1f0d3cba8c31ad9f17b8a56caa5310f3d6b383", func := "loop.example/dualmodes/laws.FnDropLow", spec := "fnDropLow", unfollowed := true, recurses := true, apart := false, narrowed := true }
def FnDropLowUptoSaid : Prop := fnDropLowUptoRow.holds Try.pinned (OpenSpec.upto fnDropLowSpec)

/-- 'laws.FnRanEnds', WHERE WHAT IT READS IS OF BULK AT MOST 1048576: true; the input reads as it did. -/
def fnRanEndsUptoRow : OpenClaim := { program := "ytbgfclcnddgboaa", sum := "35d63605f967c0a377323561ae1f0d3cba8c31ad9f17b8a56caa5310f3d6b383", func := "loop.example/dualmodes/laws.FnRanEnds", spec := "fnRanEnds", unfollowed := true, recurses := true, apart := false, narrowed := true }
def FnRanEndsUptoSaid : Prop := fnRanEndsUptoRow.holds Try.pinned (OpenSpec.upto fnRanEndsSpec)

end Rows
end Go.Proofs.Ytbgfclcnddgboaa
