/-
  No cell of these rows narrows 'for every input' (looked for: loops, veiled, ifaces, maps, wideKeys, modest, calm, conditions, laid).
  DERIVED. THE GIVEN ROWS OF THIS SEAT. 12 by the template 'for every input the law returns true; each argument reads behind the call as it read before'; 0 by the template 'total and deterministic' (their statements: YtchpfpekkgbehaaTotals.lean).
  GIVEN WITH THE SEED: the statements are not yours to turn. If you find one false, say at which input.
  Laid BY PROGRAM, IN A SANDBOX (cutbox-rows.mjs): the forced cells as the released guide's own fill.sh prints them over the translation 0c478a22aa931459… (all of the seat's roots in one cut). By AI agents, Wed Nov 11 2026. No macro, syntax, notation, axiom, sorry.
-/
import Derived.Test.YtchpfpekkgbehaaChecked
import GoSem.Claim
import GoSem.ClaimJoined
import GoSem.ClaimMapViews
import Derived.JoinedTies
import Derived.KernelRfl
namespace Go.Proofs.Ytchpfpekkgbehaa
/- THE CELL 'sum', in the pinned program and in every row, IS THE sha256 OF THE DUMP (.gsa) THAT YtchpfpekkgbehaaProg.lean LOADS. Nothing in Lean hashes anything: it is a label: what it is worth is what the hold of that sum in a sandbox is worth. -/
noncomputable def Try.pinned : Pinned := { name := "ytchpfpekkgbehaa", sum := "0c478a22aa93145910b9c53f02e4c71aee881350636eb6a6f8dcd37671c24b63", checked := Try.checked }
namespace Rows
def none {H : Type} : Left H := { results := [], args := [] }

/-- 'laws.FnRunNoJobs': WHATEVER THE INPUT: true; the input reads as it did. -/
def fnRunNoJobsSpec : ChangeSpec := { name := "fnRunNoJobs", fn := fun _ => fun
  | [d] => { results := [.lit (.bool true)], args := [d] }
  | _ => none }
def fnRunNoJobsRow : OpenClaim := { program := "ytchpfpekkgbehaa", sum := "0c478a22aa93145910b9c53f02e4c71aee881350636eb6a6f8dcd37671c24b63", func := "loop.example/dualmodes/laws.FnRunNoJobs", spec := "fnRunNoJobs", unfollowed := true, recurses := true, apart := false }
def FnRunNoJobsSaid : Prop := fnRunNoJobsRow.holds Try.pinned (OpenSpec.ofChange fnRunNoJobsSpec)

/-- ITS FALSE NEIGHBOUR: 'it returns false'. Refute it at one input. -/
def fnRunNoJobsWrong : ChangeSpec := { name := "fnRunNoJobs", fn := fun _ => fun
  | [d] => { results := [.lit (.bool false)], args := [d] }
  | _ => none }
def FnRunNoJobsWrongFalsely : Prop := fnRunNoJobsRow.holds Try.pinned (OpenSpec.ofChange fnRunNoJobsWrong)

/-- 'laws.FnRunPart': WHATEVER THE INPUT: true; the input reads as it did. -/
def fnRunPartSpec : ChangeSpec := { name := "fnRunPart", fn := fun _ => fun
  | [d] => { results := [.lit (.bool true)], args := [d] }
  | _ => none }
def fnRunPartRow : OpenClaim := { program := "ytchpfpekkgbehaa", sum := "0c478a22aa93145910b9c53f02e4c71aee881350636eb6a6f8dcd37671c24b63", func := "loop.example/dualmodes/laws.FnRunPart", spec := "fnRunPart", unfollowed := true, recurses := true, apart := false }
def FnRunPartSaid : Prop := fnRunPartRow.holds Try.pinned (OpenSpec.ofChange fnRunPartSpec)

/-- ITS FALSE NEIGHBOUR: 'it returns false'. Refute it at one input. -/
def fnRunPartWrong : ChangeSpec := { name := "fnRunPart", fn := fun _ => fun
  | [d] => { results := [.lit (.bool false)], args := [d] }
  | _ => none }
def FnRunPartWrongFalsely : Prop := fnRunPartRow.holds Try.pinned (OpenSpec.ofChange fnRunPartWrong)

/-- 'laws.FnMissesLater': WHATEVER THE INPUT: true; the input reads as it did. -/
def fnMissesLaterSpec : ChangeSpec := { name := "fnMissesLater", fn := fun _ => fun
  | [d] => { results := [.lit (.bool true)], args := [d] }
  | _ => none }
def fnMissesLaterRow : OpenClaim := { program := "ytchpfpekkgbehaa", sum := "0c478a22aa93145910b9c53f02e4c71aee881350636eb6a6f8dcd37671c24b63", func := "loop.example/dualmodes/laws.FnMissesLater", spec := "fnMissesLater", unfollowed := true, recurses := true, apart := false }
def FnMissesLaterSaid : Prop := fnMissesLaterRow.holds Try.pinned (OpenSpec.ofChange fnMissesLaterSpec)

/-- ITS FALSE NEIGHBOUR: 'it returns false'. Refute it at one input. -/
def fnMissesLaterWrong : ChangeSpec := { name := "fnMissesLater", fn := fun _ => fun
  | [d] => { results := [.lit (.bool false)], args := [d] }
  | _ => none }
def FnMissesLaterWrongFalsely : Prop := fnMissesLaterRow.holds Try.pinned (OpenSpec.ofChange fnMissesLaterWrong)

/-- 'laws.FnRunLow': WHATEVER THE INPUT: true; the input reads as it did. -/
def fnRunLowSpec : ChangeSpec := { name := "fnRunLow", fn := fun _ => fun
  | [d] => { results := [.lit (.bool true)], args := [d] }
  | _ => none }
def fnRunLowRow : OpenClaim := { program := "ytchpfpekkgbehaa", sum := "0c478a22aa93145910b9c53f02e4c71aee881350636eb6a6f8dcd37671c24b63", func := "loop.example/dualmodes/laws.FnRunLow", spec := "fnRunLow", unfollowed := true, recurses := true, apart := false }
def FnRunLowSaid : Prop := fnRunLowRow.holds Try.pinned (OpenSpec.ofChange fnRunLowSpec)

/-- ITS FALSE NEIGHBOUR: 'it returns false'. Refute it at one input. -/
def fnRunLowWrong : ChangeSpec := { name := "fnRunLow", fn := fun _ => fun
  | [d] => { results := [.lit (.bool false)], args := [d] }
  | _ => none }
def FnRunLowWrongFalsely : Prop := fnRunLowRow.holds Try.pinned (OpenSpec.ofChange fnRunLowWrong)

/-- 'laws.FnRunTicks': WHATEVER THE INPUT: true; the input reads as it did. -/
def fnRunTicksSpec : ChangeSpec := { name := "fnRunTicks", fn := fun _ => fun
  | [d] => { results := [.lit (.bool true)], args := [d] }
  | _ => none }
def fnRunTicksRow : OpenClaim := { program := "ytchpfpekkgbehaa", sum := "0c478a22aa93145910b9c53f02e4c71aee881350636eb6a6f8dcd37671c24b63", func := "loop.example/dualmodes/laws.FnRunTicks", spec := "fnRunTicks", unfollowed := true, recurses := true, apart := false }
def FnRunTicksSaid : Prop := fnRunTicksRow.holds Try.pinned (OpenSpec.ofChange fnRunTicksSpec)

/-- ITS FALSE NEIGHBOUR: 'it returns false'. Refute it at one input. -/
def fnRunTicksWrong : ChangeSpec := { name := "fnRunTicks", fn := fun _ => fun
  | [d] => { results := [.lit (.bool false)], args := [d] }
  | _ => none }
def FnRunTicksWrongFalsely : Prop := fnRunTicksRow.holds Try.pinned (OpenSpec.ofChange fnRunTicksWrong)

/-- 'laws.FnLongestOf': WHATEVER THE INPUT: true; the input reads as it did. -/
def fnLongestOfSpec : ChangeSpec := { name := "fnLongestOf", fn := fun _ => fun
  | [d] => { results := [.lit (.bool true)], args := [d] }
  | _ => none }
def fnLongestOfRow : OpenClaim := { program := "ytchpfpekkgbehaa", sum := "0c478a22aa93145910b9c53f02e4c71aee881350636eb6a6f8dcd37671c24b63", func := "loop.example/dualmodes/laws.FnLongestOf", spec := "fnLongestOf", apart := false }
def FnLongestOfSaid : Prop := fnLongestOfRow.holds Try.pinned (OpenSpec.ofChange fnLongestOfSpec)

/-- ITS FALSE NEIGHBOUR: 'it returns false'. Refute it at one input. -/
def fnLongestOfWrong : ChangeSpec := { name := "fnLongestOf", fn := fun _ => fun
  | [d] => { results := [.lit (.bool false)], args := [d] }
  | _ => none }
def FnLongestOfWrongFalsely : Prop := fnLongestOfRow.holds Try.pinned (OpenSpec.ofChange fnLongestOfWrong)

/-- 'laws.FnDroppedOf': WHATEVER THE INPUT: true; the input reads as it did. -/
def fnDroppedOfSpec : ChangeSpec := { name := "fnDroppedOf", fn := fun _ => fun
  | [d] => { results := [.lit (.bool true)], args := [d] }
  | _ => none }
def fnDroppedOfRow : OpenClaim := { program := "ytchpfpekkgbehaa", sum := "0c478a22aa93145910b9c53f02e4c71aee881350636eb6a6f8dcd37671c24b63", func := "loop.example/dualmodes/laws.FnDroppedOf", spec := "fnDroppedOf", apart := false }
def FnDroppedOfSaid : Prop := fnDroppedOfRow.holds Try.pinned (OpenSpec.ofChange fnDroppedOfSpec)

/-- ITS FALSE NEIGHBOUR: 'it returns false'. Refute it at one input. -/
def fnDroppedOfWrong : ChangeSpec := { name := "fnDroppedOf", fn := fun _ => fun
  | [d] => { results := [.lit (.bool false)], args := [d] }
  | _ => none }
def FnDroppedOfWrongFalsely : Prop := fnDroppedOfRow.holds Try.pinned (OpenSpec.ofChange fnDroppedOfWrong)

/-- 'laws.FnMissesOf': WHATEVER THE INPUT: true; the input reads as it did. -/
def fnMissesOfSpec : ChangeSpec := { name := "fnMissesOf", fn := fun _ => fun
  | [d] => { results := [.lit (.bool true)], args := [d] }
  | _ => none }
def fnMissesOfRow : OpenClaim := { program := "ytchpfpekkgbehaa", sum := "0c478a22aa93145910b9c53f02e4c71aee881350636eb6a6f8dcd37671c24b63", func := "loop.example/dualmodes/laws.FnMissesOf", spec := "fnMissesOf", apart := false }
def FnMissesOfSaid : Prop := fnMissesOfRow.holds Try.pinned (OpenSpec.ofChange fnMissesOfSpec)

/-- ITS FALSE NEIGHBOUR: 'it returns false'. Refute it at one input. -/
def fnMissesOfWrong : ChangeSpec := { name := "fnMissesOf", fn := fun _ => fun
  | [d] => { results := [.lit (.bool false)], args := [d] }
  | _ => none }
def FnMissesOfWrongFalsely : Prop := fnMissesOfRow.holds Try.pinned (OpenSpec.ofChange fnMissesOfWrong)

/-- 'laws.FnLongestNeed': WHATEVER THE INPUT: true; the input reads as it did. -/
def fnLongestNeedSpec : ChangeSpec := { name := "fnLongestNeed", fn := fun _ => fun
  | [d] => { results := [.lit (.bool true)], args := [d] }
  | _ => none }
def fnLongestNeedRow : OpenClaim := { program := "ytchpfpekkgbehaa", sum := "0c478a22aa93145910b9c53f02e4c71aee881350636eb6a6f8dcd37671c24b63", func := "loop.example/dualmodes/laws.FnLongestNeed", spec := "fnLongestNeed", apart := false }
def FnLongestNeedSaid : Prop := fnLongestNeedRow.holds Try.pinned (OpenSpec.ofChange fnLongestNeedSpec)

/-- ITS FALSE NEIGHBOUR: 'it returns false'. Refute it at one input. -/
def fnLongestNeedWrong : ChangeSpec := { name := "fnLongestNeed", fn := fun _ => fun
  | [d] => { results := [.lit (.bool false)], args := [d] }
  | _ => none }
def FnLongestNeedWrongFalsely : Prop := fnLongestNeedRow.holds Try.pinned (OpenSpec.ofChange fnLongestNeedWrong)

/-- 'laws.FnRunResponse': WHATEVER THE INPUT: true; the input reads as it did. -/
def fnRunResponseSpec : ChangeSpec := { name := "fnRunResponse", fn := fun _ => fun
  | [d] => { results := [.lit (.bool true)], args := [d] }
  | _ => none }
def fnRunResponseRow : OpenClaim := { program := "ytchpfpekkgbehaa", sum := "0c478a22aa93145910b9c53f02e4c71aee881350636eb6a6f8dcd37671c24b63", func := "loop.example/dualmodes/laws.FnRunResponse", spec := "fnRunResponse", unfollowed := true, recurses := true, apart := false }
def FnRunResponseSaid : Prop := fnRunResponseRow.holds Try.pinned (OpenSpec.ofChange fnRunResponseSpec)

/-- ITS FALSE NEIGHBOUR: 'it returns false'. Refute it at one input. -/
def fnRunResponseWrong : ChangeSpec := { name := "fnRunResponse", fn := fun _ => fun
  | [d] => { results := [.lit (.bool false)], args := [d] }
  | _ => none }
def FnRunResponseWrongFalsely : Prop := fnRunResponseRow.holds Try.pinned (OpenSpec.ofChange fnRunResponseWrong)

/-- 'laws.FnRunWorstLow': WHATEVER THE INPUT: true; the input reads as it did. -/
def fnRunWorstLowSpec : ChangeSpec := { name := "fnRunWorstLow", fn := fun _ => fun
  | [d] => { results := [.lit (.bool true)], args := [d] }
  | _ => none }
def fnRunWorstLowRow : OpenClaim := { program := "ytchpfpekkgbehaa", sum := "0c478a22aa93145910b9c53f02e4c71aee881350636eb6a6f8dcd37671c24b63", func := "loop.example/dualmodes/laws.FnRunWorstLow", spec := "fnRunWorstLow", unfollowed := true, recurses := true, apart := false }
def FnRunWorstLowSaid : Prop := fnRunWorstLowRow.holds Try.pinned (OpenSpec.ofChange fnRunWorstLowSpec)

/-- ITS FALSE NEIGHBOUR: 'it returns false'. Refute it at one input. -/
def fnRunWorstLowWrong : ChangeSpec := { name := "fnRunWorstLow", fn := fun _ => fun
  | [d] => { results := [.lit (.bool false)], args := [d] }
  | _ => none }
def FnRunWorstLowWrongFalsely : Prop := fnRunWorstLowRow.holds Try.pinned (OpenSpec.ofChange fnRunWorstLowWrong)

/-- 'laws.FnRunSwitchBound': WHATEVER THE INPUT: true; the input reads as it did. -/
def fnRunSwitchBoundSpec : ChangeSpec := { name := "fnRunSwitchBound", fn := fun _ => fun
  | [d] => { results := [.lit (.bool true)], args := [d] }
  | _ => none }
def fnRunSwitchBoundRow : OpenClaim := { program := "ytchpfpekkgbehaa", sum := "0c478a22aa93145910b9c53f02e4c71aee881350636eb6a6f8dcd37671c24b63", func := "loop.example/dualmodes/laws.FnRunSwitchBound", spec := "fnRunSwitchBound", unfollowed := true, recurses := true, apart := false }
def FnRunSwitchBoundSaid : Prop := fnRunSwitchBoundRow.holds Try.pinned (OpenSpec.ofChange fnRunSwitchBoundSpec)

/-- ITS FALSE NEIGHBOUR: 'it returns false'. Refute it at one input. -/
def fnRunSwitchBoundWrong : ChangeSpec := { name := "fnRunSwitchBound", fn := fun _ => fun
  | [d] => { results := [.lit (.bool false)], args := [d] }
  | _ => none }
def FnRunSwitchBoundWrongFalsely : Prop := fnRunSwitchBoundRow.holds Try.pinned (OpenSpec.ofChange fnRunSwitchBoundWrong)

/- THE SECOND FORM. 'bulk': how many values and letters a reading holds, each counted each time it is reached (what is shared counts as often as it is met; a slice's spare places count too). A statement '..UptoSaid' is the law's where the arguments, and the package variables that the reading takes, are together of bulk at most 1048576: NARROWER than '..Said'. Prove '..Said' where nothing that the law and all that it calls make is longer than what came in: it says more and counts as full. Else prove '..UptoSaid'. A law counts once. -/
mutual
def uptoBulk {H : Type} : DataW H → Nat
  | .lit (.string bytes) => bytes.length + 1
  | .lit _ => 1
  | .nil => 1
  | .ptr d => uptoBulk d + 1
  | .slice elems spare => uptoBulkAll elems + uptoBulkAll spare + 1
  | .agg parts => uptoBulkAll parts + 1
  | .iface _ d => uptoBulk d + 1
  | .map entries => uptoBulkEntries entries + 1
  | .held _ => 1
def uptoBulkAll {H : Type} : List (DataW H) → Nat
  | [] => 0
  | d :: r => uptoBulk d + uptoBulkAll r
def uptoBulkEntries {H : Type} : List (Lit × DataW H) → Nat
  | [] => 0
  | x :: r => uptoBulkEntry x + uptoBulkEntries r
def uptoBulkEntry {H : Type} : Lit × DataW H → Nat
  | (.string bytes, d) => bytes.length + uptoBulk d + 1
  | (_, d) => uptoBulk d + 1
 end
def uptoSmall : (H : Type) → List (DataW H) → Bool := fun _ ds => decide (uptoBulkAll ds ≤ 1048576)
def OpenSpec.upto (s : _root_.Go.ChangeSpec) : _root_.Go.OpenSpec := { _root_.Go.OpenSpec.ofChange s with cond := some uptoSmall }

/-- 'laws.FnRunNoJobs', WHERE WHAT IT READS IS OF BULK AT MOST 1048576: true; the input reads as it did. -/
def fnRunNoJobsUptoRow : OpenClaim := { program := "ytchpfpekkgbehaa", sum := "0c478a22aa93145910b9c53f02e4c71aee881350636eb6a6f8dcd37671c24b63", func := "loop.example/dualmodes/laws.FnRunNoJobs", spec := "fnRunNoJobs", unfollowed := true, recurses := true, apart := false, narrowed := true }
def FnRunNoJobsUptoSaid : Prop := fnRunNoJobsUptoRow.holds Try.pinned (OpenSpec.upto fnRunNoJobsSpec)

/-- 'laws.FnRunPart', WHERE WHAT IT READS IS OF BULK AT MOST 1048576: true; the input reads as it did. -/
def fnRunPartUptoRow : OpenClaim := { program := "ytchpfpekkgbehaa", sum := "0c478a22aa93145910b9c53f02e4c71aee881350636eb6a6f8dcd37671c24b63", func := "loop.example/dualmodes/laws.FnRunPart", spec := "fnRunPart", unfollowed := true, recurses := true, apart := false, narrowed := true }
def FnRunPartUptoSaid : Prop := fnRunPartUptoRow.holds Try.pinned (OpenSpec.upto fnRunPartSpec)

/-- 'laws.FnMissesLater', WHERE WHAT IT READS IS OF BULK AT MOST 1048576: true; the input reads as it did. -/
def fnMissesLaterUptoRow : OpenClaim := { program := "ytchpfpekkgbehaa", sum := "0c478a22aa93145910b9c53f02e4c71aee881350636eb6a6f8dcd37671c24b63", func := "loop.example/dualmodes/laws.FnMissesLater", spec := "fnMissesLater", unfollowed := true, recurses := true, apart := false, narrowed := true }
def FnMissesLaterUptoSaid : Prop := fnMissesLaterUptoRow.holds Try.pinned (OpenSpec.upto fnMissesLaterSpec)

/-- 'laws.FnRunLow', WHERE WHAT IT READS IS OF BULK AT MOST 1048576: true; the input reads as it did. -/
def fnRunLowUptoRow : OpenClaim := { program := "ytchpfpekkgbehaa", sum := "0c478a22aa93145910b9c53f02e4c71aee881350636eb6a6f8dcd37671c24b63", func := "loop.example/dualmodes/laws.FnRunLow", spec := "fnRunLow", unfollowed := true, recurses := true, apart := false, narrowed := true }
def FnRunLowUptoSaid : Prop := fnRunLowUptoRow.holds Try.pinned (OpenSpec.upto fnRunLowSpec)

/-- 'laws.FnRunTicks', WHERE WHAT IT READS IS OF BULK AT MOST 1048576: true; the input reads as it did. -/
def fnRunTicksUptoRow : OpenClaim := { program := "ytchpfpekkgbehaa", sum := "0c478a22aa93145910b9c53f02e4c71aee881350636eb6a6f8dcd37671c24b63", func := "loop.example/dualmodes/laws.FnRunTicks", spec := "fnRunTicks", unfollowed := true, recurses := true, apart := false, narrowed := true }
def FnRunTicksUptoSaid : Prop := fnRunTicksUptoRow.holds Try.pinned (OpenSpec.upto fnRunTicksSpec)

/-- 'laws.FnLongestOf', WHERE WHAT IT READS IS OF BULK AT MOST 1048576: true; the input reads as it did. -/
def fnLongestOfUptoRow : OpenClaim := { program := "ytchpfpekkgbehaa", sum := "0c478a22aa93145910b9c53f02e4c71aee881350636eb6a6f8dcd37671c24b63", func := "loop.example/dualmodes/laws.FnLongestOf", spec := "fnLongestOf", apart := false, narrowed := true }
def FnLongestOfUptoSaid : Prop := fnLongestOfUptoRow.holds Try.pinned (OpenSpec.upto fnLongestOfSpec)

/-- 'laws.FnDroppedOf', WHERE WHAT IT READS IS OF BULK AT MOST 1048576: true; the input reads as it did. -/
def fnDroppedOfUptoRow : OpenClaim := { program := "ytchpfpekkgbehaa", sum := "0c478a22aa93145910b9c53f02e4c71aee881350636eb6a6f8dcd37671c24b63", func := "loop.example/dualmodes/laws.FnDroppedOf", spec := "fnDroppedOf", apart := false, narrowed := true }
def FnDroppedOfUptoSaid : Prop := fnDroppedOfUptoRow.holds Try.pinned (OpenSpec.upto fnDroppedOfSpec)

/-- 'laws.FnMissesOf', WHERE WHAT IT READS IS OF BULK AT MOST 1048576: true; the input reads as it did. -/
def fnMissesOfUptoRow : OpenClaim := { program := "ytchpfpekkgbehaa", sum := "0c478a22aa93145910b9c53f02e4c71aee881350636eb6a6f8dcd37671c24b63", func := "loop.example/dualmodes/laws.FnMissesOf", spec := "fnMissesOf", apart := false, narrowed := true }
def FnMissesOfUptoSaid : Prop := fnMissesOfUptoRow.holds Try.pinned (OpenSpec.upto fnMissesOfSpec)

/-- 'laws.FnLongestNeed', WHERE WHAT IT READS IS OF BULK AT MOST 1048576: true; the input reads as it did. -/
def fnLongestNeedUptoRow : OpenClaim := { program := "ytchpfpekkgbehaa", sum := "0c478a22aa93145910b9c53f02e4c71aee881350636eb6a6f8dcd37671c24b63", func := "loop.example/dualmodes/laws.FnLongestNeed", spec := "fnLongestNeed", apart := false, narrowed := true }
def FnLongestNeedUptoSaid : Prop := fnLongestNeedUptoRow.holds Try.pinned (OpenSpec.upto fnLongestNeedSpec)

/-- 'laws.FnRunResponse', WHERE WHAT IT READS IS OF BULK AT MOST 1048576: true; the input reads as it did. -/
def fnRunResponseUptoRow : OpenClaim := { program := "ytchpfpekkgbehaa", sum := "0c478a22aa93145910b9c53f02e4c71aee881350636eb6a6f8dcd37671c24b63", func := "loop.example/dualmodes/laws.FnRunResponse", spec := "fnRunResponse", unfollowed := true, recurses := true, apart := false, narrowed := true }
def FnRunResponseUptoSaid : Prop := fnRunResponseUptoRow.holds Try.pinned (OpenSpec.upto fnRunResponseSpec)

/-- 'laws.FnRunWorstLow', WHERE WHAT IT READS IS OF BULK AT MOST 1048576: true; the input reads as it did. -/
def fnRunWorstLowUptoRow : OpenClaim := { program := "ytchpfpekkgbehaa", sum := "0c478a22aa93145910b9c53f02e4c71aee881350636eb6a6f8dcd37671c24b63", func := "loop.example/dualmodes/laws.FnRunWorstLow", spec := "fnRunWorstLow", unfollowed := true, recurses := true, apart := false, narrowed := true }
def FnRunWorstLowUptoSaid : Prop := fnRunWorstLowUptoRow.holds Try.pinned (OpenSpec.upto fnRunWorstLowSpec)

/-- 'laws.FnRunSwitchBound', WHERE WHAT IT READS IS OF BULK AT MOST 1048576: true; the input reads as it did. -/
def fnRunSwitchBoundUptoRow : OpenClaim := { program := "ytchpfpekkgbehaa", sum := "0c478a22aa93145910b9c53f02e4c71aee881350636eb6a6f8dcd37671c24b63", func := "loop.example/dualmodes/laws.FnRunSwitchBound", spec := "fnRunSwitchBound", unfollowed := true, recurses := true, apart := false, narrowed := true }
def FnRunSwitchBoundUptoSaid : Prop := fnRunSwitchBoundUptoRow.holds Try.pinned (OpenSpec.upto fnRunSwitchBoundSpec)

end Rows
end Go.Proofs.Ytchpfpekkgbehaa
