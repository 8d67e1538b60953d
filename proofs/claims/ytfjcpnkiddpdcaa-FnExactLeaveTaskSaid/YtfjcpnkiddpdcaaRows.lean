/-
  No cell of these rows narrows 'for every input' (looked for: loops, veiled, ifaces, maps, wideKeys, modest, calm, conditions, laid).
  DERIVED. THE GIVEN ROWS OF THIS SEAT. 12 by the template 'for every input the law returns true; each argument reads behind the call as it read before'; 0 by the template 'total and deterministic' (their statements: YtfjcpnkiddpdcaaTotals.lean).
  GIVEN WITH THE SEED: the statements are not yours to turn. If you find one false, say at which input.
  Laid BY PROGRAM, IN A SANDBOX (cutbox-rows.mjs): the forced cells as the released guide's own fill.sh prints them over the translation 9cb2a1501053cb2d… (all of the seat's roots in one cut). By AI agents, Wed Nov 11 2026. No macro, syntax, notation, axiom, sorry.
-/
import Derived.Test.YtfjcpnkiddpdcaaChecked
import GoSem.Claim
import GoSem.ClaimJoined
import GoSem.ClaimMapViews
import Derived.JoinedTies
import Derived.KernelRfl
namespace Go.Proofs.Ytfjcpnkiddpdcaa
/- THE CELL 'sum', in the pinned program and in every row, IS THE sha256 OF THE DUMP (.gsa) THAT YtfjcpnkiddpdcaaProg.lean LOADS. Nothing in Lean hashes anything: it is a label: what it is worth is what the hold of that sum in a sandbox is worth. -/
noncomputable def Try.pinned : Pinned := { name := "ytfjcpnkiddpdcaa", sum := "9cb2a1501053cb2d79fd9ce53ad6d9911662f8b7617701f99753b87be0fd2b1f", checked := Try.checked }
namespace Rows
def none {H : Type} : Left H := { results := [], args := [] }

/-- 'laws.FnExactRanOf': WHATEVER THE INPUT: true; the input reads as it did. -/
def fnExactRanOfSpec : ChangeSpec := { name := "fnExactRanOf", fn := fun _ => fun
  | [d1, d2] => { results := [.lit (.bool true)], args := [d1, d2] }
  | _ => none }
def fnExactRanOfRow : OpenClaim := { program := "ytfjcpnkiddpdcaa", sum := "9cb2a1501053cb2d79fd9ce53ad6d9911662f8b7617701f99753b87be0fd2b1f", func := "loop.example/dualmodes/laws.FnExactRanOf", spec := "fnExactRanOf", apart := false }
def FnExactRanOfSaid : Prop := fnExactRanOfRow.holds Try.pinned (OpenSpec.ofChange fnExactRanOfSpec)

/-- ITS FALSE NEIGHBOUR: 'it returns false'. Refute it at one input. -/
def fnExactRanOfWrong : ChangeSpec := { name := "fnExactRanOf", fn := fun _ => fun
  | [d1, d2] => { results := [.lit (.bool false)], args := [d1, d2] }
  | _ => none }
def FnExactRanOfWrongFalsely : Prop := fnExactRanOfRow.holds Try.pinned (OpenSpec.ofChange fnExactRanOfWrong)

/-- 'laws.FnExactIdleOf': WHATEVER THE INPUT: true; the input reads as it did. -/
def fnExactIdleOfSpec : ChangeSpec := { name := "fnExactIdleOf", fn := fun _ => fun
  | [d] => { results := [.lit (.bool true)], args := [d] }
  | _ => none }
def fnExactIdleOfRow : OpenClaim := { program := "ytfjcpnkiddpdcaa", sum := "9cb2a1501053cb2d79fd9ce53ad6d9911662f8b7617701f99753b87be0fd2b1f", func := "loop.example/dualmodes/laws.FnExactIdleOf", spec := "fnExactIdleOf", apart := false }
def FnExactIdleOfSaid : Prop := fnExactIdleOfRow.holds Try.pinned (OpenSpec.ofChange fnExactIdleOfSpec)

/-- ITS FALSE NEIGHBOUR: 'it returns false'. Refute it at one input. -/
def fnExactIdleOfWrong : ChangeSpec := { name := "fnExactIdleOf", fn := fun _ => fun
  | [d] => { results := [.lit (.bool false)], args := [d] }
  | _ => none }
def FnExactIdleOfWrongFalsely : Prop := fnExactIdleOfRow.holds Try.pinned (OpenSpec.ofChange fnExactIdleOfWrong)

/-- 'laws.FnExactRunSame': WHATEVER THE INPUT: true; the input reads as it did. -/
def fnExactRunSameSpec : ChangeSpec := { name := "fnExactRunSame", fn := fun _ => fun
  | [d1, d2] => { results := [.lit (.bool true)], args := [d1, d2] }
  | _ => none }
def fnExactRunSameRow : OpenClaim := { program := "ytfjcpnkiddpdcaa", sum := "9cb2a1501053cb2d79fd9ce53ad6d9911662f8b7617701f99753b87be0fd2b1f", func := "loop.example/dualmodes/laws.FnExactRunSame", spec := "fnExactRunSame", apart := false }
def FnExactRunSameSaid : Prop := fnExactRunSameRow.holds Try.pinned (OpenSpec.ofChange fnExactRunSameSpec)

/-- ITS FALSE NEIGHBOUR: 'it returns false'. Refute it at one input. -/
def fnExactRunSameWrong : ChangeSpec := { name := "fnExactRunSame", fn := fun _ => fun
  | [d1, d2] => { results := [.lit (.bool false)], args := [d1, d2] }
  | _ => none }
def FnExactRunSameWrongFalsely : Prop := fnExactRunSameRow.holds Try.pinned (OpenSpec.ofChange fnExactRunSameWrong)

/-- 'laws.FnExactDroppedOf': WHATEVER THE INPUT: true; the input reads as it did. -/
def fnExactDroppedOfSpec : ChangeSpec := { name := "fnExactDroppedOf", fn := fun _ => fun
  | [d] => { results := [.lit (.bool true)], args := [d] }
  | _ => none }
def fnExactDroppedOfRow : OpenClaim := { program := "ytfjcpnkiddpdcaa", sum := "9cb2a1501053cb2d79fd9ce53ad6d9911662f8b7617701f99753b87be0fd2b1f", func := "loop.example/dualmodes/laws.FnExactDroppedOf", spec := "fnExactDroppedOf", apart := false }
def FnExactDroppedOfSaid : Prop := fnExactDroppedOfRow.holds Try.pinned (OpenSpec.ofChange fnExactDroppedOfSpec)

/-- ITS FALSE NEIGHBOUR: 'it returns false'. Refute it at one input. -/
def fnExactDroppedOfWrong : ChangeSpec := { name := "fnExactDroppedOf", fn := fun _ => fun
  | [d] => { results := [.lit (.bool false)], args := [d] }
  | _ => none }
def FnExactDroppedOfWrongFalsely : Prop := fnExactDroppedOfRow.holds Try.pinned (OpenSpec.ofChange fnExactDroppedOfWrong)

/-- 'laws.FnExactLongestOf': WHATEVER THE INPUT: true; the input reads as it did. -/
def fnExactLongestOfSpec : ChangeSpec := { name := "fnExactLongestOf", fn := fun _ => fun
  | [d1, d2, d3] => { results := [.lit (.bool true)], args := [d1, d2, d3] }
  | _ => none }
def fnExactLongestOfRow : OpenClaim := { program := "ytfjcpnkiddpdcaa", sum := "9cb2a1501053cb2d79fd9ce53ad6d9911662f8b7617701f99753b87be0fd2b1f", func := "loop.example/dualmodes/laws.FnExactLongestOf", spec := "fnExactLongestOf", apart := false }
def FnExactLongestOfSaid : Prop := fnExactLongestOfRow.holds Try.pinned (OpenSpec.ofChange fnExactLongestOfSpec)

/-- ITS FALSE NEIGHBOUR: 'it returns false'. Refute it at one input. -/
def fnExactLongestOfWrong : ChangeSpec := { name := "fnExactLongestOf", fn := fun _ => fun
  | [d1, d2, d3] => { results := [.lit (.bool false)], args := [d1, d2, d3] }
  | _ => none }
def FnExactLongestOfWrongFalsely : Prop := fnExactLongestOfRow.holds Try.pinned (OpenSpec.ofChange fnExactLongestOfWrong)

/-- 'laws.FnExactLeaveTask': WHATEVER THE INPUT: true; the input reads as it did. -/
def fnExactLeaveTaskSpec : ChangeSpec := { name := "fnExactLeaveTask", fn := fun _ => fun
  | [d1, d2] => { results := [.lit (.bool true)], args := [d1, d2] }
  | _ => none }
def fnExactLeaveTaskRow : OpenClaim := { program := "ytfjcpnkiddpdcaa", sum := "9cb2a1501053cb2d79fd9ce53ad6d9911662f8b7617701f99753b87be0fd2b1f", func := "loop.example/dualmodes/laws.FnExactLeaveTask", spec := "fnExactLeaveTask", apart := false }
def FnExactLeaveTaskSaid : Prop := fnExactLeaveTaskRow.holds Try.pinned (OpenSpec.ofChange fnExactLeaveTaskSpec)

/-- ITS FALSE NEIGHBOUR: 'it returns false'. Refute it at one input. -/
def fnExactLeaveTaskWrong : ChangeSpec := { name := "fnExactLeaveTask", fn := fun _ => fun
  | [d1, d2] => { results := [.lit (.bool false)], args := [d1, d2] }
  | _ => none }
def FnExactLeaveTaskWrongFalsely : Prop := fnExactLeaveTaskRow.holds Try.pinned (OpenSpec.ofChange fnExactLeaveTaskWrong)

/-- 'laws.FnExactRaiseAll': WHATEVER THE INPUT: true; the input reads as it did. -/
def fnExactRaiseAllSpec : ChangeSpec := { name := "fnExactRaiseAll", fn := fun _ => fun
  | [d1, d2] => { results := [.lit (.bool true)], args := [d1, d2] }
  | _ => none }
def fnExactRaiseAllRow : OpenClaim := { program := "ytfjcpnkiddpdcaa", sum := "9cb2a1501053cb2d79fd9ce53ad6d9911662f8b7617701f99753b87be0fd2b1f", func := "loop.example/dualmodes/laws.FnExactRaiseAll", spec := "fnExactRaiseAll", apart := false }
def FnExactRaiseAllSaid : Prop := fnExactRaiseAllRow.holds Try.pinned (OpenSpec.ofChange fnExactRaiseAllSpec)

/-- ITS FALSE NEIGHBOUR: 'it returns false'. Refute it at one input. -/
def fnExactRaiseAllWrong : ChangeSpec := { name := "fnExactRaiseAll", fn := fun _ => fun
  | [d1, d2] => { results := [.lit (.bool false)], args := [d1, d2] }
  | _ => none }
def FnExactRaiseAllWrongFalsely : Prop := fnExactRaiseAllRow.holds Try.pinned (OpenSpec.ofChange fnExactRaiseAllWrong)

/-- 'laws.FnExactJobsValid': WHATEVER THE INPUT: true; the input reads as it did. -/
def fnExactJobsValidSpec : ChangeSpec := { name := "fnExactJobsValid", fn := fun _ => fun
  | [d1, d2] => { results := [.lit (.bool true)], args := [d1, d2] }
  | _ => none }
def fnExactJobsValidRow : OpenClaim := { program := "ytfjcpnkiddpdcaa", sum := "9cb2a1501053cb2d79fd9ce53ad6d9911662f8b7617701f99753b87be0fd2b1f", func := "loop.example/dualmodes/laws.FnExactJobsValid", spec := "fnExactJobsValid", apart := false }
def FnExactJobsValidSaid : Prop := fnExactJobsValidRow.holds Try.pinned (OpenSpec.ofChange fnExactJobsValidSpec)

/-- ITS FALSE NEIGHBOUR: 'it returns false'. Refute it at one input. -/
def fnExactJobsValidWrong : ChangeSpec := { name := "fnExactJobsValid", fn := fun _ => fun
  | [d1, d2] => { results := [.lit (.bool false)], args := [d1, d2] }
  | _ => none }
def FnExactJobsValidWrongFalsely : Prop := fnExactJobsValidRow.holds Try.pinned (OpenSpec.ofChange fnExactJobsValidWrong)

/-- 'laws.FnExactWorstJobs': WHATEVER THE INPUT: true; the input reads as it did. -/
def fnExactWorstJobsSpec : ChangeSpec := { name := "fnExactWorstJobs", fn := fun _ => fun
  | [d1, d2, d3] => { results := [.lit (.bool true)], args := [d1, d2, d3] }
  | _ => none }
def fnExactWorstJobsRow : OpenClaim := { program := "ytfjcpnkiddpdcaa", sum := "9cb2a1501053cb2d79fd9ce53ad6d9911662f8b7617701f99753b87be0fd2b1f", func := "loop.example/dualmodes/laws.FnExactWorstJobs", spec := "fnExactWorstJobs", apart := false }
def FnExactWorstJobsSaid : Prop := fnExactWorstJobsRow.holds Try.pinned (OpenSpec.ofChange fnExactWorstJobsSpec)

/-- ITS FALSE NEIGHBOUR: 'it returns false'. Refute it at one input. -/
def fnExactWorstJobsWrong : ChangeSpec := { name := "fnExactWorstJobs", fn := fun _ => fun
  | [d1, d2, d3] => { results := [.lit (.bool false)], args := [d1, d2, d3] }
  | _ => none }
def FnExactWorstJobsWrongFalsely : Prop := fnExactWorstJobsRow.holds Try.pinned (OpenSpec.ofChange fnExactWorstJobsWrong)

/-- 'laws.FnExactHighJobs': WHATEVER THE INPUT: true; the input reads as it did. -/
def fnExactHighJobsSpec : ChangeSpec := { name := "fnExactHighJobs", fn := fun _ => fun
  | [d1, d2] => { results := [.lit (.bool true)], args := [d1, d2] }
  | _ => none }
def fnExactHighJobsRow : OpenClaim := { program := "ytfjcpnkiddpdcaa", sum := "9cb2a1501053cb2d79fd9ce53ad6d9911662f8b7617701f99753b87be0fd2b1f", func := "loop.example/dualmodes/laws.FnExactHighJobs", spec := "fnExactHighJobs", apart := false }
def FnExactHighJobsSaid : Prop := fnExactHighJobsRow.holds Try.pinned (OpenSpec.ofChange fnExactHighJobsSpec)

/-- ITS FALSE NEIGHBOUR: 'it returns false'. Refute it at one input. -/
def fnExactHighJobsWrong : ChangeSpec := { name := "fnExactHighJobs", fn := fun _ => fun
  | [d1, d2] => { results := [.lit (.bool false)], args := [d1, d2] }
  | _ => none }
def FnExactHighJobsWrongFalsely : Prop := fnExactHighJobsRow.holds Try.pinned (OpenSpec.ofChange fnExactHighJobsWrong)

/-- 'laws.FnExactPutJob': WHATEVER THE INPUT: true; the input reads as it did. -/
def fnExactPutJobSpec : ChangeSpec := { name := "fnExactPutJob", fn := fun _ => fun
  | [d1, d2, d3] => { results := [.lit (.bool true)], args := [d1, d2, d3] }
  | _ => none }
def fnExactPutJobRow : OpenClaim := { program := "ytfjcpnkiddpdcaa", sum := "9cb2a1501053cb2d79fd9ce53ad6d9911662f8b7617701f99753b87be0fd2b1f", func := "loop.example/dualmodes/laws.FnExactPutJob", spec := "fnExactPutJob", apart := false }
def FnExactPutJobSaid : Prop := fnExactPutJobRow.holds Try.pinned (OpenSpec.ofChange fnExactPutJobSpec)

/-- ITS FALSE NEIGHBOUR: 'it returns false'. Refute it at one input. -/
def fnExactPutJobWrong : ChangeSpec := { name := "fnExactPutJob", fn := fun _ => fun
  | [d1, d2, d3] => { results := [.lit (.bool false)], args := [d1, d2, d3] }
  | _ => none }
def FnExactPutJobWrongFalsely : Prop := fnExactPutJobRow.holds Try.pinned (OpenSpec.ofChange fnExactPutJobWrong)

/-- 'laws.FnExactMissesOf': WHATEVER THE INPUT: true; the input reads as it did. -/
def fnExactMissesOfSpec : ChangeSpec := { name := "fnExactMissesOf", fn := fun _ => fun
  | [d1, d2, d3] => { results := [.lit (.bool true)], args := [d1, d2, d3] }
  | _ => none }
def fnExactMissesOfRow : OpenClaim := { program := "ytfjcpnkiddpdcaa", sum := "9cb2a1501053cb2d79fd9ce53ad6d9911662f8b7617701f99753b87be0fd2b1f", func := "loop.example/dualmodes/laws.FnExactMissesOf", spec := "fnExactMissesOf", apart := false }
def FnExactMissesOfSaid : Prop := fnExactMissesOfRow.holds Try.pinned (OpenSpec.ofChange fnExactMissesOfSpec)

/-- ITS FALSE NEIGHBOUR: 'it returns false'. Refute it at one input. -/
def fnExactMissesOfWrong : ChangeSpec := { name := "fnExactMissesOf", fn := fun _ => fun
  | [d1, d2, d3] => { results := [.lit (.bool false)], args := [d1, d2, d3] }
  | _ => none }
def FnExactMissesOfWrongFalsely : Prop := fnExactMissesOfRow.holds Try.pinned (OpenSpec.ofChange fnExactMissesOfWrong)

/- THE SECOND FORM. 'bulk': how many values and letters a reading holds, each counted each time it is reached (what is shared counts as often as it is met; a slice's spare places count too). A statement '..UptoSaid' is the law's where the arguments, and the package variables that the reading takes, are together of bulk at most 1048576: NARROWER than '..Said'. Prove '..Said' where nothing that the law and all that it calls make is longer than what came in: it says more and counts as full. Else prove '..UptoSaid'. A law counts once. -/
mutual
def uptoBulk {H : Type} : DataW H → Nat
  | .lit (.string bytes) => bytes.length + 1
  | .lit _ => 1
  | .nil => 1
  | .ptr d => uptoBulk d + 1
  | .slice elems spare => uptoBulkAll elems + uptoBulkAll spare + 1
  | .agg parts => uptoBulkAll parts + 1
  | .iface _ d => uptoBulk d + 1
  | .map entries => uptoBulkEntries entries + 1
  | .held _ => 1
def uptoBulkAll {H : Type} : List (DataW H) → Nat
  | [] => 0
  | d :: r => uptoBulk d + uptoBulkAll r
def uptoBulkEntries {H : Type} : List (Lit × DataW H) → Nat
  | [] => 0
  | x :: r => uptoBulkEntry x + uptoBulkEntries r
def uptoBulkEntry {H : Type} : Lit × DataW H → Nat
  | (.string bytes, d) => bytes.length + uptoBulk d + 1
  | (_, d) => uptoBulk d + 1
 end
def uptoSmall : (H : Type) → List (DataW H) → Bool := fun _ ds => decide (uptoBulkAll ds ≤ 1048576)
def OpenSpec.upto (s : _root_.Go.ChangeSpec) : _root_.Go.OpenSpec := { _root_.Go.OpenSpec.ofChange s with cond := some uptoSmall }

/-- 'laws.FnExactRanOf', WHERE WHAT IT READS IS OF BULK AT MOST 1048576: true; the input reads as it did. -/
def fnExactRanOfUptoRow : OpenClaim := { program := "ytfjcpnkiddpdcaa", sum := "9cb2a1501053cb2d79fd9ce53ad6d9911662f8b7617701f99753b87be0fd2b1f", func := "loop.example/dualmodes/laws.FnExactRanOf", spec := "fnExactRanOf", apart := false, narrowed := true }
def FnExactRanOfUptoSaid : Prop := fnExactRanOfUptoRow.holds Try.pinned (OpenSpec.upto fnExactRanOfSpec)

/-- 'laws.FnExactIdleOf', WHERE WHAT IT READS IS OF BULK AT MOST 1048576: true; the input reads as it did. -/
def fnExactIdleOfUptoRow : OpenClaim := { program := "ytfjcpnkiddpdcaa", sum := "9cb2a1501053cb2d79fd9ce53ad6d9911662f8b7617701f99753b87be0fd2b1f", func := "loop.example/dualmodes/laws.FnExactIdleOf", spec := "fnExactIdleOf", apart := false, narrowed := true }
def FnExactIdleOfUptoSaid : Prop := fnExactIdleOfUptoRow.holds Try.pinned (OpenSpec.upto fnExactIdleOfSpec)

/-- 'laws.FnExactRunSame', WHERE WHAT IT READS IS OF BULK AT MOST 1048576: true; the input reads as it did. -/
def fnExactRunSameUptoRow : OpenClaim := { program := "ytfjcpnkiddpdcaa", sum := "9cb2a1501053cb2d79fd9ce53ad6d9911662f8b7617701f99753b87be0fd2b1f", func := "loop.example/dualmodes/laws.FnExactRunSame", spec := "fnExactRunSame", apart := false, narrowed := true }
def FnExactRunSameUptoSaid : Prop := fnExactRunSameUptoRow.holds Try.pinned (OpenSpec.upto fnExactRunSameSpec)

/-- 'laws.FnExactDroppedOf', WHERE WHAT IT READS IS OF BULK AT MOST 1048576: true; the input reads as it did. -/
def fnExactDroppedOfUptoRow : OpenClaim := { program := "ytfjcpnkiddpdcaa", sum := "9cb2a1501053cb2d79fd9ce53ad6d9911662f8b7617701f99753b87be0fd2b1f", func := "loop.example/dualmodes/laws.FnExactDroppedOf", spec := "fnExactDroppedOf", apart := false, narrowed := true }
def FnExactDroppedOfUptoSaid : Prop := fnExactDroppedOfUptoRow.holds Try.pinned (OpenSpec.upto fnExactDroppedOfSpec)

/-- 'laws.FnExactLongestOf', WHERE WHAT IT READS IS OF BULK AT MOST 1048576: true; the input reads as it did. -/
def fnExactLongestOfUptoRow : OpenClaim := { program := "ytfjcpnkiddpdcaa", sum := "9cb2a1501053cb2d79fd9ce53ad6d9911662f8b7617701f99753b87be0fd2b1f", func := "loop.example/dualmodes/laws.FnExactLongestOf", spec := "fnExactLongestOf", apart := false, narrowed := true }
def FnExactLongestOfUptoSaid : Prop := fnExactLongestOfUptoRow.holds Try.pinned (OpenSpec.upto fnExactLongestOfSpec)

/-- 'laws.FnExactLeaveTask', WHERE WHAT IT READS IS OF BULK AT MOST 1048576: true; the input reads as it did. -/
def fnExactLeaveTaskUptoRow : OpenClaim := { program := "ytfjcpnkiddpdcaa", sum := "9cb2a1501053cb2d79fd9ce53ad6d9911662f8b7617701f99753b87be0fd2b1f", func := "loop.example/dualmodes/laws.FnExactLeaveTask", spec := "fnExactLeaveTask", apart := false, narrowed := true }
def FnExactLeaveTaskUptoSaid : Prop := fnExactLeaveTaskUptoRow.holds Try.pinned (OpenSpec.upto fnExactLeaveTaskSpec)

/-- 'laws.FnExactRaiseAll', WHERE WHAT IT READS IS OF BULK AT MOST 1048576: true; the input reads as it did. -/
def fnExactRaiseAllUptoRow : OpenClaim := { program := "ytfjcpnkiddpdcaa", sum := "9cb2a1501053cb2d79fd9ce53ad6d9911662f8b7617701f99753b87be0fd2b1f", func := "loop.example/dualmodes/laws.FnExactRaiseAll", spec := "fnExactRaiseAll", apart := false, narrowed := true }
def FnExactRaiseAllUptoSaid : Prop := fnExactRaiseAllUptoRow.holds Try.pinned (OpenSpec.upto fnExactRaiseAllSpec)

/-- 'laws.FnExactJobsValid', WHERE WHAT IT READS IS OF BULK AT MOST 1048576: true; the input reads as it did. -/
def fnExactJobsValidUptoRow : OpenClaim := { program := "ytfjcpnkiddpdcaa", sum := "9cb2a1501053cb2d79fd9ce53ad6d9911662f8b7617701f99753b87be0fd2b1f", func := "loop.example/dualmodes/laws.FnExactJobsValid", spec := "fnExactJobsValid", apart := false, narrowed := true }
def FnExactJobsValidUptoSaid : Prop := fnExactJobsValidUptoRow.holds Try.pinned (OpenSpec.upto fnExactJobsValidSpec)

/-- 'laws.FnExactWorstJobs', WHERE WHAT IT READS IS OF BULK AT MOST 1048576: true; the input reads as it did. -/
def fnExactWorstJobsUptoRow : OpenClaim := { program := "ytfjcpnkiddpdcaa", sum := "9cb2a1501053cb2d79fd9ce53ad6d9911662f8b7617701f99753b87be0fd2b1f", func := "loop.example/dualmodes/laws.FnExactWorstJobs", spec := "fnExactWorstJobs", apart := false, narrowed := true }
def FnExactWorstJobsUptoSaid : Prop := fnExactWorstJobsUptoRow.holds Try.pinned (OpenSpec.upto fnExactWorstJobsSpec)

/-- 'laws.FnExactHighJobs', WHERE WHAT IT READS IS OF BULK AT MOST 1048576: true; the input reads as it did. -/
def fnExactHighJobsUptoRow : OpenClaim := { program := "ytfjcpnkiddpdcaa", sum := "9cb2a1501053cb2d79fd9ce53ad6d9911662f8b7617701f99753b87be0fd2b1f", func := "loop.example/dualmodes/laws.FnExactHighJobs", spec := "fnExactHighJobs", apart := false, narrowed := true }
def FnExactHighJobsUptoSaid : Prop := fnExactHighJobsUptoRow.holds Try.pinned (OpenSpec.upto fnExactHighJobsSpec)

/-- 'laws.FnExactPutJob', WHERE WHAT IT READS IS OF BULK AT MOST 1048576: true; the input reads as it did. -/
def fnExactPutJobUptoRow : OpenClaim := { program := "ytfjcpnkiddpdcaa", sum := "9cb2a1501053cb2d79fd9ce53ad6d9911662f8b7617701f99753b87be0fd2b1f", func := "loop.example/dualmodes/laws.FnExactPutJob", spec := "fnExactPutJob", apart := false, narrowed := true }
def FnExactPutJobUptoSaid : Prop := fnExactPutJobUptoRow.holds Try.pinned (OpenSpec.upto fnExactPutJobSpec)

/-- 'laws.FnExactMissesOf', WHERE WHAT IT READS IS OF BULK AT MOST 1048576: true; the input reads as it did. -/
def fnExactMissesOfUptoRow : OpenClaim := { program := "ytfjcpnkiddpdcaa", sum := "9cb2a1501053cb2d79fd9ce53ad6d9911662f8b7617701f99753b87be0fd2b1f", func := "loop.example/dualmodes/laws.FnExactMissesOf", spec := "fnExactMissesOf", apart := false, narrowed := true }
def FnExactMissesOfUptoSaid : Prop := fnExactMissesOfUptoRow.holds Try.pinned (OpenSpec.upto fnExactMissesOfSpec)

end Rows
end Go.Proofs.Ytfjcpnkiddpdcaa
