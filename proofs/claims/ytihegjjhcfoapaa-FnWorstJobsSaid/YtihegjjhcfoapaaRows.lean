/-
  No cell of these rows narrows 'for every input' (looked for: loops, veiled, ifaces, maps, wideKeys, modest, calm, conditions, laid).
  DERIVED. THE GIVEN ROWS OF THIS SEAT. 12 by the template 'for every input the law returns true; each argument reads behind the call as it read before'; 0 by the template 'total and deterministic' (their statements: YtihegjjhcfoapaaTotals.lean).
  GIVEN WITH THE SEED: the statements are not yours to turn. If you find one false, say at which input.
  Laid BY PROGRAM, IN A SANDBOX (cutbox-rows.mjs): the forced cells as the released guide's own fill.sh prints them over the translation e310c231a258bb34… (all of the seat's roots in one cut). By AI agents, Wed Nov 11 2026. No macro, syntax, notation, axiom, sorry.
-/
import Derived.Test.YtihegjjhcfoapaaChecked
import GoSem.Claim
import GoSem.ClaimJoined
import GoSem.ClaimMapViews
import Derived.JoinedTies
import Derived.KernelRfl
namespace Go.Proofs.Ytihegjjhcfoapaa
/- THE CELL 'sum', in the pinned program and in every row, IS THE sha256 OF THE DUMP (.gsa) THAT YtihegjjhcfoapaaProg.lean LOADS. Nothing in Lean hashes anything: it is a label: what it is worth is what the hold of that sum in a sandbox is worth. -/
noncomputable def Try.pinned : Pinned := { name := "ytihegjjhcfoapaa", sum := "e310c231a258bb34deb8d2f17c4e7c5af06d70bf79da2d5d14d67a0a0ec3f04f", checked := Try.checked }
namespace Rows
def none {H : Type} : Left H := { results := [], args := [] }

/-- 'laws.FnRaiseNone': WHATEVER THE INPUT: true; the input reads as it did. -/
def fnRaiseNoneSpec : ChangeSpec := { name := "fnRaiseNone", fn := fun _ => fun
  | [d] => { results := [.lit (.bool true)], args := [d] }
  | _ => none }
def fnRaiseNoneRow : OpenClaim := { program := "ytihegjjhcfoapaa", sum := "e310c231a258bb34deb8d2f17c4e7c5af06d70bf79da2d5d14d67a0a0ec3f04f", func := "loop.example/dualmodes/laws.FnRaiseNone", spec := "fnRaiseNone", apart := false }
def FnRaiseNoneSaid : Prop := fnRaiseNoneRow.holds Try.pinned (OpenSpec.ofChange fnRaiseNoneSpec)

/-- ITS FALSE NEIGHBOUR: 'it returns false'. Refute it at one input. -/
def fnRaiseNoneWrong : ChangeSpec := { name := "fnRaiseNone", fn := fun _ => fun
  | [d] => { results := [.lit (.bool false)], args := [d] }
  | _ => none }
def FnRaiseNoneWrongFalsely : Prop := fnRaiseNoneRow.holds Try.pinned (OpenSpec.ofChange fnRaiseNoneWrong)

/-- 'laws.FnWorstHigh': WHATEVER THE INPUT: true; the input reads as it did. -/
def fnWorstHighSpec : ChangeSpec := { name := "fnWorstHigh", fn := fun _ => fun
  | [d] => { results := [.lit (.bool true)], args := [d] }
  | _ => none }
def fnWorstHighRow : OpenClaim := { program := "ytihegjjhcfoapaa", sum := "e310c231a258bb34deb8d2f17c4e7c5af06d70bf79da2d5d14d67a0a0ec3f04f", func := "loop.example/dualmodes/laws.FnWorstHigh", spec := "fnWorstHigh", apart := false }
def FnWorstHighSaid : Prop := fnWorstHighRow.holds Try.pinned (OpenSpec.ofChange fnWorstHighSpec)

/-- ITS FALSE NEIGHBOUR: 'it returns false'. Refute it at one input. -/
def fnWorstHighWrong : ChangeSpec := { name := "fnWorstHigh", fn := fun _ => fun
  | [d] => { results := [.lit (.bool false)], args := [d] }
  | _ => none }
def FnWorstHighWrongFalsely : Prop := fnWorstHighRow.holds Try.pinned (OpenSpec.ofChange fnWorstHighWrong)

/-- 'laws.FnJobsOrder': WHATEVER THE INPUT: true; the input reads as it did. -/
def fnJobsOrderSpec : ChangeSpec := { name := "fnJobsOrder", fn := fun _ => fun
  | [d] => { results := [.lit (.bool true)], args := [d] }
  | _ => none }
def fnJobsOrderRow : OpenClaim := { program := "ytihegjjhcfoapaa", sum := "e310c231a258bb34deb8d2f17c4e7c5af06d70bf79da2d5d14d67a0a0ec3f04f", func := "loop.example/dualmodes/laws.FnJobsOrder", spec := "fnJobsOrder", apart := false }
def FnJobsOrderSaid : Prop := fnJobsOrderRow.holds Try.pinned (OpenSpec.ofChange fnJobsOrderSpec)

/-- ITS FALSE NEIGHBOUR: 'it returns false'. Refute it at one input. -/
def fnJobsOrderWrong : ChangeSpec := { name := "fnJobsOrder", fn := fun _ => fun
  | [d] => { results := [.lit (.bool false)], args := [d] }
  | _ => none }
def FnJobsOrderWrongFalsely : Prop := fnJobsOrderRow.holds Try.pinned (OpenSpec.ofChange fnJobsOrderWrong)

/-- 'laws.FnJobsTurned': WHATEVER THE INPUT: true; the input reads as it did. -/
def fnJobsTurnedSpec : ChangeSpec := { name := "fnJobsTurned", fn := fun _ => fun
  | [d] => { results := [.lit (.bool true)], args := [d] }
  | _ => none }
def fnJobsTurnedRow : OpenClaim := { program := "ytihegjjhcfoapaa", sum := "e310c231a258bb34deb8d2f17c4e7c5af06d70bf79da2d5d14d67a0a0ec3f04f", func := "loop.example/dualmodes/laws.FnJobsTurned", spec := "fnJobsTurned", apart := false }
def FnJobsTurnedSaid : Prop := fnJobsTurnedRow.holds Try.pinned (OpenSpec.ofChange fnJobsTurnedSpec)

/-- ITS FALSE NEIGHBOUR: 'it returns false'. Refute it at one input. -/
def fnJobsTurnedWrong : ChangeSpec := { name := "fnJobsTurned", fn := fun _ => fun
  | [d] => { results := [.lit (.bool false)], args := [d] }
  | _ => none }
def FnJobsTurnedWrongFalsely : Prop := fnJobsTurnedRow.holds Try.pinned (OpenSpec.ofChange fnJobsTurnedWrong)

/-- 'laws.FnDueAt': WHATEVER THE INPUT: true; the input reads as it did. -/
def fnDueAtSpec : ChangeSpec := { name := "fnDueAt", fn := fun _ => fun
  | [d] => { results := [.lit (.bool true)], args := [d] }
  | _ => none }
def fnDueAtRow : OpenClaim := { program := "ytihegjjhcfoapaa", sum := "e310c231a258bb34deb8d2f17c4e7c5af06d70bf79da2d5d14d67a0a0ec3f04f", func := "loop.example/dualmodes/laws.FnDueAt", spec := "fnDueAt", apart := false }
def FnDueAtSaid : Prop := fnDueAtRow.holds Try.pinned (OpenSpec.ofChange fnDueAtSpec)

/-- ITS FALSE NEIGHBOUR: 'it returns false'. Refute it at one input. -/
def fnDueAtWrong : ChangeSpec := { name := "fnDueAt", fn := fun _ => fun
  | [d] => { results := [.lit (.bool false)], args := [d] }
  | _ => none }
def FnDueAtWrongFalsely : Prop := fnDueAtRow.holds Try.pinned (OpenSpec.ofChange fnDueAtWrong)

/-- 'laws.FnNeedNone': WHATEVER THE INPUT: true; the input reads as it did. -/
def fnNeedNoneSpec : ChangeSpec := { name := "fnNeedNone", fn := fun _ => fun
  | [d] => { results := [.lit (.bool true)], args := [d] }
  | _ => none }
def fnNeedNoneRow : OpenClaim := { program := "ytihegjjhcfoapaa", sum := "e310c231a258bb34deb8d2f17c4e7c5af06d70bf79da2d5d14d67a0a0ec3f04f", func := "loop.example/dualmodes/laws.FnNeedNone", spec := "fnNeedNone", apart := false }
def FnNeedNoneSaid : Prop := fnNeedNoneRow.holds Try.pinned (OpenSpec.ofChange fnNeedNoneSpec)

/-- ITS FALSE NEIGHBOUR: 'it returns false'. Refute it at one input. -/
def fnNeedNoneWrong : ChangeSpec := { name := "fnNeedNone", fn := fun _ => fun
  | [d] => { results := [.lit (.bool false)], args := [d] }
  | _ => none }
def FnNeedNoneWrongFalsely : Prop := fnNeedNoneRow.holds Try.pinned (OpenSpec.ofChange fnNeedNoneWrong)

/-- 'laws.FnWorstJobs': WHATEVER THE INPUT: true; the input reads as it did. -/
def fnWorstJobsSpec : ChangeSpec := { name := "fnWorstJobs", fn := fun _ => fun
  | [d] => { results := [.lit (.bool true)], args := [d] }
  | _ => none }
def fnWorstJobsRow : OpenClaim := { program := "ytihegjjhcfoapaa", sum := "e310c231a258bb34deb8d2f17c4e7c5af06d70bf79da2d5d14d67a0a0ec3f04f", func := "loop.example/dualmodes/laws.FnWorstJobs", spec := "fnWorstJobs", apart := false }
def FnWorstJobsSaid : Prop := fnWorstJobsRow.holds Try.pinned (OpenSpec.ofChange fnWorstJobsSpec)

/-- ITS FALSE NEIGHBOUR: 'it returns false'. Refute it at one input. -/
def fnWorstJobsWrong : ChangeSpec := { name := "fnWorstJobs", fn := fun _ => fun
  | [d] => { results := [.lit (.bool false)], args := [d] }
  | _ => none }
def FnWorstJobsWrongFalsely : Prop := fnWorstJobsRow.holds Try.pinned (OpenSpec.ofChange fnWorstJobsWrong)

/-- 'laws.FnJobsValid': WHATEVER THE INPUT: true; the input reads as it did. -/
def fnJobsValidSpec : ChangeSpec := { name := "fnJobsValid", fn := fun _ => fun
  | [d] => { results := [.lit (.bool true)], args := [d] }
  | _ => none }
def fnJobsValidRow : OpenClaim := { program := "ytihegjjhcfoapaa", sum := "e310c231a258bb34deb8d2f17c4e7c5af06d70bf79da2d5d14d67a0a0ec3f04f", func := "loop.example/dualmodes/laws.FnJobsValid", spec := "fnJobsValid", apart := false }
def FnJobsValidSaid : Prop := fnJobsValidRow.holds Try.pinned (OpenSpec.ofChange fnJobsValidSpec)

/-- ITS FALSE NEIGHBOUR: 'it returns false'. Refute it at one input. -/
def fnJobsValidWrong : ChangeSpec := { name := "fnJobsValid", fn := fun _ => fun
  | [d] => { results := [.lit (.bool false)], args := [d] }
  | _ => none }
def FnJobsValidWrongFalsely : Prop := fnJobsValidRow.holds Try.pinned (OpenSpec.ofChange fnJobsValidWrong)

/-- 'laws.FnHighJobs': WHATEVER THE INPUT: true; the input reads as it did. -/
def fnHighJobsSpec : ChangeSpec := { name := "fnHighJobs", fn := fun _ => fun
  | [d] => { results := [.lit (.bool true)], args := [d] }
  | _ => none }
def fnHighJobsRow : OpenClaim := { program := "ytihegjjhcfoapaa", sum := "e310c231a258bb34deb8d2f17c4e7c5af06d70bf79da2d5d14d67a0a0ec3f04f", func := "loop.example/dualmodes/laws.FnHighJobs", spec := "fnHighJobs", apart := false }
def FnHighJobsSaid : Prop := fnHighJobsRow.holds Try.pinned (OpenSpec.ofChange fnHighJobsSpec)

/-- ITS FALSE NEIGHBOUR: 'it returns false'. Refute it at one input. -/
def fnHighJobsWrong : ChangeSpec := { name := "fnHighJobs", fn := fun _ => fun
  | [d] => { results := [.lit (.bool false)], args := [d] }
  | _ => none }
def FnHighJobsWrongFalsely : Prop := fnHighJobsRow.holds Try.pinned (OpenSpec.ofChange fnHighJobsWrong)

/-- 'laws.FnHighLow': WHATEVER THE INPUT: true; the input reads as it did. -/
def fnHighLowSpec : ChangeSpec := { name := "fnHighLow", fn := fun _ => fun
  | [d] => { results := [.lit (.bool true)], args := [d] }
  | _ => none }
def fnHighLowRow : OpenClaim := { program := "ytihegjjhcfoapaa", sum := "e310c231a258bb34deb8d2f17c4e7c5af06d70bf79da2d5d14d67a0a0ec3f04f", func := "loop.example/dualmodes/laws.FnHighLow", spec := "fnHighLow", apart := false }
def FnHighLowSaid : Prop := fnHighLowRow.holds Try.pinned (OpenSpec.ofChange fnHighLowSpec)

/-- ITS FALSE NEIGHBOUR: 'it returns false'. Refute it at one input. -/
def fnHighLowWrong : ChangeSpec := { name := "fnHighLow", fn := fun _ => fun
  | [d] => { results := [.lit (.bool false)], args := [d] }
  | _ => none }
def FnHighLowWrongFalsely : Prop := fnHighLowRow.holds Try.pinned (OpenSpec.ofChange fnHighLowWrong)

/-- 'laws.FnPutTwice': WHATEVER THE INPUT: true; the input reads as it did. -/
def fnPutTwiceSpec : ChangeSpec := { name := "fnPutTwice", fn := fun _ => fun
  | [d] => { results := [.lit (.bool true)], args := [d] }
  | _ => none }
def fnPutTwiceRow : OpenClaim := { program := "ytihegjjhcfoapaa", sum := "e310c231a258bb34deb8d2f17c4e7c5af06d70bf79da2d5d14d67a0a0ec3f04f", func := "loop.example/dualmodes/laws.FnPutTwice", spec := "fnPutTwice", apart := false }
def FnPutTwiceSaid : Prop := fnPutTwiceRow.holds Try.pinned (OpenSpec.ofChange fnPutTwiceSpec)

/-- ITS FALSE NEIGHBOUR: 'it returns false'. Refute it at one input. -/
def fnPutTwiceWrong : ChangeSpec := { name := "fnPutTwice", fn := fun _ => fun
  | [d] => { results := [.lit (.bool false)], args := [d] }
  | _ => none }
def FnPutTwiceWrongFalsely : Prop := fnPutTwiceRow.holds Try.pinned (OpenSpec.ofChange fnPutTwiceWrong)

/-- 'laws.FnPutDue': WHATEVER THE INPUT: true; the input reads as it did. -/
def fnPutDueSpec : ChangeSpec := { name := "fnPutDue", fn := fun _ => fun
  | [d] => { results := [.lit (.bool true)], args := [d] }
  | _ => none }
def fnPutDueRow : OpenClaim := { program := "ytihegjjhcfoapaa", sum := "e310c231a258bb34deb8d2f17c4e7c5af06d70bf79da2d5d14d67a0a0ec3f04f", func := "loop.example/dualmodes/laws.FnPutDue", spec := "fnPutDue", apart := false }
def FnPutDueSaid : Prop := fnPutDueRow.holds Try.pinned (OpenSpec.ofChange fnPutDueSpec)

/-- ITS FALSE NEIGHBOUR: 'it returns false'. Refute it at one input. -/
def fnPutDueWrong : ChangeSpec := { name := "fnPutDue", fn := fun _ => fun
  | [d] => { results := [.lit (.bool false)], args := [d] }
  | _ => none }
def FnPutDueWrongFalsely : Prop := fnPutDueRow.holds Try.pinned (OpenSpec.ofChange fnPutDueWrong)

/- THE SECOND FORM. 'bulk': how many values and letters a reading holds, each counted each time it is reached (what is shared counts as often as it is met; a slice's spare places count too). A statement '..UptoSaid' is the law's where the arguments, and the package variables that the reading takes, are together of bulk at most 1048576: NARROWER than '..Said'. Prove '..Said' where nothing that the law and all that it calls make is longer than what came in: it says more and counts as full. Else prove '..UptoSaid'. A law counts once. -/
mutual
def uptoBulk {H : Type} : DataW H → Nat
  | .lit (.string bytes) => bytes.length + 1
  | .lit _ => 1
  | .nil => 1
  | .ptr d => uptoBulk d + 1
  | .slice elems spare => uptoBulkAll elems + uptoBulkAll spare + 1
  | .agg parts => uptoBulkAll parts + 1
  | .iface _ d => uptoBulk d + 1
  | .map entries => uptoBulkEntries entries + 1
  | .held _ => 1
def uptoBulkAll {H : Type} : List (DataW H) → Nat
  | [] => 0
  | d :: r => uptoBulk d + uptoBulkAll r
def uptoBulkEntries {H : Type} : List (Lit × DataW H) → Nat
  | [] => 0
  | x :: r => uptoBulkEntry x + uptoBulkEntries r
def uptoBulkEntry {H : Type} : Lit × DataW H → Nat
  | (.string bytes, d) => bytes.length + uptoBulk d + 1
  | (_, d) => uptoBulk d + 1
 end
def uptoSmall : (H : Type) → List (DataW H) → Bool := fun _ ds => decide (uptoBulkAll ds ≤ 1048576)
def OpenSpec.upto (s : _root_.Go.ChangeSpec) : _root_.Go.OpenSpec := { _root_.Go.OpenSpec.ofChange s with cond := some uptoSmall }

/-- 'laws.FnRaiseNone', WHERE WHAT IT READS IS OF BULK AT MOST 1048576: true; the input reads as it did. -/
def fnRaiseNoneUptoRow : OpenClaim := { program := "ytihegjjhcfoapaa", sum := "e310c231a258bb34deb8d2f17c4e7c5af06d70bf79da2d5d14d67a0a0ec3f04f", func := "loop.example/dualmodes/laws.FnRaiseNone", spec := "fnRaiseNone", apart := false, narrowed := true }
def FnRaiseNoneUptoSaid : Prop := fnRaiseNoneUptoRow.holds Try.pinned (OpenSpec.upto fnRaiseNoneSpec)

/-- 'laws.FnWorstHigh', WHERE WHAT IT READS IS OF BULK AT MOST 1048576: true; the input reads as it did. -/
def fnWorstHighUptoRow : OpenClaim := { program := "ytihegjjhcfoapaa", sum := "e310c231a258bb34deb8d2f17c4e7c5af06d70bf79da2d5d14d67a0a0ec3f04f", func := "loop.example/dualmodes/laws.FnWorstHigh", spec := "fnWorstHigh", apart := false, narrowed := true }
def FnWorstHighUptoSaid : Prop := fnWorstHighUptoRow.holds Try.pinned (OpenSpec.upto fnWorstHighSpec)

/-- 'laws.FnJobsOrder', WHERE WHAT IT READS IS OF BULK AT MOST 1048576: true; the input reads as it did. -/
def fnJobsOrderUptoRow : OpenClaim := { program := "ytihegjjhcfoapaa", sum := "e310c231a258bb34deb8d2f17c4e7c5af06d70bf79da2d5d14d67a0a0ec3f04f", func := "loop.example/dualmodes/laws.FnJobsOrder", spec := "fnJobsOrder", apart := false, narrowed := true }
def FnJobsOrderUptoSaid : Prop := fnJobsOrderUptoRow.holds Try.pinned (OpenSpec.upto fnJobsOrderSpec)

/-- 'laws.FnJobsTurned', WHERE WHAT IT READS IS OF BULK AT MOST 1048576: true; the input reads as it did. -/
def fnJobsTurnedUptoRow : OpenClaim := { program := "ytihegjjhcfoapaa", sum := "e310c231a258bb34deb8d2f17c4e7c5af06d70bf79da2d5d14d67a0a0ec3f04f", func := "loop.example/dualmodes/laws.FnJobsTurned", spec := "fnJobsTurned", apart := false, narrowed := true }
def FnJobsTurnedUptoSaid : Prop := fnJobsTurnedUptoRow.holds Try.pinned (OpenSpec.upto fnJobsTurnedSpec)

/-- 'laws.FnDueAt', WHERE WHAT IT READS IS OF BULK AT MOST 1048576: true; the input reads as it did. -/
def fnDueAtUptoRow : OpenClaim := { program := "ytihegjjhcfoapaa", sum := "e310c231a258bb34deb8d2f17c4e7c5af06d70bf79da2d5d14d67a0a0ec3f04f", func := "loop.example/dualmodes/laws.FnDueAt", spec := "fnDueAt", apart := false, narrowed := true }
def FnDueAtUptoSaid : Prop := fnDueAtUptoRow.holds Try.pinned (OpenSpec.upto fnDueAtSpec)

/-- 'laws.FnNeedNone', WHERE WHAT IT READS IS OF BULK AT MOST 1048576: true; the input reads as it did. -/
def fnNeedNoneUptoRow : OpenClaim := { program := "ytihegjjhcfoapaa", sum := "e310c231a258bb34deb8d2f17c4e7c5af06d70bf79da2d5d14d67a0a0ec3f04f", func := "loop.example/dualmodes/laws.FnNeedNone", spec := "fnNeedNone", apart := false, narrowed := true }
def FnNeedNoneUptoSaid : Prop := fnNeedNoneUptoRow.holds Try.pinned (OpenSpec.upto fnNeedNoneSpec)

/-- 'laws.FnWorstJobs', WHERE WHAT IT READS IS OF BULK AT MOST 1048576: true; the input reads as it did. -/
def fnWorstJobsUptoRow : OpenClaim := { program := "ytihegjjhcfoapaa", sum := "e310c231a258bb34deb8d2f17c4e7c5af06d70bf79da2d5d14d67a0a0ec3f04f", func := "loop.example/dualmodes/laws.FnWorstJobs", spec := "fnWorstJobs", apart := false, narrowed := true }
def FnWorstJobsUptoSaid : Prop := fnWorstJobsUptoRow.holds Try.pinned (OpenSpec.upto fnWorstJobsSpec)

/-- 'laws.FnJobsValid', WHERE WHAT IT READS IS OF BULK AT MOST 1048576: true; the input reads as it did. -/
def fnJobsValidUptoRow : OpenClaim := { program := "ytihegjjhcfoapaa", sum := "e310c231a258bb34deb8d2f17c4e7c5af06d70bf79da2d5d14d67a0a0ec3f04f", func := "loop.example/dualmodes/laws.FnJobsValid", spec := "fnJobsValid", apart := false, narrowed := true }
def FnJobsValidUptoSaid : Prop := fnJobsValidUptoRow.holds Try.pinned (OpenSpec.upto fnJobsValidSpec)

/-- 'laws.FnHighJobs', WHERE WHAT IT READS IS OF BULK AT MOST 1048576: true; the input reads as it did. -/
def fnHighJobsUptoRow : OpenClaim := { program := "ytihegjjhcfoapaa", sum := "e310c231a258bb34deb8d2f17c4e7c5af06d70bf79da2d5d14d67a0a0ec3f04f", func := "loop.example/dualmodes/laws.FnHighJobs", spec := "fnHighJobs", apart := false, narrowed := true }
def FnHighJobsUptoSaid : Prop := fnHighJobsUptoRow.holds Try.pinned (OpenSpec.upto fnHighJobsSpec)

/-- 'laws.FnHighLow', WHERE WHAT IT READS IS OF BULK AT MOST 1048576: true; the input reads as it did. -/
def fnHighLowUptoRow : OpenClaim := { program := "ytihegjjhcfoapaa", sum := "e310c231a258bb34deb8d2f17c4e7c5af06d70bf79da2d5d14d67a0a0ec3f04f", func := "loop.example/dualmodes/laws.FnHighLow", spec := "fnHighLow", apart := false, narrowed := true }
def FnHighLowUptoSaid : Prop := fnHighLowUptoRow.holds Try.pinned (OpenSpec.upto fnHighLowSpec)

/-- 'laws.FnPutTwice', WHERE WHAT IT READS IS OF BULK AT MOST 1048576: true; the input reads as it did. -/
def fnPutTwiceUptoRow : OpenClaim := { program := "ytihegjjhcfoapaa", sum := "e310c231a258bb34deb8d2f17c4e7c5af06d70bf79da2d5d14d67a0a0ec3f04f", func := "loop.example/dualmodes/laws.FnPutTwice", spec := "fnPutTwice", apart := false, narrowed := true }
def FnPutTwiceUptoSaid : Prop := fnPutTwiceUptoRow.holds Try.pinned (OpenSpec.upto fnPutTwiceSpec)

/-- 'laws.FnPutDue', WHERE WHAT IT READS IS OF BULK AT MOST 1048576: true; the input reads as it did. -/
def fnPutDueUptoRow : OpenClaim := { program := "ytihegjjhcfoapaa", sum := "e310c231a258bb34deb8d2f17c4e7c5af06d70bf79da2d5d14d67a0a0ec3f04f", func := "loop.example/dualmodes/laws.FnPutDue", spec := "fnPutDue", apart := false, narrowed := true }
def FnPutDueUptoSaid : Prop := fnPutDueUptoRow.holds Try.pinned (OpenSpec.upto fnPutDueSpec)

end Rows
end Go.Proofs.Ytihegjjhcfoapaa
