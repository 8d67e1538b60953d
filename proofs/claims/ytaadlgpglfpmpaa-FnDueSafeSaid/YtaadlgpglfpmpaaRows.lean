/-
  No cell of these rows narrows 'for every input' (looked for: loops, veiled, ifaces, maps, wideKeys, modest, calm, conditions, laid).
  DERIVED. THE GIVEN ROWS OF THIS SEAT. 2 by the template 'for every input the law returns true; each argument reads behind the call as it read before'; 0 by the template 'total and deterministic' (their statements: YtaadlgpglfpmpaaTotals.lean).
  GIVEN WITH THE SEED: the statements are not yours to turn. If you find one false, say at which input.
  Laid BY PROGRAM, IN A SANDBOX (cutbox-rows.mjs): the forced cells as the released guide's own fill.sh prints them over the translation 7e9c61b0086ae33f… (all of the seat's roots in one cut). By AI agents, Wed Nov 11 2026. No macro, syntax, notation, axiom, sorry.
-/
import Derived.Test.YtaadlgpglfpmpaaChecked
import GoSem.Claim
import GoSem.ClaimJoined
import GoSem.ClaimMapViews
import Derived.JoinedTies
import Derived.KernelRfl
namespace Go.Proofs.Ytaadlgpglfpmpaa
/- THE CELL 'sum', in the pinned program and in every row, IS THE sha256 OF THE DUMP (.gsa) THAT YtaadlgpglfpmpaaProg.lean LOADS. Nothing in Lean hashes anything: it is a label: what it is worth is what the hold of that sum in a sandbox is worth. -/
noncomputable def Try.pinned : Pinned := { name := "ytaadlgpglfpmpaa", sum := "7e9c61b0086ae33f637731bab0e1da84c2c472b17c2b7af6217df6d875b0ee6f", checked := Try.checked }
namespace Rows
def none {H : Type} : Left H := { results := [], args := [] }

/-- 'laws.FnPlaceSafe': WHATEVER THE INPUT: true; the input reads as it did. -/
def fnPlaceSafeSpec : ChangeSpec := { name := "fnPlaceSafe", fn := fun _ => fun
  | [d] => { results := [.lit (.bool true)], args := [d] }
  | _ => none }
def fnPlaceSafeRow : OpenClaim := { program := "ytaadlgpglfpmpaa", sum := "7e9c61b0086ae33f637731bab0e1da84c2c472b17c2b7af6217df6d875b0ee6f", func := "loop.example/dualmodes/laws.FnPlaceSafe", spec := "fnPlaceSafe", unfollowed := true, recurses := true, apart := false }
def FnPlaceSafeSaid : Prop := fnPlaceSafeRow.holds Try.pinned (OpenSpec.ofChange fnPlaceSafeSpec)

/-- ITS FALSE NEIGHBOUR: 'it returns false'. Refute it at one input. -/
def fnPlaceSafeWrong : ChangeSpec := { name := "fnPlaceSafe", fn := fun _ => fun
  | [d] => { results := [.lit (.bool false)], args := [d] }
  | _ => none }
def FnPlaceSafeWrongFalsely : Prop := fnPlaceSafeRow.holds Try.pinned (OpenSpec.ofChange fnPlaceSafeWrong)

/-- 'laws.FnDueSafe': WHATEVER THE INPUT: true; the input reads as it did. -/
def fnDueSafeSpec : ChangeSpec := { name := "fnDueSafe", fn := fun _ => fun
  | [d] => { results := [.lit (.bool true)], args := [d] }
  | _ => none }
def fnDueSafeRow : OpenClaim := { program := "ytaadlgpglfpmpaa", sum := "7e9c61b0086ae33f637731bab0e1da84c2c472b17c2b7af6217df6d875b0ee6f", func := "loop.example/dualmodes/laws.FnDueSafe", spec := "fnDueSafe", unfollowed := true, recurses := true, apart := false }
def FnDueSafeSaid : Prop := fnDueSafeRow.holds Try.pinned (OpenSpec.ofChange fnDueSafeSpec)

/-- ITS FALSE NEIGHBOUR: 'it returns false'. Refute it at one input. -/
def fnDueSafeWrong : ChangeSpec := { name := "fnDueSafe", fn := fun _ => fun
  | [d] => { results := [.lit (.bool false)], args := [d] }
  | _ => none }
def FnDueSafeWrongFalsely : Prop := fnDueSafeRow.holds Try.pinned (OpenSpec.ofChange fnDueSafeWrong)

/- THE SECOND FORM. 'bulk': how many values and letters a reading holds, each counted each time it is reached (what is shared counts as often as it is met; a slice's spare places count too). A statement '..UptoSaid' is the law's where the arguments, and the package variables that the reading takes, are together of bulk at most 1048576: NARROWER than '..Said'. Prove '..Said' where nothing that the law and all that it calls make is longer than what came in: it says more and counts as full. Else prove '..UptoSaid'. A law counts once. -/
mutual
def uptoBulk {H : Type} : DataW H → Nat
  | .lit (.string bytes) => bytes.length + 1
  | .lit _ => 1
  | .nil => 1
  | .ptr d => uptoBulk d + 1
  | .slice elems spare => uptoBulkAll elems + uptoBulkAll spare + 1
  | .agg parts => uptoBulkAll parts + 1
  | .iface _ d => uptoBulk d + 1
  | .map entries => uptoBulkEntries entries + 1
  | .held _ => 1
def uptoBulkAll {H : Type} : List (DataW H) → Nat
  | [] => 0
  | d :: r => uptoBulk d + uptoBulkAll r
def uptoBulkEntries {H : Type} : List (Lit × DataW H) → Nat
  | [] => 0
  | x :: r => uptoBulkEntry x + uptoBulkEntries r
def uptoBulkEntry {H : Type} : Lit × DataW H → Nat
  | (.string bytes, d) => bytes.length + uptoBulk d + 1
  | (_, d) => uptoBulk d + 1
 end
def uptoSmall : (H : Type) → List (DataW H) → Bool := fun _ ds => decide (uptoBulkAll ds ≤ 1048576)
def OpenSpec.upto (s : _root_.Go.ChangeSpec) : _root_.Go.OpenSpec := { _root_.Go.OpenSpec.ofChange s with cond := some uptoSmall }

/-- 'laws.FnPlaceSafe', WHERE WHAT IT READS IS OF BULK AT MOST 1048576: true; the input reads as it did. -/
def fnPlaceSafeUptoRow : OpenClaim := { program := "ytaadlgpglfpmpaa", sum := "7e9c61b0086ae33f637731bab0e1da84c2c472b17c2b7af6217df6d875b0ee6f", func := "loop.example/dualmodes/laws.FnPlaceSafe", spec := "fnPlaceSafe", unfollowed := true, recurses := true, apart := false, narrowed := true }
def FnPlaceSafeUptoSaid : Prop := fnPlaceSafeUptoRow.holds Try.pinned (OpenSpec.upto fnPlaceSafeSpec)

/-- 'laws.FnDueSafe', WHERE WHAT IT READS IS OF BULK AT MOST 1048576: true; the input reads as it did. -/
def fnDueSafeUptoRow : OpenClaim := { program := "ytaadlgpglfpmpaa", sum := "7e9c61b0086ae33f637731bab0e1da84c2c472b17c2b7af6217df6d875b0ee6f", func := "loop.example/dualmodes/laws.FnDueSafe", spec := "fnDueSafe", unfollowed := true, recurses := true, apart := false, narrowed := true }
def FnDueSafeUptoSaid : Prop := fnDueSafeUptoRow.holds Try.pinned (OpenSpec.upto fnDueSafeSpec)

end Rows
end Go.Proofs.Ytaadlgpglfpmpaa
