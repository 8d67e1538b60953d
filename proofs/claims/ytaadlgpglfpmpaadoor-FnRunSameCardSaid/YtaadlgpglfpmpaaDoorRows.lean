/-
  NARROWER THAN 'FOR EVERY INPUT', by the rows' own cells (each row's printed sentence says how): FnRanOf: laid · FnFormatTrace: laid · FnRunSame: laid · FnTraceSize: laid · FnExactFormatTrace: laid · FnExactFormatJobs: laid · FnJobsSize: laid · FnNeedOf: laid · FnNeedParts: laid.
  DERIVED. THE GIVEN ROWS OF THIS SEAT. 9 by the template 'for every input the law returns true; each argument reads behind the call as it read before'; 0 by the template 'total and deterministic' (their statements: YtaadlgpglfpmpaaDoorTotals.lean).
  GIVEN WITH THE SEED: the statements are not yours to turn. If you find one false, say at which input.
  Laid BY PROGRAM, IN A SANDBOX (cutbox-rows.mjs): the forced cells as the released guide's own fill.sh prints them over the translation 7aa2caf647928e66… (all of the seat's roots in one cut). By AI agents, Wed Nov 11 2026. No macro, syntax, notation, axiom, sorry.
-/
import Derived.Test.YtaadlgpglfpmpaaDoorChecked
import GoSem.Claim
import GoSem.ClaimJoined
import GoSem.ClaimMapViews
import Derived.JoinedTies
import Derived.KernelRfl
namespace Go.Proofs.YtaadlgpglfpmpaaDoor
/- THE CELL 'sum', in the pinned program and in every row, IS THE sha256 OF THE DUMP (.gsa) THAT YtaadlgpglfpmpaaDoorProg.lean LOADS. Nothing in Lean hashes anything: it is a label: what it is worth is what the hold of that sum in a sandbox is worth. -/
noncomputable def Tryd.pinned : Pinned := { name := "ytaadlgpglfpmpaadoor", sum := "7aa2caf647928e66b4d7a0b966c0dfaecd25f3a68e48a55b3fefa29d814054ba", checked := Tryd.checked }
namespace Rows
def none {H : Type} : Left H := { results := [], args := [] }

/- WHAT THE LISTED PACKAGE-LEVEL VARIABLES READ AS WHEN THE CALL BEGINS. Each datum BY PROGRAM (the guide's laid-datum.mjs) off the statement by which the dump's own 'gosem.cut.vars' lays the variable. In a bare row this is a premise. The card (YtaadlgpglfpmpaaDoorCards.lean) ties it to the program's text. -/
def laid_math_bits_deBruijn32tab {H : Type} : DataW H := .agg [.lit (.int .u8 0), .lit (.int .u8 1), .lit (.int .u8 28), .lit (.int .u8 2), .lit (.int .u8 29), .lit (.int .u8 14), .lit (.int .u8 24), .lit (.int .u8 3), .lit (.int .u8 30), .lit (.int .u8 22), .lit (.int .u8 20), .lit (.int .u8 15), .lit (.int .u8 25), .lit (.int .u8 17), .lit (.int .u8 4), .lit (.int .u8 8), .lit (.int .u8 31), .lit (.int .u8 27), .lit (.int .u8 13), .lit (.int .u8 23), .lit (.int .u8 21), .lit (.int .u8 19), .lit (.int .u8 16), .lit (.int .u8 7), .lit (.int .u8 26), .lit (.int .u8 12), .lit (.int .u8 18), .lit (.int .u8 6), .lit (.int .u8 11), .lit (.int .u8 5), .lit (.int .u8 10), .lit (.int .u8 9)]
def laid_math_bits_deBruijn64tab {H : Type} : DataW H := .agg [.lit (.int .u8 0), .lit (.int .u8 1), .lit (.int .u8 56), .lit (.int .u8 2), .lit (.int .u8 57), .lit (.int .u8 49), .lit (.int .u8 28), .lit (.int .u8 3), .lit (.int .u8 61), .lit (.int .u8 58), .lit (.int .u8 42), .lit (.int .u8 50), .lit (.int .u8 38), .lit (.int .u8 29), .lit (.int .u8 17), .lit (.int .u8 4), .lit (.int .u8 62), .lit (.int .u8 47), .lit (.int .u8 59), .lit (.int .u8 36), .lit (.int .u8 45), .lit (.int .u8 43), .lit (.int .u8 51), .lit (.int .u8 22), .lit (.int .u8 53), .lit (.int .u8 39), .lit (.int .u8 33), .lit (.int .u8 30), .lit (.int .u8 24), .lit (.int .u8 18), .lit (.int .u8 12), .lit (.int .u8 5), .lit (.int .u8 63), .lit (.int .u8 55), .lit (.int .u8 48), .lit (.int .u8 27), .lit (.int .u8 60), .lit (.int .u8 41), .lit (.int .u8 37), .lit (.int .u8 16), .lit (.int .u8 46), .lit (.int .u8 35), .lit (.int .u8 44), .lit (.int .u8 21), .lit (.int .u8 52), .lit (.int .u8 32), .lit (.int .u8 23), .lit (.int .u8 11), .lit (.int .u8 54), .lit (.int .u8 26), .lit (.int .u8 40), .lit (.int .u8 15), .lit (.int .u8 34), .lit (.int .u8 20), .lit (.int .u8 31), .lit (.int .u8 10), .lit (.int .u8 25), .lit (.int .u8 14), .lit (.int .u8 19), .lit (.int .u8 9), .lit (.int .u8 13), .lit (.int .u8 8), .lit (.int .u8 7), .lit (.int .u8 6)]
def laid_internal_strconv_uint64pow10 {H : Type} : DataW H := .agg [.lit (.int .u64 1), .lit (.int .u64 10), .lit (.int .u64 100), .lit (.int .u64 1000), .lit (.int .u64 10000), .lit (.int .u64 100000), .lit (.int .u64 1000000), .lit (.int .u64 10000000), .lit (.int .u64 100000000), .lit (.int .u64 1000000000), .lit (.int .u64 10000000000), .lit (.int .u64 100000000000), .lit (.int .u64 1000000000000), .lit (.int .u64 10000000000000), .lit (.int .u64 100000000000000), .lit (.int .u64 1000000000000000), .lit (.int .u64 10000000000000000), .lit (.int .u64 100000000000000000), .lit (.int .u64 1000000000000000000), .lit (.int .u64 10000000000000000000)]

/-- 'laws.FnRanOf': WHATEVER THE INPUT: true; the input reads as it did. -/
def fnRanOfSpec : ChangeSpec := { name := "fnRanOf", fn := fun _ => fun
  | [d] => { results := [.lit (.bool true)], args := [d] }
  | _ => none }
def fnRanOfRow : OpenClaim := { program := "ytaadlgpglfpmpaadoor", sum := "7aa2caf647928e66b4d7a0b966c0dfaecd25f3a68e48a55b3fefa29d814054ba", func := "loop.example/dualmodes/laws.FnRanOf", spec := "fnRanOf", named := ["internal/strconv.uint64pow10", "math/bits.deBruijn32tab", "math/bits.deBruijn64tab"], apart := false, laid := [("math/bits.deBruijn32tab", laid_math_bits_deBruijn32tab), ("math/bits.deBruijn64tab", laid_math_bits_deBruijn64tab), ("internal/strconv.uint64pow10", laid_internal_strconv_uint64pow10)] }
def FnRanOfSaid : Prop := fnRanOfRow.holds Tryd.pinned (OpenSpec.ofChange fnRanOfSpec)

/-- ITS FALSE NEIGHBOUR: 'it returns false'. Refute it at one input. -/
def fnRanOfWrong : ChangeSpec := { name := "fnRanOf", fn := fun _ => fun
  | [d] => { results := [.lit (.bool false)], args := [d] }
  | _ => none }
def FnRanOfWrongFalsely : Prop := fnRanOfRow.holds Tryd.pinned (OpenSpec.ofChange fnRanOfWrong)

/-- 'laws.FnFormatTrace': WHATEVER THE INPUT: true; the input reads as it did. -/
def fnFormatTraceSpec : ChangeSpec := { name := "fnFormatTrace", fn := fun _ => fun
  | [d] => { results := [.lit (.bool true)], args := [d] }
  | _ => none }
def fnFormatTraceRow : OpenClaim := { program := "ytaadlgpglfpmpaadoor", sum := "7aa2caf647928e66b4d7a0b966c0dfaecd25f3a68e48a55b3fefa29d814054ba", func := "loop.example/dualmodes/laws.FnFormatTrace", spec := "fnFormatTrace", named := ["internal/strconv.uint64pow10", "math/bits.deBruijn32tab", "math/bits.deBruijn64tab"], apart := false, laid := [("math/bits.deBruijn32tab", laid_math_bits_deBruijn32tab), ("math/bits.deBruijn64tab", laid_math_bits_deBruijn64tab), ("internal/strconv.uint64pow10", laid_internal_strconv_uint64pow10)] }
def FnFormatTraceSaid : Prop := fnFormatTraceRow.holds Tryd.pinned (OpenSpec.ofChange fnFormatTraceSpec)

/-- ITS FALSE NEIGHBOUR: 'it returns false'. Refute it at one input. -/
def fnFormatTraceWrong : ChangeSpec := { name := "fnFormatTrace", fn := fun _ => fun
  | [d] => { results := [.lit (.bool false)], args := [d] }
  | _ => none }
def FnFormatTraceWrongFalsely : Prop := fnFormatTraceRow.holds Tryd.pinned (OpenSpec.ofChange fnFormatTraceWrong)

/-- 'laws.FnRunSame': WHATEVER THE INPUT: true; the input reads as it did. -/
def fnRunSameSpec : ChangeSpec := { name := "fnRunSame", fn := fun _ => fun
  | [d] => { results := [.lit (.bool true)], args := [d] }
  | _ => none }
def fnRunSameRow : OpenClaim := { program := "ytaadlgpglfpmpaadoor", sum := "7aa2caf647928e66b4d7a0b966c0dfaecd25f3a68e48a55b3fefa29d814054ba", func := "loop.example/dualmodes/laws.FnRunSame", spec := "fnRunSame", named := ["internal/strconv.uint64pow10", "math/bits.deBruijn32tab", "math/bits.deBruijn64tab"], apart := false, laid := [("math/bits.deBruijn32tab", laid_math_bits_deBruijn32tab), ("math/bits.deBruijn64tab", laid_math_bits_deBruijn64tab), ("internal/strconv.uint64pow10", laid_internal_strconv_uint64pow10)] }
def FnRunSameSaid : Prop := fnRunSameRow.holds Tryd.pinned (OpenSpec.ofChange fnRunSameSpec)

/-- ITS FALSE NEIGHBOUR: 'it returns false'. Refute it at one input. -/
def fnRunSameWrong : ChangeSpec := { name := "fnRunSame", fn := fun _ => fun
  | [d] => { results := [.lit (.bool false)], args := [d] }
  | _ => none }
def FnRunSameWrongFalsely : Prop := fnRunSameRow.holds Tryd.pinned (OpenSpec.ofChange fnRunSameWrong)

/-- 'laws.FnTraceSize': WHATEVER THE INPUT: true; the input reads as it did. -/
def fnTraceSizeSpec : ChangeSpec := { name := "fnTraceSize", fn := fun _ => fun
  | [d] => { results := [.lit (.bool true)], args := [d] }
  | _ => none }
def fnTraceSizeRow : OpenClaim := { program := "ytaadlgpglfpmpaadoor", sum := "7aa2caf647928e66b4d7a0b966c0dfaecd25f3a68e48a55b3fefa29d814054ba", func := "loop.example/dualmodes/laws.FnTraceSize", spec := "fnTraceSize", unfollowed := true, recurses := true, named := ["internal/strconv.uint64pow10", "math/bits.deBruijn32tab", "math/bits.deBruijn64tab"], apart := false, laid := [("math/bits.deBruijn32tab", laid_math_bits_deBruijn32tab), ("math/bits.deBruijn64tab", laid_math_bits_deBruijn64tab), ("internal/strconv.uint64pow10", laid_internal_strconv_uint64pow10)] }
def FnTraceSizeSaid : Prop := fnTraceSizeRow.holds Tryd.pinned (OpenSpec.ofChange fnTraceSizeSpec)

/-- ITS FALSE NEIGHBOUR: 'it returns false'. Refute it at one input. -/
def fnTraceSizeWrong : ChangeSpec := { name := "fnTraceSize", fn := fun _ => fun
  | [d] => { results := [.lit (.bool false)], args := [d] }
  | _ => none }
def FnTraceSizeWrongFalsely : Prop := fnTraceSizeRow.holds Tryd.pinned (OpenSpec.ofChange fnTraceSizeWrong)

/-- 'laws.FnExactFormatTrace': WHATEVER THE INPUT: true; the input reads as it did. -/
def fnExactFormatTraceSpec : ChangeSpec := { name := "fnExactFormatTrace", fn := fun _ => fun
  | [d] => { results := [.lit (.bool true)], args := [d] }
  | _ => none }
def fnExactFormatTraceRow : OpenClaim := { program := "ytaadlgpglfpmpaadoor", sum := "7aa2caf647928e66b4d7a0b966c0dfaecd25f3a68e48a55b3fefa29d814054ba", func := "loop.example/dualmodes/laws.FnExactFormatTrace", spec := "fnExactFormatTrace", named := ["internal/strconv.uint64pow10", "math/bits.deBruijn32tab", "math/bits.deBruijn64tab"], apart := false, laid := [("math/bits.deBruijn32tab", laid_math_bits_deBruijn32tab), ("math/bits.deBruijn64tab", laid_math_bits_deBruijn64tab), ("internal/strconv.uint64pow10", laid_internal_strconv_uint64pow10)] }
def FnExactFormatTraceSaid : Prop := fnExactFormatTraceRow.holds Tryd.pinned (OpenSpec.ofChange fnExactFormatTraceSpec)

/-- ITS FALSE NEIGHBOUR: 'it returns false'. Refute it at one input. -/
def fnExactFormatTraceWrong : ChangeSpec := { name := "fnExactFormatTrace", fn := fun _ => fun
  | [d] => { results := [.lit (.bool false)], args := [d] }
  | _ => none }
def FnExactFormatTraceWrongFalsely : Prop := fnExactFormatTraceRow.holds Tryd.pinned (OpenSpec.ofChange fnExactFormatTraceWrong)

/-- 'laws.FnExactFormatJobs': WHATEVER THE INPUT: true; the input reads as it did. -/
def fnExactFormatJobsSpec : ChangeSpec := { name := "fnExactFormatJobs", fn := fun _ => fun
  | [d] => { results := [.lit (.bool true)], args := [d] }
  | _ => none }
def fnExactFormatJobsRow : OpenClaim := { program := "ytaadlgpglfpmpaadoor", sum := "7aa2caf647928e66b4d7a0b966c0dfaecd25f3a68e48a55b3fefa29d814054ba", func := "loop.example/dualmodes/laws.FnExactFormatJobs", spec := "fnExactFormatJobs", inPlace := ["internal/abi.NoEscape", "internal/bytealg.MakeNoZero"], recurses := true, named := ["internal/strconv.uint64pow10", "math/bits.deBruijn32tab", "math/bits.deBruijn64tab"], apart := false, laid := [("math/bits.deBruijn32tab", laid_math_bits_deBruijn32tab), ("math/bits.deBruijn64tab", laid_math_bits_deBruijn64tab), ("internal/strconv.uint64pow10", laid_internal_strconv_uint64pow10)] }
def FnExactFormatJobsSaid : Prop := fnExactFormatJobsRow.holds Tryd.pinned (OpenSpec.ofChange fnExactFormatJobsSpec)

/-- ITS FALSE NEIGHBOUR: 'it returns false'. Refute it at one input. -/
def fnExactFormatJobsWrong : ChangeSpec := { name := "fnExactFormatJobs", fn := fun _ => fun
  | [d] => { results := [.lit (.bool false)], args := [d] }
  | _ => none }
def FnExactFormatJobsWrongFalsely : Prop := fnExactFormatJobsRow.holds Tryd.pinned (OpenSpec.ofChange fnExactFormatJobsWrong)

/-- 'laws.FnJobsSize': WHATEVER THE INPUT: true; the input reads as it did. -/
def fnJobsSizeSpec : ChangeSpec := { name := "fnJobsSize", fn := fun _ => fun
  | [d] => { results := [.lit (.bool true)], args := [d] }
  | _ => none }
def fnJobsSizeRow : OpenClaim := { program := "ytaadlgpglfpmpaadoor", sum := "7aa2caf647928e66b4d7a0b966c0dfaecd25f3a68e48a55b3fefa29d814054ba", func := "loop.example/dualmodes/laws.FnJobsSize", spec := "fnJobsSize", inPlace := ["internal/abi.NoEscape", "internal/bytealg.MakeNoZero"], recurses := true, named := ["internal/strconv.uint64pow10", "math/bits.deBruijn32tab", "math/bits.deBruijn64tab"], apart := false, laid := [("math/bits.deBruijn32tab", laid_math_bits_deBruijn32tab), ("math/bits.deBruijn64tab", laid_math_bits_deBruijn64tab), ("internal/strconv.uint64pow10", laid_internal_strconv_uint64pow10)] }
def FnJobsSizeSaid : Prop := fnJobsSizeRow.holds Tryd.pinned (OpenSpec.ofChange fnJobsSizeSpec)

/-- ITS FALSE NEIGHBOUR: 'it returns false'. Refute it at one input. -/
def fnJobsSizeWrong : ChangeSpec := { name := "fnJobsSize", fn := fun _ => fun
  | [d] => { results := [.lit (.bool false)], args := [d] }
  | _ => none }
def FnJobsSizeWrongFalsely : Prop := fnJobsSizeRow.holds Tryd.pinned (OpenSpec.ofChange fnJobsSizeWrong)

/-- 'laws.FnNeedOf': WHATEVER THE INPUT: true; the input reads as it did. -/
def fnNeedOfSpec : ChangeSpec := { name := "fnNeedOf", fn := fun _ => fun
  | [d] => { results := [.lit (.bool true)], args := [d] }
  | _ => none }
def fnNeedOfRow : OpenClaim := { program := "ytaadlgpglfpmpaadoor", sum := "7aa2caf647928e66b4d7a0b966c0dfaecd25f3a68e48a55b3fefa29d814054ba", func := "loop.example/dualmodes/laws.FnNeedOf", spec := "fnNeedOf", inPlace := ["internal/abi.NoEscape", "internal/bytealg.MakeNoZero"], named := ["internal/strconv.uint64pow10", "math/bits.deBruijn32tab", "math/bits.deBruijn64tab"], apart := false, laid := [("math/bits.deBruijn32tab", laid_math_bits_deBruijn32tab), ("math/bits.deBruijn64tab", laid_math_bits_deBruijn64tab), ("internal/strconv.uint64pow10", laid_internal_strconv_uint64pow10)] }
def FnNeedOfSaid : Prop := fnNeedOfRow.holds Tryd.pinned (OpenSpec.ofChange fnNeedOfSpec)

/-- ITS FALSE NEIGHBOUR: 'it returns false'. Refute it at one input. -/
def fnNeedOfWrong : ChangeSpec := { name := "fnNeedOf", fn := fun _ => fun
  | [d] => { results := [.lit (.bool false)], args := [d] }
  | _ => none }
def FnNeedOfWrongFalsely : Prop := fnNeedOfRow.holds Tryd.pinned (OpenSpec.ofChange fnNeedOfWrong)

/-- 'laws.FnNeedParts': WHATEVER THE INPUT: true; the input reads as it did. -/
def fnNeedPartsSpec : ChangeSpec := { name := "fnNeedParts", fn := fun _ => fun
  | [d] => { results := [.lit (.bool true)], args := [d] }
  | _ => none }
def fnNeedPartsRow : OpenClaim := { program := "ytaadlgpglfpmpaadoor", sum := "7aa2caf647928e66b4d7a0b966c0dfaecd25f3a68e48a55b3fefa29d814054ba", func := "loop.example/dualmodes/laws.FnNeedParts", spec := "fnNeedParts", inPlace := ["internal/abi.NoEscape", "internal/bytealg.MakeNoZero"], named := ["internal/strconv.uint64pow10", "math/bits.deBruijn32tab", "math/bits.deBruijn64tab"], apart := false, laid := [("math/bits.deBruijn32tab", laid_math_bits_deBruijn32tab), ("math/bits.deBruijn64tab", laid_math_bits_deBruijn64tab), ("internal/strconv.uint64pow10", laid_internal_strconv_uint64pow10)] }
def FnNeedPartsSaid : Prop := fnNeedPartsRow.holds Tryd.pinned (OpenSpec.ofChange fnNeedPartsSpec)

/-- ITS FALSE NEIGHBOUR: 'it returns false'. Refute it at one input. -/
def fnNeedPartsWrong : ChangeSpec := { name := "fnNeedParts", fn := fun _ => fun
  | [d] => { results := [.lit (.bool false)], args := [d] }
  | _ => none }
def FnNeedPartsWrongFalsely : Prop := fnNeedPartsRow.holds Tryd.pinned (OpenSpec.ofChange fnNeedPartsWrong)

/- THE SECOND FORM. 'bulk': how many values and letters a reading holds, each counted each time it is reached (what is shared counts as often as it is met; a slice's spare places count too). A statement '..UptoSaid' is the law's where the arguments, and the package variables that the reading takes, are together of bulk at most 1048576: NARROWER than '..Said'. Prove '..Said' where nothing that the law and all that it calls make is longer than what came in: it says more and counts as full. Else prove '..UptoSaid'. A law counts once. -/
mutual
def uptoBulk {H : Type} : DataW H → Nat
  | .lit (.string bytes) => bytes.length + 1
  | .lit _ => 1
  | .nil => 1
  | .ptr d => uptoBulk d + 1
  | .slice elems spare => uptoBulkAll elems + uptoBulkAll spare + 1
  | .agg parts => uptoBulkAll parts + 1
  | .iface _ d => uptoBulk d + 1
  | .map entries => uptoBulkEntries entries + 1
  | .held _ => 1
def uptoBulkAll {H : Type} : List (DataW H) → Nat
  | [] => 0
  | d :: r => uptoBulk d + uptoBulkAll r
def uptoBulkEntries {H : Type} : List (Lit × DataW H) → Nat
  | [] => 0
  | x :: r => uptoBulkEntry x + uptoBulkEntries r
def uptoBulkEntry {H : Type} : Lit × DataW H → Nat
  | (.string bytes, d) => bytes.length + uptoBulk d + 1
  | (_, d) => uptoBulk d + 1
 end
def uptoSmall : (H : Type) → List (DataW H) → Bool := fun _ ds => decide (uptoBulkAll ds ≤ 1048576)
def OpenSpec.upto (s : _root_.Go.ChangeSpec) : _root_.Go.OpenSpec := { _root_.Go.OpenSpec.ofChange s with cond := some uptoSmall }

/-- 'laws.FnRanOf', WHERE WHAT IT READS IS OF BULK AT MOST 1048576: true; the input reads as it did. -/
def fnRanOfUptoRow : OpenClaim := { program := "ytaadlgpglfpmpaadoor", sum := "7aa2caf647928e66b4d7a0b966c0dfaecd25f3a68e48a55b3fefa29d814054ba", func := "loop.example/dualmodes/laws.FnRanOf", spec := "fnRanOf", named := ["internal/strconv.uint64pow10", "math/bits.deBruijn32tab", "math/bits.deBruijn64tab"], apart := false, laid := [("math/bits.deBruijn32tab", laid_math_bits_deBruijn32tab), ("math/bits.deBruijn64tab", laid_math_bits_deBruijn64tab), ("internal/strconv.uint64pow10", laid_internal_strconv_uint64pow10)], narrowed := true }
def FnRanOfUptoSaid : Prop := fnRanOfUptoRow.holds Tryd.pinned (OpenSpec.upto fnRanOfSpec)

/-- 'laws.FnFormatTrace', WHERE WHAT IT READS IS OF BULK AT MOST 1048576: true; the input reads as it did. -/
def fnFormatTraceUptoRow : OpenClaim := { program := "ytaadlgpglfpmpaadoor", sum := "7aa2caf647928e66b4d7a0b966c0dfaecd25f3a68e48a55b3fefa29d814054ba", func := "loop.example/dualmodes/laws.FnFormatTrace", spec := "fnFormatTrace", named := ["internal/strconv.uint64pow10", "math/bits.deBruijn32tab", "math/bits.deBruijn64tab"], apart := false, laid := [("math/bits.deBruijn32tab", laid_math_bits_deBruijn32tab), ("math/bits.deBruijn64tab", laid_math_bits_deBruijn64tab), ("internal/strconv.uint64pow10", laid_internal_strconv_uint64pow10)], narrowed := true }
def FnFormatTraceUptoSaid : Prop := fnFormatTraceUptoRow.holds Tryd.pinned (OpenSpec.upto fnFormatTraceSpec)

/-- 'laws.FnRunSame', WHERE WHAT IT READS IS OF BULK AT MOST 1048576: true; the input reads as it did. -/
def fnRunSameUptoRow : OpenClaim := { program := "ytaadlgpglfpmpaadoor", sum := "7aa2caf647928e66b4d7a0b966c0dfaecd25f3a68e48a55b3fefa29d814054ba", func := "loop.example/dualmodes/laws.FnRunSame", spec := "fnRunSame", named := ["internal/strconv.uint64pow10", "math/bits.deBruijn32tab", "math/bits.deBruijn64tab"], apart := false, laid := [("math/bits.deBruijn32tab", laid_math_bits_deBruijn32tab), ("math/bits.deBruijn64tab", laid_math_bits_deBruijn64tab), ("internal/strconv.uint64pow10", laid_internal_strconv_uint64pow10)], narrowed := true }
def FnRunSameUptoSaid : Prop := fnRunSameUptoRow.holds Tryd.pinned (OpenSpec.upto fnRunSameSpec)

/-- 'laws.FnTraceSize', WHERE WHAT IT READS IS OF BULK AT MOST 1048576: true; the input reads as it did. -/
def fnTraceSizeUptoRow : OpenClaim := { program := "ytaadlgpglfpmpaadoor", sum := "7aa2caf647928e66b4d7a0b966c0dfaecd25f3a68e48a55b3fefa29d814054ba", func := "loop.example/dualmodes/laws.FnTraceSize", spec := "fnTraceSize", unfollowed := true, recurses := true, named := ["internal/strconv.uint64pow10", "math/bits.deBruijn32tab", "math/bits.deBruijn64tab"], apart := false, laid := [("math/bits.deBruijn32tab", laid_math_bits_deBruijn32tab), ("math/bits.deBruijn64tab", laid_math_bits_deBruijn64tab), ("internal/strconv.uint64pow10", laid_internal_strconv_uint64pow10)], narrowed := true }
def FnTraceSizeUptoSaid : Prop := fnTraceSizeUptoRow.holds Tryd.pinned (OpenSpec.upto fnTraceSizeSpec)

/-- 'laws.FnExactFormatTrace', WHERE WHAT IT READS IS OF BULK AT MOST 1048576: true; the input reads as it did. -/
def fnExactFormatTraceUptoRow : OpenClaim := { program := "ytaadlgpglfpmpaadoor", sum := "7aa2caf647928e66b4d7a0b966c0dfaecd25f3a68e48a55b3fefa29d814054ba", func := "loop.example/dualmodes/laws.FnExactFormatTrace", spec := "fnExactFormatTrace", named := ["internal/strconv.uint64pow10", "math/bits.deBruijn32tab", "math/bits.deBruijn64tab"], apart := false, laid := [("math/bits.deBruijn32tab", laid_math_bits_deBruijn32tab), ("math/bits.deBruijn64tab", laid_math_bits_deBruijn64tab), ("internal/strconv.uint64pow10", laid_internal_strconv_uint64pow10)], narrowed := true }
def FnExactFormatTraceUptoSaid : Prop := fnExactFormatTraceUptoRow.holds Tryd.pinned (OpenSpec.upto fnExactFormatTraceSpec)

/-- 'laws.FnExactFormatJobs', WHERE WHAT IT READS IS OF BULK AT MOST 1048576: true; the input reads as it did. -/
def fnExactFormatJobsUptoRow : OpenClaim := { program := "ytaadlgpglfpmpaadoor", sum := "7aa2caf647928e66b4d7a0b966c0dfaecd25f3a68e48a55b3fefa29d814054ba", func := "loop.example/dualmodes/laws.FnExactFormatJobs", spec := "fnExactFormatJobs", inPlace := ["internal/abi.NoEscape", "internal/bytealg.MakeNoZero"], recurses := true, named := ["internal/strconv.uint64pow10", "math/bits.deBruijn32tab", "math/bits.deBruijn64tab"], apart := false, laid := [("math/bits.deBruijn32tab", laid_math_bits_deBruijn32tab), ("math/bits.deBruijn64tab", laid_math_bits_deBruijn64tab), ("internal/strconv.uint64pow10", laid_internal_strconv_uint64pow10)], narrowed := true }
def FnExactFormatJobsUptoSaid : Prop := fnExactFormatJobsUptoRow.holds Tryd.pinned (OpenSpec.upto fnExactFormatJobsSpec)

/-- 'laws.FnJobsSize', WHERE WHAT IT READS IS OF BULK AT MOST 1048576: true; the input reads as it did. -/
def fnJobsSizeUptoRow : OpenClaim := { program := "ytaadlgpglfpmpaadoor", sum := "7aa2caf647928e66b4d7a0b966c0dfaecd25f3a68e48a55b3fefa29d814054ba", func := "loop.example/dualmodes/laws.FnJobsSize", spec := "fnJobsSize", inPlace := ["internal/abi.NoEscape", "internal/bytealg.MakeNoZero"], recurses := true, named := ["internal/strconv.uint64pow10", "math/bits.deBruijn32tab", "math/bits.deBruijn64tab"], apart := false, laid := [("math/bits.deBruijn32tab", laid_math_bits_deBruijn32tab), ("math/bits.deBruijn64tab", laid_math_bits_deBruijn64tab), ("internal/strconv.uint64pow10", laid_internal_strconv_uint64pow10)], narrowed := true }
def FnJobsSizeUptoSaid : Prop := fnJobsSizeUptoRow.holds Tryd.pinned (OpenSpec.upto fnJobsSizeSpec)

/-- 'laws.FnNeedOf', WHERE WHAT IT READS IS OF BULK AT MOST 1048576: true; the input reads as it did. -/
def fnNeedOfUptoRow : OpenClaim := { program := "ytaadlgpglfpmpaadoor", sum := "7aa2caf647928e66b4d7a0b966c0dfaecd25f3a68e48a55b3fefa29d814054ba", func := "loop.example/dualmodes/laws.FnNeedOf", spec := "fnNeedOf", inPlace := ["internal/abi.NoEscape", "internal/bytealg.MakeNoZero"], named := ["internal/strconv.uint64pow10", "math/bits.deBruijn32tab", "math/bits.deBruijn64tab"], apart := false, laid := [("math/bits.deBruijn32tab", laid_math_bits_deBruijn32tab), ("math/bits.deBruijn64tab", laid_math_bits_deBruijn64tab), ("internal/strconv.uint64pow10", laid_internal_strconv_uint64pow10)], narrowed := true }
def FnNeedOfUptoSaid : Prop := fnNeedOfUptoRow.holds Tryd.pinned (OpenSpec.upto fnNeedOfSpec)

/-- 'laws.FnNeedParts', WHERE WHAT IT READS IS OF BULK AT MOST 1048576: true; the input reads as it did. -/
def fnNeedPartsUptoRow : OpenClaim := { program := "ytaadlgpglfpmpaadoor", sum := "7aa2caf647928e66b4d7a0b966c0dfaecd25f3a68e48a55b3fefa29d814054ba", func := "loop.example/dualmodes/laws.FnNeedParts", spec := "fnNeedParts", inPlace := ["internal/abi.NoEscape", "internal/bytealg.MakeNoZero"], named := ["internal/strconv.uint64pow10", "math/bits.deBruijn32tab", "math/bits.deBruijn64tab"], apart := false, laid := [("math/bits.deBruijn32tab", laid_math_bits_deBruijn32tab), ("math/bits.deBruijn64tab", laid_math_bits_deBruijn64tab), ("internal/strconv.uint64pow10", laid_internal_strconv_uint64pow10)], narrowed := true }
def FnNeedPartsUptoSaid : Prop := fnNeedPartsUptoRow.holds Tryd.pinned (OpenSpec.upto fnNeedPartsSpec)

end Rows
end Go.Proofs.YtaadlgpglfpmpaaDoor
