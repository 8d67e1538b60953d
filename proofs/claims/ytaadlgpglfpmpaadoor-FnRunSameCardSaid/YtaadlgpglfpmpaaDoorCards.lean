/-
  DERIVED. GIVEN WITH THE SEED: THE CARDS: each row of YtaadlgpglfpmpaaDoorRows.lean that lists a variable, with what it lists TIED to the program's text (the seventh form; the later family's looks); each row that meets fmt, with fmt's text TOLD by the authors' own Lean function (tested against real Go, not proved from fmt's source: count such statements apart). THE CARD IS WHAT COUNTS. Prove the row's statement (the work); the ties are given (YtaadlgpglfpmpaaDoorTie.lean); close each card by the builder's one call (the guide's Derived/Test/ToyasCard.lean, 'card_holds'). Laid BY PROGRAM, IN A SANDBOX (cutbox-door.mjs). By AI agents, Wed Nov 11 2026. No macro, syntax, notation, axiom, sorry.
-/
import Derived.Test.YtaadlgpglfpmpaaDoorRows
import GoSem.ClaimSeven
namespace Go.Proofs.YtaadlgpglfpmpaaDoor
namespace Rows

/-- THE TIED CARD OF 'laws.FnRanOf'. -/
def fnRanOfCard : Claim7 := { stood := { row := fnRanOfRow, standIns := [], harness := (true, "2038166af907e90510fcc29f065dbb9bce80b6e06df9985f6698e6675ef8c0c2"), looks := false }, kinds := [], alts := [], laidByText := true, laidKinds := [.data, .data, .data], laidTests := true, laidLooks := .later }
def FnRanOfCardSaid : Prop := Claim7.holds Tryd.pinned (.plain (OpenSpec.ofChange fnRanOfSpec)) fnRanOfCard

/-- THE TIED CARD OF 'laws.FnFormatTrace'. -/
def fnFormatTraceCard : Claim7 := { stood := { row := fnFormatTraceRow, standIns := [], harness := (true, "2038166af907e90510fcc29f065dbb9bce80b6e06df9985f6698e6675ef8c0c2"), looks := false }, kinds := [], alts := [], laidByText := true, laidKinds := [.data, .data, .data], laidTests := true, laidLooks := .later }
def FnFormatTraceCardSaid : Prop := Claim7.holds Tryd.pinned (.plain (OpenSpec.ofChange fnFormatTraceSpec)) fnFormatTraceCard

/-- THE TIED CARD OF 'laws.FnRunSame'. -/
def fnRunSameCard : Claim7 := { stood := { row := fnRunSameRow, standIns := [], harness := (true, "2038166af907e90510fcc29f065dbb9bce80b6e06df9985f6698e6675ef8c0c2"), looks := false }, kinds := [], alts := [], laidByText := true, laidKinds := [.data, .data, .data], laidTests := true, laidLooks := .later }
def FnRunSameCardSaid : Prop := Claim7.holds Tryd.pinned (.plain (OpenSpec.ofChange fnRunSameSpec)) fnRunSameCard

/-- THE TIED CARD OF 'laws.FnTraceSize'. -/
def fnTraceSizeCard : Claim7 := { stood := { row := fnTraceSizeRow, standIns := [], harness := (true, "2038166af907e90510fcc29f065dbb9bce80b6e06df9985f6698e6675ef8c0c2"), looks := false }, kinds := [], alts := [], laidByText := true, laidKinds := [.data, .data, .data], laidTests := true, laidLooks := .later }
def FnTraceSizeCardSaid : Prop := Claim7.holds Tryd.pinned (.plain (OpenSpec.ofChange fnTraceSizeSpec)) fnTraceSizeCard

/-- THE TIED CARD OF 'laws.FnExactFormatTrace'. -/
def fnExactFormatTraceCard : Claim7 := { stood := { row := fnExactFormatTraceRow, standIns := [], harness := (true, "2038166af907e90510fcc29f065dbb9bce80b6e06df9985f6698e6675ef8c0c2"), looks := false }, kinds := [], alts := [], laidByText := true, laidKinds := [.data, .data, .data], laidTests := true, laidLooks := .later }
def FnExactFormatTraceCardSaid : Prop := Claim7.holds Tryd.pinned (.plain (OpenSpec.ofChange fnExactFormatTraceSpec)) fnExactFormatTraceCard

/-- THE TIED CARD OF 'laws.FnExactFormatJobs'. -/
def fnExactFormatJobsCard : Claim7 := { stood := { row := fnExactFormatJobsRow, standIns := [], harness := (true, "2038166af907e90510fcc29f065dbb9bce80b6e06df9985f6698e6675ef8c0c2"), looks := false }, kinds := [], alts := [], laidByText := true, laidKinds := [.data, .data, .data], laidTests := true, laidLooks := .later }
def FnExactFormatJobsCardSaid : Prop := Claim7.holds Tryd.pinned (.plain (OpenSpec.ofChange fnExactFormatJobsSpec)) fnExactFormatJobsCard

/-- THE TIED CARD OF 'laws.FnJobsSize'. -/
def fnJobsSizeCard : Claim7 := { stood := { row := fnJobsSizeRow, standIns := [], harness := (true, "2038166af907e90510fcc29f065dbb9bce80b6e06df9985f6698e6675ef8c0c2"), looks := false }, kinds := [], alts := [], laidByText := true, laidKinds := [.data, .data, .data], laidTests := true, laidLooks := .later }
def FnJobsSizeCardSaid : Prop := Claim7.holds Tryd.pinned (.plain (OpenSpec.ofChange fnJobsSizeSpec)) fnJobsSizeCard

/-- THE TIED CARD OF 'laws.FnNeedOf'. -/
def fnNeedOfCard : Claim7 := { stood := { row := fnNeedOfRow, standIns := [], harness := (true, "2038166af907e90510fcc29f065dbb9bce80b6e06df9985f6698e6675ef8c0c2"), looks := false }, kinds := [], alts := [], laidByText := true, laidKinds := [.data, .data, .data], laidTests := true, laidLooks := .later }
def FnNeedOfCardSaid : Prop := Claim7.holds Tryd.pinned (.plain (OpenSpec.ofChange fnNeedOfSpec)) fnNeedOfCard

/-- THE TIED CARD OF 'laws.FnNeedParts'. -/
def fnNeedPartsCard : Claim7 := { stood := { row := fnNeedPartsRow, standIns := [], harness := (true, "2038166af907e90510fcc29f065dbb9bce80b6e06df9985f6698e6675ef8c0c2"), looks := false }, kinds := [], alts := [], laidByText := true, laidKinds := [.data, .data, .data], laidTests := true, laidLooks := .later }
def FnNeedPartsCardSaid : Prop := Claim7.holds Tryd.pinned (.plain (OpenSpec.ofChange fnNeedPartsSpec)) fnNeedPartsCard

/-- THE SECOND FORM's CARD OF 'laws.FnRanOf'. -/
def fnRanOfUptoCard : Claim7 := { stood := { row := fnRanOfUptoRow, standIns := [], harness := (true, "2038166af907e90510fcc29f065dbb9bce80b6e06df9985f6698e6675ef8c0c2"), looks := false }, kinds := [], alts := [], laidByText := true, laidKinds := [.data, .data, .data], laidTests := true, laidLooks := .later }
def FnRanOfUptoCardSaid : Prop := Claim7.holds Tryd.pinned (.plain (OpenSpec.upto fnRanOfSpec)) fnRanOfUptoCard

/-- THE SECOND FORM's CARD OF 'laws.FnFormatTrace'. -/
def fnFormatTraceUptoCard : Claim7 := { stood := { row := fnFormatTraceUptoRow, standIns := [], harness := (true, "2038166af907e90510fcc29f065dbb9bce80b6e06df9985f6698e6675ef8c0c2"), looks := false }, kinds := [], alts := [], laidByText := true, laidKinds := [.data, .data, .data], laidTests := true, laidLooks := .later }
def FnFormatTraceUptoCardSaid : Prop := Claim7.holds Tryd.pinned (.plain (OpenSpec.upto fnFormatTraceSpec)) fnFormatTraceUptoCard

/-- THE SECOND FORM's CARD OF 'laws.FnRunSame'. -/
def fnRunSameUptoCard : Claim7 := { stood := { row := fnRunSameUptoRow, standIns := [], harness := (true, "2038166af907e90510fcc29f065dbb9bce80b6e06df9985f6698e6675ef8c0c2"), looks := false }, kinds := [], alts := [], laidByText := true, laidKinds := [.data, .data, .data], laidTests := true, laidLooks := .later }
def FnRunSameUptoCardSaid : Prop := Claim7.holds Tryd.pinned (.plain (OpenSpec.upto fnRunSameSpec)) fnRunSameUptoCard

/-- THE SECOND FORM's CARD OF 'laws.FnTraceSize'. -/
def fnTraceSizeUptoCard : Claim7 := { stood := { row := fnTraceSizeUptoRow, standIns := [], harness := (true, "2038166af907e90510fcc29f065dbb9bce80b6e06df9985f6698e6675ef8c0c2"), looks := false }, kinds := [], alts := [], laidByText := true, laidKinds := [.data, .data, .data], laidTests := true, laidLooks := .later }
def FnTraceSizeUptoCardSaid : Prop := Claim7.holds Tryd.pinned (.plain (OpenSpec.upto fnTraceSizeSpec)) fnTraceSizeUptoCard

/-- THE SECOND FORM's CARD OF 'laws.FnExactFormatTrace'. -/
def fnExactFormatTraceUptoCard : Claim7 := { stood := { row := fnExactFormatTraceUptoRow, standIns := [], harness := (true, "2038166af907e90510fcc29f065dbb9bce80b6e06df9985f6698e6675ef8c0c2"), looks := false }, kinds := [], alts := [], laidByText := true, laidKinds := [.data, .data, .data], laidTests := true, laidLooks := .later }
def FnExactFormatTraceUptoCardSaid : Prop := Claim7.holds Tryd.pinned (.plain (OpenSpec.upto fnExactFormatTraceSpec)) fnExactFormatTraceUptoCard

/-- THE SECOND FORM's CARD OF 'laws.FnExactFormatJobs'. -/
def fnExactFormatJobsUptoCard : Claim7 := { stood := { row := fnExactFormatJobsUptoRow, standIns := [], harness := (true, "2038166af907e90510fcc29f065dbb9bce80b6e06df9985f6698e6675ef8c0c2"), looks := false }, kinds := [], alts := [], laidByText := true, laidKinds := [.data, .data, .data], laidTests := true, laidLooks := .later }
def FnExactFormatJobsUptoCardSaid : Prop := Claim7.holds Tryd.pinned (.plain (OpenSpec.upto fnExactFormatJobsSpec)) fnExactFormatJobsUptoCard

/-- THE SECOND FORM's CARD OF 'laws.FnJobsSize'. -/
def fnJobsSizeUptoCard : Claim7 := { stood := { row := fnJobsSizeUptoRow, standIns := [], harness := (true, "2038166af907e90510fcc29f065dbb9bce80b6e06df9985f6698e6675ef8c0c2"), looks := false }, kinds := [], alts := [], laidByText := true, laidKinds := [.data, .data, .data], laidTests := true, laidLooks := .later }
def FnJobsSizeUptoCardSaid : Prop := Claim7.holds Tryd.pinned (.plain (OpenSpec.upto fnJobsSizeSpec)) fnJobsSizeUptoCard

/-- THE SECOND FORM's CARD OF 'laws.FnNeedOf'. -/
def fnNeedOfUptoCard : Claim7 := { stood := { row := fnNeedOfUptoRow, standIns := [], harness := (true, "2038166af907e90510fcc29f065dbb9bce80b6e06df9985f6698e6675ef8c0c2"), looks := false }, kinds := [], alts := [], laidByText := true, laidKinds := [.data, .data, .data], laidTests := true, laidLooks := .later }
def FnNeedOfUptoCardSaid : Prop := Claim7.holds Tryd.pinned (.plain (OpenSpec.upto fnNeedOfSpec)) fnNeedOfUptoCard

/-- THE SECOND FORM's CARD OF 'laws.FnNeedParts'. -/
def fnNeedPartsUptoCard : Claim7 := { stood := { row := fnNeedPartsUptoRow, standIns := [], harness := (true, "2038166af907e90510fcc29f065dbb9bce80b6e06df9985f6698e6675ef8c0c2"), looks := false }, kinds := [], alts := [], laidByText := true, laidKinds := [.data, .data, .data], laidTests := true, laidLooks := .later }
def FnNeedPartsUptoCardSaid : Prop := Claim7.holds Tryd.pinned (.plain (OpenSpec.upto fnNeedPartsSpec)) fnNeedPartsUptoCard
end Rows
end Go.Proofs.YtaadlgpglfpmpaaDoor
