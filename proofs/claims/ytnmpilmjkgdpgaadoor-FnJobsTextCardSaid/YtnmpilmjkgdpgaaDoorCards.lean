/-
  DERIVED. GIVEN WITH THE SEED: THE CARDS: each row of YtnmpilmjkgdpgaaDoorRows.lean that lists a variable, with what it lists TIED to the program's text (the seventh form; the later family's looks); each row that meets fmt, with fmt's text TOLD by the authors' own Lean function (tested against real Go, not proved from fmt's source: count such statements apart). THE CARD IS WHAT COUNTS. Prove the row's statement (the work); the ties are given (YtnmpilmjkgdpgaaDoorTie.lean); close each card by the builder's one call (the guide's Derived/Test/ToyasCard.lean, 'card_holds'). Laid BY PROGRAM, IN A SANDBOX (cutbox-door.mjs). By AI agents, Wed Nov 11 2026. No macro, syntax, notation, axiom, sorry.
-/
import Derived.Test.YtnmpilmjkgdpgaaDoorRows
import GoSem.ClaimSeven
namespace Go.Proofs.YtnmpilmjkgdpgaaDoor
namespace Rows

/-- THE TIED CARD OF 'laws.FnExactParseJobs'. -/
def fnExactParseJobsCard : Claim7 := { stood := { row := fnExactParseJobsRow, standIns := [], harness := (true, "6da6bd128da1a5fd14dc48dc6a0abd798be616f8bf3568ca1cf6fa937f99012d"), looks := true }, kinds := [], alts := [], laidByText := true, laidKinds := [.data, .data, .data, .data, .sentinel, .sentinel, .pinned], laidTests := true, laidLooks := .later }
def FnExactParseJobsCardSaid : Prop := Claim7.holds Tryd.pinned (.plain (OpenSpec.ofChange fnExactParseJobsSpec)) fnExactParseJobsCard

/-- THE TIED CARD OF 'laws.FnWorstText'. -/
def fnWorstTextCard : Claim7 := { stood := { row := fnWorstTextRow, standIns := [], harness := (true, "6da6bd128da1a5fd14dc48dc6a0abd798be616f8bf3568ca1cf6fa937f99012d"), looks := true }, kinds := [], alts := [], laidByText := true, laidKinds := [.data, .data, .data, .data, .sentinel, .sentinel, .pinned], laidTests := true, laidLooks := .later }
def FnWorstTextCardSaid : Prop := Claim7.holds Tryd.pinned (.plain (OpenSpec.ofChange fnWorstTextSpec)) fnWorstTextCard

/-- THE TIED CARD OF 'laws.FnJobsText'. -/
def fnJobsTextCard : Claim7 := { stood := { row := fnJobsTextRow, standIns := [], harness := (true, "6da6bd128da1a5fd14dc48dc6a0abd798be616f8bf3568ca1cf6fa937f99012d"), looks := true }, kinds := [], alts := [], laidByText := true, laidKinds := [.data, .data, .data, .data, .sentinel, .sentinel, .pinned], laidTests := true, laidLooks := .later }
def FnJobsTextCardSaid : Prop := Claim7.holds Tryd.pinned (.plain (OpenSpec.ofChange fnJobsTextSpec)) fnJobsTextCard

/-- THE SECOND FORM's CARD OF 'laws.FnExactParseJobs'. -/
def fnExactParseJobsUptoCard : Claim7 := { stood := { row := fnExactParseJobsUptoRow, standIns := [], harness := (true, "6da6bd128da1a5fd14dc48dc6a0abd798be616f8bf3568ca1cf6fa937f99012d"), looks := true }, kinds := [], alts := [], laidByText := true, laidKinds := [.data, .data, .data, .data, .sentinel, .sentinel, .pinned], laidTests := true, laidLooks := .later }
def FnExactParseJobsUptoCardSaid : Prop := Claim7.holds Tryd.pinned (.plain (OpenSpec.upto fnExactParseJobsSpec)) fnExactParseJobsUptoCard

/-- THE SECOND FORM's CARD OF 'laws.FnWorstText'. -/
def fnWorstTextUptoCard : Claim7 := { stood := { row := fnWorstTextUptoRow, standIns := [], harness := (true, "6da6bd128da1a5fd14dc48dc6a0abd798be616f8bf3568ca1cf6fa937f99012d"), looks := true }, kinds := [], alts := [], laidByText := true, laidKinds := [.data, .data, .data, .data, .sentinel, .sentinel, .pinned], laidTests := true, laidLooks := .later }
def FnWorstTextUptoCardSaid : Prop := Claim7.holds Tryd.pinned (.plain (OpenSpec.upto fnWorstTextSpec)) fnWorstTextUptoCard

/-- THE SECOND FORM's CARD OF 'laws.FnJobsText'. -/
def fnJobsTextUptoCard : Claim7 := { stood := { row := fnJobsTextUptoRow, standIns := [], harness := (true, "6da6bd128da1a5fd14dc48dc6a0abd798be616f8bf3568ca1cf6fa937f99012d"), looks := true }, kinds := [], alts := [], laidByText := true, laidKinds := [.data, .data, .data, .data, .sentinel, .sentinel, .pinned], laidTests := true, laidLooks := .later }
def FnJobsTextUptoCardSaid : Prop := Claim7.holds Tryd.pinned (.plain (OpenSpec.upto fnJobsTextSpec)) fnJobsTextUptoCard
end Rows
end Go.Proofs.YtnmpilmjkgdpgaaDoor
