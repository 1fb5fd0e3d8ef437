/-
  DERIVED. GIVEN WITH THE SEED: THE CARDS: each row of YtholdafohofboaaGreatDoorRows.lean that lists a variable, with what it lists TIED to the program's text (the seventh form; the later family's looks); each row that meets fmt, with fmt's text TOLD by the authors' own Lean function (tested against real Go, not proved from fmt's source: count such statements apart). THE CARD IS WHAT COUNTS. Prove the row's statement (the work); the ties are given (YtholdafohofboaaGreatDoorTie.lean); close each card by the builder's one call (the guide's Derived/Test/ToyasCard.lean, 'card_holds'). Laid BY PROGRAM, IN A SANDBOX (cutbox-door.mjs). By AI agents, Wed Nov 11 2026. No macro, syntax, notation, axiom, sorry.
-/
import Derived.Test.YtholdafohofboaaGreatDoorRows
import GoSem.ClaimSeven
namespace Go.Proofs.YtholdafohofboaaGreatDoor
namespace Rows

/-- THE TIED CARD OF 'laws.FnExactResourceRow'. -/
def fnExactResourceRowCard : Claim7 := { stood := { row := fnExactResourceRowRow, standIns := [], harness := (true, "56455fecb8e2517925eaa4cbb52f19ce7828df062f21a577cb5a4e8c43cc881f"), looks := true }, kinds := [], alts := [], laidByText := true, laidKinds := [.data, .data, .data], laidTests := true, laidLooks := .later }
def FnExactResourceRowCardSaid : Prop := Claim7.holds Tryz.pinned (.plain (OpenSpec.ofChange fnExactResourceRowSpec)) fnExactResourceRowCard

/-- THE TIED CARD OF 'laws.FnExactChartRows'. -/
def fnExactChartRowsCard : Claim7 := { stood := { row := fnExactChartRowsRow, standIns := [], harness := (true, "56455fecb8e2517925eaa4cbb52f19ce7828df062f21a577cb5a4e8c43cc881f"), looks := true }, kinds := [], alts := [], laidByText := true, laidKinds := [.data, .data, .data], laidTests := true, laidLooks := .later }
def FnExactChartRowsCardSaid : Prop := Claim7.holds Tryz.pinned (.plain (OpenSpec.ofChange fnExactChartRowsSpec)) fnExactChartRowsCard

/-- THE TIED CARD OF 'laws.FnExactFormatResult'. -/
def fnExactFormatResultCard : Claim7 := { stood := { row := fnExactFormatResultRow, standIns := [], harness := (true, "56455fecb8e2517925eaa4cbb52f19ce7828df062f21a577cb5a4e8c43cc881f"), looks := true }, kinds := [], alts := [], laidByText := true, laidKinds := [.data, .data, .data], laidTests := true, laidLooks := .later }
def FnExactFormatResultCardSaid : Prop := Claim7.holds Tryz.pinned (.plain (OpenSpec.ofChange fnExactFormatResultSpec)) fnExactFormatResultCard

/-- THE TIED CARD OF 'laws.FnExactConsoleOk'. -/
def fnExactConsoleOkCard : Claim7 := { stood := { row := fnExactConsoleOkRow, standIns := [], harness := (true, "56455fecb8e2517925eaa4cbb52f19ce7828df062f21a577cb5a4e8c43cc881f"), looks := true }, kinds := [], alts := [], laidByText := true, laidKinds := [.data, .data, .data], laidTests := true, laidLooks := .later }
def FnExactConsoleOkCardSaid : Prop := Claim7.holds Tryz.pinned (.plain (OpenSpec.ofChange fnExactConsoleOkSpec)) fnExactConsoleOkCard

/-- THE TIED CARD OF 'laws.FnExactParseDelay'. -/
def fnExactParseDelayCard : Claim7 := { stood := { row := fnExactParseDelayRow, standIns := [], harness := (true, "56455fecb8e2517925eaa4cbb52f19ce7828df062f21a577cb5a4e8c43cc881f"), looks := true }, kinds := [], alts := [], laidByText := true, laidKinds := [.data, .data, .data, .sentinel, .sentinel], laidTests := true, laidLooks := .later }
def FnExactParseDelayCardSaid : Prop := Claim7.holds Tryz.pinned (.plain (OpenSpec.ofChange fnExactParseDelaySpec)) fnExactParseDelayCard

/-- THE TIED CARD OF 'laws.FnRows'. -/
def fnRowsCard : Claim7 := { stood := { row := fnRowsRow, standIns := [], harness := (true, "56455fecb8e2517925eaa4cbb52f19ce7828df062f21a577cb5a4e8c43cc881f"), looks := true }, kinds := [], alts := [], laidByText := true, laidKinds := [.data, .data, .data], laidTests := true, laidLooks := .later }
def FnRowsCardSaid : Prop := Claim7.holds Tryz.pinned (.plain (OpenSpec.ofChange fnRowsSpec)) fnRowsCard

/-- THE SECOND FORM's CARD OF 'laws.FnExactResourceRow'. -/
def fnExactResourceRowUptoCard : Claim7 := { stood := { row := fnExactResourceRowUptoRow, standIns := [], harness := (true, "56455fecb8e2517925eaa4cbb52f19ce7828df062f21a577cb5a4e8c43cc881f"), looks := true }, kinds := [], alts := [], laidByText := true, laidKinds := [.data, .data, .data], laidTests := true, laidLooks := .later }
def FnExactResourceRowUptoCardSaid : Prop := Claim7.holds Tryz.pinned (.plain (OpenSpec.upto fnExactResourceRowSpec)) fnExactResourceRowUptoCard

/-- THE SECOND FORM's CARD OF 'laws.FnExactChartRows'. -/
def fnExactChartRowsUptoCard : Claim7 := { stood := { row := fnExactChartRowsUptoRow, standIns := [], harness := (true, "56455fecb8e2517925eaa4cbb52f19ce7828df062f21a577cb5a4e8c43cc881f"), looks := true }, kinds := [], alts := [], laidByText := true, laidKinds := [.data, .data, .data], laidTests := true, laidLooks := .later }
def FnExactChartRowsUptoCardSaid : Prop := Claim7.holds Tryz.pinned (.plain (OpenSpec.upto fnExactChartRowsSpec)) fnExactChartRowsUptoCard

/-- THE SECOND FORM's CARD OF 'laws.FnExactFormatResult'. -/
def fnExactFormatResultUptoCard : Claim7 := { stood := { row := fnExactFormatResultUptoRow, standIns := [], harness := (true, "56455fecb8e2517925eaa4cbb52f19ce7828df062f21a577cb5a4e8c43cc881f"), looks := true }, kinds := [], alts := [], laidByText := true, laidKinds := [.data, .data, .data], laidTests := true, laidLooks := .later }
def FnExactFormatResultUptoCardSaid : Prop := Claim7.holds Tryz.pinned (.plain (OpenSpec.upto fnExactFormatResultSpec)) fnExactFormatResultUptoCard

/-- THE SECOND FORM's CARD OF 'laws.FnExactConsoleOk'. -/
def fnExactConsoleOkUptoCard : Claim7 := { stood := { row := fnExactConsoleOkUptoRow, standIns := [], harness := (true, "56455fecb8e2517925eaa4cbb52f19ce7828df062f21a577cb5a4e8c43cc881f"), looks := true }, kinds := [], alts := [], laidByText := true, laidKinds := [.data, .data, .data], laidTests := true, laidLooks := .later }
def FnExactConsoleOkUptoCardSaid : Prop := Claim7.holds Tryz.pinned (.plain (OpenSpec.upto fnExactConsoleOkSpec)) fnExactConsoleOkUptoCard

/-- THE SECOND FORM's CARD OF 'laws.FnExactParseDelay'. -/
def fnExactParseDelayUptoCard : Claim7 := { stood := { row := fnExactParseDelayUptoRow, standIns := [], harness := (true, "56455fecb8e2517925eaa4cbb52f19ce7828df062f21a577cb5a4e8c43cc881f"), looks := true }, kinds := [], alts := [], laidByText := true, laidKinds := [.data, .data, .data, .sentinel, .sentinel], laidTests := true, laidLooks := .later }
def FnExactParseDelayUptoCardSaid : Prop := Claim7.holds Tryz.pinned (.plain (OpenSpec.upto fnExactParseDelaySpec)) fnExactParseDelayUptoCard

/-- THE SECOND FORM's CARD OF 'laws.FnRows'. -/
def fnRowsUptoCard : Claim7 := { stood := { row := fnRowsUptoRow, standIns := [], harness := (true, "56455fecb8e2517925eaa4cbb52f19ce7828df062f21a577cb5a4e8c43cc881f"), looks := true }, kinds := [], alts := [], laidByText := true, laidKinds := [.data, .data, .data], laidTests := true, laidLooks := .later }
def FnRowsUptoCardSaid : Prop := Claim7.holds Tryz.pinned (.plain (OpenSpec.upto fnRowsSpec)) fnRowsUptoCard
end Rows
end Go.Proofs.YtholdafohofboaaGreatDoor
