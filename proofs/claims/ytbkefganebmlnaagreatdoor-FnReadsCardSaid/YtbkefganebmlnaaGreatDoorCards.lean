/-
  DERIVED. GIVEN WITH THE SEED: THE CARDS: each row of YtbkefganebmlnaaGreatDoorRows.lean that lists a variable, with what it lists TIED to the program's text (the seventh form; the later family's looks); each row that meets fmt, with fmt's text TOLD by the authors' own Lean function (tested against real Go, not proved from fmt's source: count such statements apart). THE CARD IS WHAT COUNTS. Prove the row's statement (the work); the ties are given (YtbkefganebmlnaaGreatDoorTie.lean); close each card by the builder's one call (the guide's Derived/Test/ToyasCard.lean, 'card_holds'). Laid BY PROGRAM, IN A SANDBOX (cutbox-door.mjs). By AI agents, Wed Nov 11 2026. No macro, syntax, notation, axiom, sorry.
-/
import Derived.Test.YtbkefganebmlnaaGreatDoorRows
import GoSem.ClaimSeven
namespace Go.Proofs.YtbkefganebmlnaaGreatDoor
namespace Rows

/-- THE TIED CARD OF 'laws.FnExactParseDelay'. -/
def fnExactParseDelayCard : Claim7 := { stood := { row := fnExactParseDelayRow, standIns := [], harness := (true, "c705312848dd247ddcf9be8474ad08fd39a323bc1e9df6247325ecdc4cafcabf"), looks := true }, kinds := [], alts := [], laidByText := true, laidKinds := [.data, .data, .data, .sentinel, .sentinel], laidTests := true, laidLooks := .later }
def FnExactParseDelayCardSaid : Prop := Claim7.holds Tryz.pinned (.plain (OpenSpec.ofChange fnExactParseDelaySpec)) fnExactParseDelayCard

/-- THE TIED CARD OF 'laws.FnReads'. -/
def fnReadsCard : Claim7 := { stood := { row := fnReadsRow, standIns := [], harness := (true, "c705312848dd247ddcf9be8474ad08fd39a323bc1e9df6247325ecdc4cafcabf"), looks := true }, kinds := [], alts := [], laidByText := true, laidKinds := [.data, .data, .data, .sentinel, .sentinel], laidTests := true, laidLooks := .later }
def FnReadsCardSaid : Prop := Claim7.holds Tryz.pinned (.plain (OpenSpec.ofChange fnReadsSpec)) fnReadsCard

/-- THE TIED CARD OF 'laws.FnClauses'. -/
def fnClausesCard : Claim7 := { stood := { row := fnClausesRow, standIns := [], harness := (true, "c705312848dd247ddcf9be8474ad08fd39a323bc1e9df6247325ecdc4cafcabf"), looks := true }, kinds := [], alts := [], laidByText := true, laidKinds := [.data, .data, .data, .sentinel, .sentinel], laidTests := true, laidLooks := .later }
def FnClausesCardSaid : Prop := Claim7.holds Tryz.pinned (.plain (OpenSpec.ofChange fnClausesSpec)) fnClausesCard

/-- THE SECOND FORM's CARD OF 'laws.FnExactParseDelay'. -/
def fnExactParseDelayUptoCard : Claim7 := { stood := { row := fnExactParseDelayUptoRow, standIns := [], harness := (true, "c705312848dd247ddcf9be8474ad08fd39a323bc1e9df6247325ecdc4cafcabf"), looks := true }, kinds := [], alts := [], laidByText := true, laidKinds := [.data, .data, .data, .sentinel, .sentinel], laidTests := true, laidLooks := .later }
def FnExactParseDelayUptoCardSaid : Prop := Claim7.holds Tryz.pinned (.plain (OpenSpec.upto fnExactParseDelaySpec)) fnExactParseDelayUptoCard

/-- THE SECOND FORM's CARD OF 'laws.FnReads'. -/
def fnReadsUptoCard : Claim7 := { stood := { row := fnReadsUptoRow, standIns := [], harness := (true, "c705312848dd247ddcf9be8474ad08fd39a323bc1e9df6247325ecdc4cafcabf"), looks := true }, kinds := [], alts := [], laidByText := true, laidKinds := [.data, .data, .data, .sentinel, .sentinel], laidTests := true, laidLooks := .later }
def FnReadsUptoCardSaid : Prop := Claim7.holds Tryz.pinned (.plain (OpenSpec.upto fnReadsSpec)) fnReadsUptoCard

/-- THE SECOND FORM's CARD OF 'laws.FnClauses'. -/
def fnClausesUptoCard : Claim7 := { stood := { row := fnClausesUptoRow, standIns := [], harness := (true, "c705312848dd247ddcf9be8474ad08fd39a323bc1e9df6247325ecdc4cafcabf"), looks := true }, kinds := [], alts := [], laidByText := true, laidKinds := [.data, .data, .data, .sentinel, .sentinel], laidTests := true, laidLooks := .later }
def FnClausesUptoCardSaid : Prop := Claim7.holds Tryz.pinned (.plain (OpenSpec.upto fnClausesSpec)) fnClausesUptoCard
end Rows
end Go.Proofs.YtbkefganebmlnaaGreatDoor
