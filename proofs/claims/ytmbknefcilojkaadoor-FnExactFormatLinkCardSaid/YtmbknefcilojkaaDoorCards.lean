/-
  DERIVED. GIVEN WITH THE SEED: THE CARDS: each row of YtmbknefcilojkaaDoorRows.lean that lists a variable, with what it lists TIED to the program's text (the seventh form; the later family's looks); each row that meets fmt, with fmt's text TOLD by the authors' own Lean function (tested against real Go, not proved from fmt's source: count such statements apart). THE CARD IS WHAT COUNTS. Prove the row's statement (the work); the ties are given (YtmbknefcilojkaaDoorTie.lean); close each card by the builder's one call (the guide's Derived/Test/ToyasCard.lean, 'card_holds'). Laid BY PROGRAM, IN A SANDBOX (cutbox-door.mjs). By AI agents, Wed Nov 11 2026. No macro, syntax, notation, axiom, sorry.
-/
import Derived.Test.YtmbknefcilojkaaDoorRows
import GoSem.ClaimSeven
namespace Go.Proofs.YtmbknefcilojkaaDoor
namespace Rows

/-- THE TIED CARD OF 'laws.FnExactFormatLink'. -/
def fnExactFormatLinkCard : Claim7 := { stood := { row := fnExactFormatLinkRow, standIns := [], harness := (true, "9858a354151e093706cadb4233c13492abc6df04e84ddd63db73fe035a83b1ed"), looks := false }, kinds := [], alts := [], laidByText := true, laidKinds := [.data, .data, .data], laidTests := true, laidLooks := .later }
def FnExactFormatLinkCardSaid : Prop := Claim7.holds Tryd.pinned (.plain (OpenSpec.ofChange fnExactFormatLinkSpec)) fnExactFormatLinkCard

/-- THE TIED CARD OF 'laws.FnExactFormatSearch'. -/
def fnExactFormatSearchCard : Claim7 := { stood := { row := fnExactFormatSearchRow, standIns := [], harness := (true, "9858a354151e093706cadb4233c13492abc6df04e84ddd63db73fe035a83b1ed"), looks := false }, kinds := [], alts := [], laidByText := true, laidKinds := [.data, .data, .data], laidTests := true, laidLooks := .later }
def FnExactFormatSearchCardSaid : Prop := Claim7.holds Tryd.pinned (.plain (OpenSpec.ofChange fnExactFormatSearchSpec)) fnExactFormatSearchCard

/-- THE TIED CARD OF 'laws.FnExactFormatDelay'. -/
def fnExactFormatDelayCard : Claim7 := { stood := { row := fnExactFormatDelayRow, standIns := [], harness := (true, "9858a354151e093706cadb4233c13492abc6df04e84ddd63db73fe035a83b1ed"), looks := false }, kinds := [], alts := [], laidByText := true, laidKinds := [.data, .data, .data], laidTests := true, laidLooks := .later }
def FnExactFormatDelayCardSaid : Prop := Claim7.holds Tryd.pinned (.plain (OpenSpec.ofChange fnExactFormatDelaySpec)) fnExactFormatDelayCard

/-- THE SECOND FORM's CARD OF 'laws.FnExactFormatLink'. -/
def fnExactFormatLinkUptoCard : Claim7 := { stood := { row := fnExactFormatLinkUptoRow, standIns := [], harness := (true, "9858a354151e093706cadb4233c13492abc6df04e84ddd63db73fe035a83b1ed"), looks := false }, kinds := [], alts := [], laidByText := true, laidKinds := [.data, .data, .data], laidTests := true, laidLooks := .later }
def FnExactFormatLinkUptoCardSaid : Prop := Claim7.holds Tryd.pinned (.plain (OpenSpec.upto fnExactFormatLinkSpec)) fnExactFormatLinkUptoCard

/-- THE SECOND FORM's CARD OF 'laws.FnExactFormatSearch'. -/
def fnExactFormatSearchUptoCard : Claim7 := { stood := { row := fnExactFormatSearchUptoRow, standIns := [], harness := (true, "9858a354151e093706cadb4233c13492abc6df04e84ddd63db73fe035a83b1ed"), looks := false }, kinds := [], alts := [], laidByText := true, laidKinds := [.data, .data, .data], laidTests := true, laidLooks := .later }
def FnExactFormatSearchUptoCardSaid : Prop := Claim7.holds Tryd.pinned (.plain (OpenSpec.upto fnExactFormatSearchSpec)) fnExactFormatSearchUptoCard

/-- THE SECOND FORM's CARD OF 'laws.FnExactFormatDelay'. -/
def fnExactFormatDelayUptoCard : Claim7 := { stood := { row := fnExactFormatDelayUptoRow, standIns := [], harness := (true, "9858a354151e093706cadb4233c13492abc6df04e84ddd63db73fe035a83b1ed"), looks := false }, kinds := [], alts := [], laidByText := true, laidKinds := [.data, .data, .data], laidTests := true, laidLooks := .later }
def FnExactFormatDelayUptoCardSaid : Prop := Claim7.holds Tryd.pinned (.plain (OpenSpec.upto fnExactFormatDelaySpec)) fnExactFormatDelayUptoCard
end Rows
end Go.Proofs.YtmbknefcilojkaaDoor
