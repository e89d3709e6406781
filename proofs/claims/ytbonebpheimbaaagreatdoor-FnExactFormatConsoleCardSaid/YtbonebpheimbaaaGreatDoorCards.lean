/-
  DERIVED. GIVEN WITH THE SEED: THE CARDS: each row of YtbonebpheimbaaaGreatDoorRows.lean that lists a variable, with what it lists TIED to the program's text (the seventh form; the later family's looks); each row that meets fmt, with fmt's text TOLD by the authors' own Lean function (tested against real Go, not proved from fmt's source: count such statements apart). THE CARD IS WHAT COUNTS. Prove the row's statement (the work); the ties are given (YtbonebpheimbaaaGreatDoorTie.lean); close each card by the builder's one call (the guide's Derived/Test/ToyasCard.lean, 'card_holds'). Laid BY PROGRAM, IN A SANDBOX (cutbox-door.mjs). By AI agents, Wed Nov 11 2026. No macro, syntax, notation, axiom, sorry.
-/
import Derived.Test.YtbonebpheimbaaaGreatDoorRows
import GoSem.ClaimSeven
namespace Go.Proofs.YtbonebpheimbaaaGreatDoor
namespace Rows

/-- THE TIED CARD OF 'laws.FnExactIsValidConsole'. -/
def fnExactIsValidConsoleCard : Claim7 := { stood := { row := fnExactIsValidConsoleRow, standIns := [], harness := (true, "3cb58ae8c608790b1a531016212f84afe17dfc958e66ac027bf5188d0aca312a"), looks := false }, kinds := [], alts := [], laidByText := true, laidKinds := [.data, .data, .data], laidTests := true, laidLooks := .later }
def FnExactIsValidConsoleCardSaid : Prop := Claim7.holds Tryz.pinned (.plain (OpenSpec.ofChange fnExactIsValidConsoleSpec)) fnExactIsValidConsoleCard

/-- THE TIED CARD OF 'laws.FnExactFormatConsole'. -/
def fnExactFormatConsoleCard : Claim7 := { stood := { row := fnExactFormatConsoleRow, standIns := [], harness := (true, "3cb58ae8c608790b1a531016212f84afe17dfc958e66ac027bf5188d0aca312a"), looks := false }, kinds := [], alts := [], laidByText := true, laidKinds := [.data, .data, .data], laidTests := true, laidLooks := .later }
def FnExactFormatConsoleCardSaid : Prop := Claim7.holds Tryz.pinned (.plain (OpenSpec.ofChange fnExactFormatConsoleSpec)) fnExactFormatConsoleCard

/-- THE SECOND FORM's CARD OF 'laws.FnExactIsValidConsole'. -/
def fnExactIsValidConsoleUptoCard : Claim7 := { stood := { row := fnExactIsValidConsoleUptoRow, standIns := [], harness := (true, "3cb58ae8c608790b1a531016212f84afe17dfc958e66ac027bf5188d0aca312a"), looks := false }, kinds := [], alts := [], laidByText := true, laidKinds := [.data, .data, .data], laidTests := true, laidLooks := .later }
def FnExactIsValidConsoleUptoCardSaid : Prop := Claim7.holds Tryz.pinned (.plain (OpenSpec.upto fnExactIsValidConsoleSpec)) fnExactIsValidConsoleUptoCard

/-- THE SECOND FORM's CARD OF 'laws.FnExactFormatConsole'. -/
def fnExactFormatConsoleUptoCard : Claim7 := { stood := { row := fnExactFormatConsoleUptoRow, standIns := [], harness := (true, "3cb58ae8c608790b1a531016212f84afe17dfc958e66ac027bf5188d0aca312a"), looks := false }, kinds := [], alts := [], laidByText := true, laidKinds := [.data, .data, .data], laidTests := true, laidLooks := .later }
def FnExactFormatConsoleUptoCardSaid : Prop := Claim7.holds Tryz.pinned (.plain (OpenSpec.upto fnExactFormatConsoleSpec)) fnExactFormatConsoleUptoCard
end Rows
end Go.Proofs.YtbonebpheimbaaaGreatDoor
