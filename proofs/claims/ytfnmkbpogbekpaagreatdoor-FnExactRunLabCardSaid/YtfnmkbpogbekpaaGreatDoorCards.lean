/-
  DERIVED. GIVEN WITH THE SEED: THE CARDS: each row of YtfnmkbpogbekpaaGreatDoorRows.lean that lists a variable, with what it lists TIED to the program's text (the seventh form; the later family's looks); each row that meets fmt, with fmt's text TOLD by the authors' own Lean function (tested against real Go, not proved from fmt's source: count such statements apart). THE CARD IS WHAT COUNTS. Prove the row's statement (the work); the ties are given (YtfnmkbpogbekpaaGreatDoorTie.lean); close each card by the builder's one call (the guide's Derived/Test/ToyasCard.lean, 'card_holds'). Laid BY PROGRAM, IN A SANDBOX (cutbox-door.mjs). By AI agents, Wed Nov 11 2026. No macro, syntax, notation, axiom, sorry.
-/
import Derived.Test.YtfnmkbpogbekpaaGreatDoorRows
import GoSem.ClaimSeven
namespace Go.Proofs.YtfnmkbpogbekpaaGreatDoor
namespace Rows

/-- THE TIED CARD OF 'laws.FnExactNewConsole'. -/
def fnExactNewConsoleCard : Claim7 := { stood := { row := fnExactNewConsoleRow, standIns := [], harness := (true, "6c8046551f5c8f72f1a0038acd5581088648927e7493450828783c5c5c1f005d"), looks := true }, kinds := [], alts := [], laidByText := true, laidKinds := [.data, .data, .data, .data, .sentinel, .sentinel, .pinned], laidTests := true, laidLooks := .later }
def FnExactNewConsoleCardSaid : Prop := Claim7.holds Tryz.pinned (.plain (OpenSpec.ofChange fnExactNewConsoleSpec)) fnExactNewConsoleCard

/-- THE TIED CARD OF 'laws.FnExactStepLab'. -/
def fnExactStepLabCard : Claim7 := { stood := { row := fnExactStepLabRow, standIns := [], harness := (true, "6c8046551f5c8f72f1a0038acd5581088648927e7493450828783c5c5c1f005d"), looks := true }, kinds := [], alts := [], laidByText := true, laidKinds := [.data, .data, .data, .data, .sentinel, .sentinel, .pinned], laidTests := true, laidLooks := .later }
def FnExactStepLabCardSaid : Prop := Claim7.holds Tryz.pinned (.plain (OpenSpec.ofChange fnExactStepLabSpec)) fnExactStepLabCard

/-- THE TIED CARD OF 'laws.FnExactRunLab'. -/
def fnExactRunLabCard : Claim7 := { stood := { row := fnExactRunLabRow, standIns := [], harness := (true, "6c8046551f5c8f72f1a0038acd5581088648927e7493450828783c5c5c1f005d"), looks := true }, kinds := [], alts := [], laidByText := true, laidKinds := [.data, .data, .data, .data, .sentinel, .sentinel, .pinned], laidTests := true, laidLooks := .later }
def FnExactRunLabCardSaid : Prop := Claim7.holds Tryz.pinned (.plain (OpenSpec.ofChange fnExactRunLabSpec)) fnExactRunLabCard

/-- THE SECOND FORM's CARD OF 'laws.FnExactNewConsole'. -/
def fnExactNewConsoleUptoCard : Claim7 := { stood := { row := fnExactNewConsoleUptoRow, standIns := [], harness := (true, "6c8046551f5c8f72f1a0038acd5581088648927e7493450828783c5c5c1f005d"), looks := true }, kinds := [], alts := [], laidByText := true, laidKinds := [.data, .data, .data, .data, .sentinel, .sentinel, .pinned], laidTests := true, laidLooks := .later }
def FnExactNewConsoleUptoCardSaid : Prop := Claim7.holds Tryz.pinned (.plain (OpenSpec.upto fnExactNewConsoleSpec)) fnExactNewConsoleUptoCard

/-- THE SECOND FORM's CARD OF 'laws.FnExactStepLab'. -/
def fnExactStepLabUptoCard : Claim7 := { stood := { row := fnExactStepLabUptoRow, standIns := [], harness := (true, "6c8046551f5c8f72f1a0038acd5581088648927e7493450828783c5c5c1f005d"), looks := true }, kinds := [], alts := [], laidByText := true, laidKinds := [.data, .data, .data, .data, .sentinel, .sentinel, .pinned], laidTests := true, laidLooks := .later }
def FnExactStepLabUptoCardSaid : Prop := Claim7.holds Tryz.pinned (.plain (OpenSpec.upto fnExactStepLabSpec)) fnExactStepLabUptoCard

/-- THE SECOND FORM's CARD OF 'laws.FnExactRunLab'. -/
def fnExactRunLabUptoCard : Claim7 := { stood := { row := fnExactRunLabUptoRow, standIns := [], harness := (true, "6c8046551f5c8f72f1a0038acd5581088648927e7493450828783c5c5c1f005d"), looks := true }, kinds := [], alts := [], laidByText := true, laidKinds := [.data, .data, .data, .data, .sentinel, .sentinel, .pinned], laidTests := true, laidLooks := .later }
def FnExactRunLabUptoCardSaid : Prop := Claim7.holds Tryz.pinned (.plain (OpenSpec.upto fnExactRunLabSpec)) fnExactRunLabUptoCard
end Rows
end Go.Proofs.YtfnmkbpogbekpaaGreatDoor
