/-
  DERIVED. GIVEN WITH THE SEED: THE CARDS: each row of YtkmgbdljiajlaaaGreatDoorRows.lean that lists a variable, with what it lists TIED to the program's text (the seventh form; the later family's looks); each row that meets fmt, with fmt's text TOLD by the authors' own Lean function (tested against real Go, not proved from fmt's source: count such statements apart). THE CARD IS WHAT COUNTS. Prove the row's statement (the work); the ties are given (YtkmgbdljiajlaaaGreatDoorTie.lean); close each card by the builder's one call (the guide's Derived/Test/ToyasCard.lean, 'card_holds'). Laid BY PROGRAM, IN A SANDBOX (cutbox-door.mjs). By AI agents, Wed Nov 11 2026. No macro, syntax, notation, axiom, sorry.
-/
import Derived.Test.YtkmgbdljiajlaaaGreatDoorRows
import GoSem.ClaimSeven
namespace Go.Proofs.YtkmgbdljiajlaaaGreatDoor
namespace Rows

/-- THE TIED CARD OF 'laws.FnDownsets'. -/
def fnDownsetsCard : Claim7 := { stood := { row := fnDownsetsRow, standIns := [], harness := (true, "b11db5ce2eb59e6097a7c16fd9e47b5b3af5e99e8feff4bb862f6319f9ec24d5"), looks := false }, kinds := [], alts := [], laidByText := true, laidKinds := [.data, .data, .data], laidTests := true, laidLooks := .later }
def FnDownsetsCardSaid : Prop := Claim7.holds Tryz.pinned (.plain (OpenSpec.ofChange fnDownsetsSpec)) fnDownsetsCard

/-- THE SECOND FORM's CARD OF 'laws.FnDownsets'. -/
def fnDownsetsUptoCard : Claim7 := { stood := { row := fnDownsetsUptoRow, standIns := [], harness := (true, "b11db5ce2eb59e6097a7c16fd9e47b5b3af5e99e8feff4bb862f6319f9ec24d5"), looks := false }, kinds := [], alts := [], laidByText := true, laidKinds := [.data, .data, .data], laidTests := true, laidLooks := .later }
def FnDownsetsUptoCardSaid : Prop := Claim7.holds Tryz.pinned (.plain (OpenSpec.upto fnDownsetsSpec)) fnDownsetsUptoCard
end Rows
end Go.Proofs.YtkmgbdljiajlaaaGreatDoor
