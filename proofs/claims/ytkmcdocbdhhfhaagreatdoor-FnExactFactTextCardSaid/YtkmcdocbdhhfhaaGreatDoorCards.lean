/-
  DERIVED. GIVEN WITH THE SEED: THE CARDS: each row of YtkmcdocbdhhfhaaGreatDoorRows.lean that lists a variable, with what it lists TIED to the program's text (the seventh form; the later family's looks); each row that meets fmt, with fmt's text TOLD by the authors' own Lean function (tested against real Go, not proved from fmt's source: count such statements apart). THE CARD IS WHAT COUNTS. Prove the row's statement (the work); the ties are given (YtkmcdocbdhhfhaaGreatDoorTie.lean); close each card by the builder's one call (the guide's Derived/Test/ToyasCard.lean, 'card_holds'). Laid BY PROGRAM, IN A SANDBOX (cutbox-door.mjs). By AI agents, Wed Nov 11 2026. No macro, syntax, notation, axiom, sorry.
-/
import Derived.Test.YtkmcdocbdhhfhaaGreatDoorRows
import GoSem.ClaimSeven
namespace Go.Proofs.YtkmcdocbdhhfhaaGreatDoor
namespace Rows

/-- THE TIED CARD OF 'laws.FnExactLabLine'. -/
def fnExactLabLineCard : Claim7 := { stood := { row := fnExactLabLineRow, standIns := [], harness := (true, "476a55d0a6db4a0efea7790ebb3d0817fb33fe749bdfd596e56c77b17e8f212e"), looks := false }, kinds := [], alts := [], laidByText := true, laidKinds := [.data, .data, .data], laidTests := true, laidLooks := .later }
def FnExactLabLineCardSaid : Prop := Claim7.holds Tryz.pinned (.plain (OpenSpec.ofChange fnExactLabLineSpec)) fnExactLabLineCard

/-- THE TIED CARD OF 'laws.FnExactFactText'. -/
def fnExactFactTextCard : Claim7 := { stood := { row := fnExactFactTextRow, standIns := [], harness := (true, "476a55d0a6db4a0efea7790ebb3d0817fb33fe749bdfd596e56c77b17e8f212e"), looks := false }, kinds := [], alts := [], laidByText := true, laidKinds := [.data, .data, .data], laidTests := true, laidLooks := .later }
def FnExactFactTextCardSaid : Prop := Claim7.holds Tryz.pinned (.plain (OpenSpec.ofChange fnExactFactTextSpec)) fnExactFactTextCard

/-- THE SECOND FORM's CARD OF 'laws.FnExactLabLine'. -/
def fnExactLabLineUptoCard : Claim7 := { stood := { row := fnExactLabLineUptoRow, standIns := [], harness := (true, "476a55d0a6db4a0efea7790ebb3d0817fb33fe749bdfd596e56c77b17e8f212e"), looks := false }, kinds := [], alts := [], laidByText := true, laidKinds := [.data, .data, .data], laidTests := true, laidLooks := .later }
def FnExactLabLineUptoCardSaid : Prop := Claim7.holds Tryz.pinned (.plain (OpenSpec.upto fnExactLabLineSpec)) fnExactLabLineUptoCard

/-- THE SECOND FORM's CARD OF 'laws.FnExactFactText'. -/
def fnExactFactTextUptoCard : Claim7 := { stood := { row := fnExactFactTextUptoRow, standIns := [], harness := (true, "476a55d0a6db4a0efea7790ebb3d0817fb33fe749bdfd596e56c77b17e8f212e"), looks := false }, kinds := [], alts := [], laidByText := true, laidKinds := [.data, .data, .data], laidTests := true, laidLooks := .later }
def FnExactFactTextUptoCardSaid : Prop := Claim7.holds Tryz.pinned (.plain (OpenSpec.upto fnExactFactTextSpec)) fnExactFactTextUptoCard
end Rows
end Go.Proofs.YtkmcdocbdhhfhaaGreatDoor
