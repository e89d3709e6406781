/-
  No cell of these rows narrows 'for every input' (looked for: loops, veiled, ifaces, maps, wideKeys, modest, calm, conditions, laid).
  DERIVED. THE GIVEN ROWS OF THIS SEAT. 4 by the template 'for every input the law returns true; each argument reads behind the call as it read before'; 0 by the template 'total and deterministic' (their statements: YtkmcdocbdhhfhaaGreatTotals.lean).
  GIVEN WITH THE SEED: the statements are not yours to turn. If you find one false, say at which input.
  Laid BY PROGRAM, IN A SANDBOX (cutbox-rows.mjs): the forced cells as the released guide's own fill.sh prints them over the translation 7c4e10e668525af8… (all of the seat's roots in one cut). By AI agents, Wed Nov 11 2026. No macro, syntax, notation, axiom, sorry.
-/
import Derived.Test.YtkmcdocbdhhfhaaGreatChecked
import GoSem.Claim
import GoSem.ClaimJoined
import GoSem.ClaimMapViews
import Derived.JoinedTies
import Derived.KernelRfl
namespace Go.Proofs.YtkmcdocbdhhfhaaGreat
/- THE CELL 'sum', in the pinned program and in every row, IS THE sha256 OF THE DUMP (.gsa) THAT YtkmcdocbdhhfhaaGreatProg.lean LOADS. Nothing in Lean hashes anything: it is a label: what it is worth is what the hold of that sum in a sandbox is worth. -/
noncomputable def Tryz.pinned : Pinned := { name := "ytkmcdocbdhhfhaagreat", sum := "7c4e10e668525af81742264ad1364fbc08d94225255afd41f490c4b5dda6e265", checked := Tryz.checked }
namespace Rows
def none {H : Type} : Left H := { results := [], args := [] }

/-- 'laws.FnExactIsLab': WHATEVER THE INPUT: true; the input reads as it did. -/
def fnExactIsLabSpec : ChangeSpec := { name := "fnExactIsLab", fn := fun _ => fun
  | [d] => { results := [.lit (.bool true)], args := [d] }
  | _ => none }
def fnExactIsLabRow : OpenClaim := { program := "ytkmcdocbdhhfhaagreat", sum := "7c4e10e668525af81742264ad1364fbc08d94225255afd41f490c4b5dda6e265", func := "loop.example/g01078/laws.FnExactIsLab", spec := "fnExactIsLab", apart := false }
def FnExactIsLabSaid : Prop := fnExactIsLabRow.holds Tryz.pinned (OpenSpec.ofChange fnExactIsLabSpec)

/-- ITS FALSE NEIGHBOUR: 'it returns false'. Refute it at one input. -/
def fnExactIsLabWrong : ChangeSpec := { name := "fnExactIsLab", fn := fun _ => fun
  | [d] => { results := [.lit (.bool false)], args := [d] }
  | _ => none }
def FnExactIsLabWrongFalsely : Prop := fnExactIsLabRow.holds Tryz.pinned (OpenSpec.ofChange fnExactIsLabWrong)

/-- 'laws.FnExactFactFor': WHATEVER THE INPUT: true; the input reads as it did. -/
def fnExactFactForSpec : ChangeSpec := { name := "fnExactFactFor", fn := fun _ => fun
  | [d1, d2] => { results := [.lit (.bool true)], args := [d1, d2] }
  | _ => none }
def fnExactFactForRow : OpenClaim := { program := "ytkmcdocbdhhfhaagreat", sum := "7c4e10e668525af81742264ad1364fbc08d94225255afd41f490c4b5dda6e265", func := "loop.example/g01078/laws.FnExactFactFor", spec := "fnExactFactFor", apart := false }
def FnExactFactForSaid : Prop := fnExactFactForRow.holds Tryz.pinned (OpenSpec.ofChange fnExactFactForSpec)

/-- ITS FALSE NEIGHBOUR: 'it returns false'. Refute it at one input. -/
def fnExactFactForWrong : ChangeSpec := { name := "fnExactFactFor", fn := fun _ => fun
  | [d1, d2] => { results := [.lit (.bool false)], args := [d1, d2] }
  | _ => none }
def FnExactFactForWrongFalsely : Prop := fnExactFactForRow.holds Tryz.pinned (OpenSpec.ofChange fnExactFactForWrong)

/-- 'laws.FnExactFactsOfKind': WHATEVER THE INPUT: true; the input reads as it did. -/
def fnExactFactsOfKindSpec : ChangeSpec := { name := "fnExactFactsOfKind", fn := fun _ => fun
  | [d1, d2] => { results := [.lit (.bool true)], args := [d1, d2] }
  | _ => none }
def fnExactFactsOfKindRow : OpenClaim := { program := "ytkmcdocbdhhfhaagreat", sum := "7c4e10e668525af81742264ad1364fbc08d94225255afd41f490c4b5dda6e265", func := "loop.example/g01078/laws.FnExactFactsOfKind", spec := "fnExactFactsOfKind", apart := false }
def FnExactFactsOfKindSaid : Prop := fnExactFactsOfKindRow.holds Tryz.pinned (OpenSpec.ofChange fnExactFactsOfKindSpec)

/-- ITS FALSE NEIGHBOUR: 'it returns false'. Refute it at one input. -/
def fnExactFactsOfKindWrong : ChangeSpec := { name := "fnExactFactsOfKind", fn := fun _ => fun
  | [d1, d2] => { results := [.lit (.bool false)], args := [d1, d2] }
  | _ => none }
def FnExactFactsOfKindWrongFalsely : Prop := fnExactFactsOfKindRow.holds Tryz.pinned (OpenSpec.ofChange fnExactFactsOfKindWrong)

/-- 'laws.FnExactRenameFact': WHATEVER THE INPUT: true; the input reads as it did. -/
def fnExactRenameFactSpec : ChangeSpec := { name := "fnExactRenameFact", fn := fun _ => fun
  | [d1, d2, d3] => { results := [.lit (.bool true)], args := [d1, d2, d3] }
  | _ => none }
def fnExactRenameFactRow : OpenClaim := { program := "ytkmcdocbdhhfhaagreat", sum := "7c4e10e668525af81742264ad1364fbc08d94225255afd41f490c4b5dda6e265", func := "loop.example/g01078/laws.FnExactRenameFact", spec := "fnExactRenameFact", recurses := true, apart := false }
def FnExactRenameFactSaid : Prop := fnExactRenameFactRow.holds Tryz.pinned (OpenSpec.ofChange fnExactRenameFactSpec)

/-- ITS FALSE NEIGHBOUR: 'it returns false'. Refute it at one input. -/
def fnExactRenameFactWrong : ChangeSpec := { name := "fnExactRenameFact", fn := fun _ => fun
  | [d1, d2, d3] => { results := [.lit (.bool false)], args := [d1, d2, d3] }
  | _ => none }
def FnExactRenameFactWrongFalsely : Prop := fnExactRenameFactRow.holds Tryz.pinned (OpenSpec.ofChange fnExactRenameFactWrong)

/- THE SECOND FORM. 'bulk': how many values and letters a reading holds, each counted each time it is reached (what is shared counts as often as it is met; a slice's spare places count too). A statement '..UptoSaid' is the law's where the arguments, and the package variables that the reading takes, are together of bulk at most 1048576: NARROWER than '..Said'. Prove '..Said' where nothing that the law and all that it calls make is longer than what came in: it says more and counts as full. Else prove '..UptoSaid'. A law counts once. -/
mutual
def uptoBulk {H : Type} : DataW H → Nat
  | .lit (.string bytes) => bytes.length + 1
  | .lit _ => 1
  | .nil => 1
  | .ptr d => uptoBulk d + 1
  | .slice elems spare => uptoBulkAll elems + uptoBulkAll spare + 1
  | .agg parts => uptoBulkAll parts + 1
  | .iface _ d => uptoBulk d + 1
  | .map entries => uptoBulkEntries entries + 1
  | .held _ => 1
def uptoBulkAll {H : Type} : List (DataW H) → Nat
  | [] => 0
  | d :: r => uptoBulk d + uptoBulkAll r
def uptoBulkEntries {H : Type} : List (Lit × DataW H) → Nat
  | [] => 0
  | x :: r => uptoBulkEntry x + uptoBulkEntries r
def uptoBulkEntry {H : Type} : Lit × DataW H → Nat
  | (.string bytes, d) => bytes.length + uptoBulk d + 1
  | (_, d) => uptoBulk d + 1
 end
def uptoSmall : (H : Type) → List (DataW H) → Bool := fun _ ds => decide (uptoBulkAll ds ≤ 1048576)
def OpenSpec.upto (s : _root_.Go.ChangeSpec) : _root_.Go.OpenSpec := { _root_.Go.OpenSpec.ofChange s with cond := some uptoSmall }

/-- 'laws.FnExactIsLab', WHERE WHAT IT READS IS OF BULK AT MOST 1048576: true; the input reads as it did. -/
def fnExactIsLabUptoRow : OpenClaim := { program := "ytkmcdocbdhhfhaagreat", sum := "7c4e10e668525af81742264ad1364fbc08d94225255afd41f490c4b5dda6e265", func := "loop.example/g01078/laws.FnExactIsLab", spec := "fnExactIsLab", apart := false, narrowed := true }
def FnExactIsLabUptoSaid : Prop := fnExactIsLabUptoRow.holds Tryz.pinned (OpenSpec.upto fnExactIsLabSpec)

/-- 'laws.FnExactFactFor', WHERE WHAT IT READS IS OF BULK AT MOST 1048576: true; the input reads as it did. -/
def fnExactFactForUptoRow : OpenClaim := { program := "ytkmcdocbdhhfhaagreat", sum := "7c4e10e668525af81742264ad1364fbc08d94225255afd41f490c4b5dda6e265", func := "loop.example/g01078/laws.FnExactFactFor", spec := "fnExactFactFor", apart := false, narrowed := true }
def FnExactFactForUptoSaid : Prop := fnExactFactForUptoRow.holds Tryz.pinned (OpenSpec.upto fnExactFactForSpec)

/-- 'laws.FnExactFactsOfKind', WHERE WHAT IT READS IS OF BULK AT MOST 1048576: true; the input reads as it did. -/
def fnExactFactsOfKindUptoRow : OpenClaim := { program := "ytkmcdocbdhhfhaagreat", sum := "7c4e10e668525af81742264ad1364fbc08d94225255afd41f490c4b5dda6e265", func := "loop.example/g01078/laws.FnExactFactsOfKind", spec := "fnExactFactsOfKind", apart := false, narrowed := true }
def FnExactFactsOfKindUptoSaid : Prop := fnExactFactsOfKindUptoRow.holds Tryz.pinned (OpenSpec.upto fnExactFactsOfKindSpec)

/-- 'laws.FnExactRenameFact', WHERE WHAT IT READS IS OF BULK AT MOST 1048576: true; the input reads as it did. -/
def fnExactRenameFactUptoRow : OpenClaim := { program := "ytkmcdocbdhhfhaagreat", sum := "7c4e10e668525af81742264ad1364fbc08d94225255afd41f490c4b5dda6e265", func := "loop.example/g01078/laws.FnExactRenameFact", spec := "fnExactRenameFact", recurses := true, apart := false, narrowed := true }
def FnExactRenameFactUptoSaid : Prop := fnExactRenameFactUptoRow.holds Tryz.pinned (OpenSpec.upto fnExactRenameFactSpec)

end Rows
end Go.Proofs.YtkmcdocbdhhfhaaGreat
