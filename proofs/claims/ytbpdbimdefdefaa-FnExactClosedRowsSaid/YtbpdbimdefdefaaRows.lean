/-
  No cell of these rows narrows 'for every input' (looked for: loops, veiled, ifaces, maps, wideKeys, modest, calm, conditions, laid).
  DERIVED. THE GIVEN ROWS OF THIS SEAT. 6 by the template 'for every input the law returns true; each argument reads behind the call as it read before'; 0 by the template 'total and deterministic' (their statements: YtbpdbimdefdefaaTotals.lean).
  GIVEN WITH THE SEED: the statements are not yours to turn. If you find one false, say at which input.
  Laid BY PROGRAM, IN A SANDBOX (cutbox-rows.mjs): the forced cells as the released guide's own fill.sh prints them over the translation ab3834a81bbdebfb… (all of the seat's roots in one cut). By AI agents, Wed Nov 11 2026. No macro, syntax, notation, axiom, sorry.
-/
import Derived.Test.YtbpdbimdefdefaaChecked
import GoSem.Claim
import GoSem.ClaimJoined
import GoSem.ClaimMapViews
import Derived.JoinedTies
import Derived.KernelRfl
namespace Go.Proofs.Ytbpdbimdefdefaa
/- THE CELL 'sum', in the pinned program and in every row, IS THE sha256 OF THE DUMP (.gsa) THAT YtbpdbimdefdefaaProg.lean LOADS. Nothing in Lean hashes anything: it is a label: what it is worth is what the hold of that sum in a sandbox is worth. -/
noncomputable def Try.pinned : Pinned := { name := "ytbpdbimdefdefaa", sum := "ab3834a81bbdebfb4c763ba972fe9cd2de5cbecc50a8175231597577cd106946", checked := Try.checked }
namespace Rows
def none {H : Type} : Left H := { results := [], args := [] }

/-- 'laws.FnExactRemoveEntry': WHATEVER THE INPUT: true; the input reads as it did. -/
def fnExactRemoveEntrySpec : ChangeSpec := { name := "fnExactRemoveEntry", fn := fun _ => fun
  | [d1, d2] => { results := [.lit (.bool true)], args := [d1, d2] }
  | _ => none }
def fnExactRemoveEntryRow : OpenClaim := { program := "ytbpdbimdefdefaa", sum := "ab3834a81bbdebfb4c763ba972fe9cd2de5cbecc50a8175231597577cd106946", func := "loop.example/g01078/laws.FnExactRemoveEntry", spec := "fnExactRemoveEntry", unfollowed := true, recurses := true, apart := false }
def FnExactRemoveEntrySaid : Prop := fnExactRemoveEntryRow.holds Try.pinned (OpenSpec.ofChange fnExactRemoveEntrySpec)

/-- ITS FALSE NEIGHBOUR: 'it returns false'. Refute it at one input. -/
def fnExactRemoveEntryWrong : ChangeSpec := { name := "fnExactRemoveEntry", fn := fun _ => fun
  | [d1, d2] => { results := [.lit (.bool false)], args := [d1, d2] }
  | _ => none }
def FnExactRemoveEntryWrongFalsely : Prop := fnExactRemoveEntryRow.holds Try.pinned (OpenSpec.ofChange fnExactRemoveEntryWrong)

/-- 'laws.FnExactAddEntry': WHATEVER THE INPUT: true; the input reads as it did. -/
def fnExactAddEntrySpec : ChangeSpec := { name := "fnExactAddEntry", fn := fun _ => fun
  | [d1, d2, d3] => { results := [.lit (.bool true)], args := [d1, d2, d3] }
  | _ => none }
def fnExactAddEntryRow : OpenClaim := { program := "ytbpdbimdefdefaa", sum := "ab3834a81bbdebfb4c763ba972fe9cd2de5cbecc50a8175231597577cd106946", func := "loop.example/g01078/laws.FnExactAddEntry", spec := "fnExactAddEntry", unfollowed := true, recurses := true, apart := false }
def FnExactAddEntrySaid : Prop := fnExactAddEntryRow.holds Try.pinned (OpenSpec.ofChange fnExactAddEntrySpec)

/-- ITS FALSE NEIGHBOUR: 'it returns false'. Refute it at one input. -/
def fnExactAddEntryWrong : ChangeSpec := { name := "fnExactAddEntry", fn := fun _ => fun
  | [d1, d2, d3] => { results := [.lit (.bool false)], args := [d1, d2, d3] }
  | _ => none }
def FnExactAddEntryWrongFalsely : Prop := fnExactAddEntryRow.holds Try.pinned (OpenSpec.ofChange fnExactAddEntryWrong)

/-- 'laws.FnExactMergeCatalogues': WHATEVER THE INPUT: true; the input reads as it did. -/
def fnExactMergeCataloguesSpec : ChangeSpec := { name := "fnExactMergeCatalogues", fn := fun _ => fun
  | [d1, d2] => { results := [.lit (.bool true)], args := [d1, d2] }
  | _ => none }
def fnExactMergeCataloguesRow : OpenClaim := { program := "ytbpdbimdefdefaa", sum := "ab3834a81bbdebfb4c763ba972fe9cd2de5cbecc50a8175231597577cd106946", func := "loop.example/g01078/laws.FnExactMergeCatalogues", spec := "fnExactMergeCatalogues", unfollowed := true, recurses := true, apart := false }
def FnExactMergeCataloguesSaid : Prop := fnExactMergeCataloguesRow.holds Try.pinned (OpenSpec.ofChange fnExactMergeCataloguesSpec)

/-- ITS FALSE NEIGHBOUR: 'it returns false'. Refute it at one input. -/
def fnExactMergeCataloguesWrong : ChangeSpec := { name := "fnExactMergeCatalogues", fn := fun _ => fun
  | [d1, d2] => { results := [.lit (.bool false)], args := [d1, d2] }
  | _ => none }
def FnExactMergeCataloguesWrongFalsely : Prop := fnExactMergeCataloguesRow.holds Try.pinned (OpenSpec.ofChange fnExactMergeCataloguesWrong)

/-- 'laws.FnExactSystemFrom': WHATEVER THE INPUT: true; the input reads as it did. -/
def fnExactSystemFromSpec : ChangeSpec := { name := "fnExactSystemFrom", fn := fun _ => fun
  | [d1, d2] => { results := [.lit (.bool true)], args := [d1, d2] }
  | _ => none }
def fnExactSystemFromRow : OpenClaim := { program := "ytbpdbimdefdefaa", sum := "ab3834a81bbdebfb4c763ba972fe9cd2de5cbecc50a8175231597577cd106946", func := "loop.example/g01078/laws.FnExactSystemFrom", spec := "fnExactSystemFrom", inPlace := ["internal/reflectlite.ValueOf", "internal/reflectlite.Swapper", "(internal/reflectlite.Value).Len"], unfollowed := true, recurses := true, apart := false }
def FnExactSystemFromSaid : Prop := fnExactSystemFromRow.holds Try.pinned (OpenSpec.ofChange fnExactSystemFromSpec)

/-- ITS FALSE NEIGHBOUR: 'it returns false'. Refute it at one input. -/
def fnExactSystemFromWrong : ChangeSpec := { name := "fnExactSystemFrom", fn := fun _ => fun
  | [d1, d2] => { results := [.lit (.bool false)], args := [d1, d2] }
  | _ => none }
def FnExactSystemFromWrongFalsely : Prop := fnExactSystemFromRow.holds Try.pinned (OpenSpec.ofChange fnExactSystemFromWrong)

/-- 'laws.FnExactClosedRows': WHATEVER THE INPUT: true; the input reads as it did. -/
def fnExactClosedRowsSpec : ChangeSpec := { name := "fnExactClosedRows", fn := fun _ => fun
  | [d] => { results := [.lit (.bool true)], args := [d] }
  | _ => none }
def fnExactClosedRowsRow : OpenClaim := { program := "ytbpdbimdefdefaa", sum := "ab3834a81bbdebfb4c763ba972fe9cd2de5cbecc50a8175231597577cd106946", func := "loop.example/g01078/laws.FnExactClosedRows", spec := "fnExactClosedRows", inPlace := ["internal/reflectlite.ValueOf", "internal/reflectlite.Swapper", "(internal/reflectlite.Value).Len"], unfollowed := true, recurses := true, apart := false }
def FnExactClosedRowsSaid : Prop := fnExactClosedRowsRow.holds Try.pinned (OpenSpec.ofChange fnExactClosedRowsSpec)

/-- ITS FALSE NEIGHBOUR: 'it returns false'. Refute it at one input. -/
def fnExactClosedRowsWrong : ChangeSpec := { name := "fnExactClosedRows", fn := fun _ => fun
  | [d] => { results := [.lit (.bool false)], args := [d] }
  | _ => none }
def FnExactClosedRowsWrongFalsely : Prop := fnExactClosedRowsRow.holds Try.pinned (OpenSpec.ofChange fnExactClosedRowsWrong)

/-- 'laws.FnExactFreeSets': WHATEVER THE INPUT: true; the input reads as it did. -/
def fnExactFreeSetsSpec : ChangeSpec := { name := "fnExactFreeSets", fn := fun _ => fun
  | [d1, d2] => { results := [.lit (.bool true)], args := [d1, d2] }
  | _ => none }
def fnExactFreeSetsRow : OpenClaim := { program := "ytbpdbimdefdefaa", sum := "ab3834a81bbdebfb4c763ba972fe9cd2de5cbecc50a8175231597577cd106946", func := "loop.example/g01078/laws.FnExactFreeSets", spec := "fnExactFreeSets", inPlace := ["internal/reflectlite.ValueOf", "internal/reflectlite.Swapper", "(internal/reflectlite.Value).Len"], unfollowed := true, recurses := true, apart := false }
def FnExactFreeSetsSaid : Prop := fnExactFreeSetsRow.holds Try.pinned (OpenSpec.ofChange fnExactFreeSetsSpec)

/-- ITS FALSE NEIGHBOUR: 'it returns false'. Refute it at one input. -/
def fnExactFreeSetsWrong : ChangeSpec := { name := "fnExactFreeSets", fn := fun _ => fun
  | [d1, d2] => { results := [.lit (.bool false)], args := [d1, d2] }
  | _ => none }
def FnExactFreeSetsWrongFalsely : Prop := fnExactFreeSetsRow.holds Try.pinned (OpenSpec.ofChange fnExactFreeSetsWrong)

/- THE SECOND FORM. 'bulk': how many values and letters a reading holds, each counted each time it is reached (what is shared counts as often as it is met; a slice's spare places count too). A statement '..UptoSaid' is the law's where the arguments, and the package variables that the reading takes, are together of bulk at most 1048576: NARROWER than '..Said'. Prove '..Said' where nothing that the law and all that it calls make is longer than what came in: it says more and counts as full. Else prove '..UptoSaid'. A law counts once. -/
mutual
def uptoBulk {H : Type} : DataW H → Nat
  | .lit (.string bytes) => bytes.length + 1
  | .lit _ => 1
  | .nil => 1
  | .ptr d => uptoBulk d + 1
  | .slice elems spare => uptoBulkAll elems + uptoBulkAll spare + 1
  | .agg parts => uptoBulkAll parts + 1
  | .iface _ d => uptoBulk d + 1
  | .map entries => uptoBulkEntries entries + 1
  | .held _ => 1
def uptoBulkAll {H : Type} : List (DataW H) → Nat
  | [] => 0
  | d :: r => uptoBulk d + uptoBulkAll r
def uptoBulkEntries {H : Type} : List (Lit × DataW H) → Nat
  | [] => 0
  | x :: r => uptoBulkEntry x + uptoBulkEntries r
def uptoBulkEntry {H : Type} : Lit × DataW H → Nat
  | (.string bytes, d) => bytes.length + uptoBulk d + 1
  | (_, d) => uptoBulk d + 1
 end
def uptoSmall : (H : Type) → List (DataW H) → Bool := fun _ ds => decide (uptoBulkAll ds ≤ 1048576)
def OpenSpec.upto (s : _root_.Go.ChangeSpec) : _root_.Go.OpenSpec := { _root_.Go.OpenSpec.ofChange s with cond := some uptoSmall }

/-- 'laws.FnExactRemoveEntry', WHERE WHAT IT READS IS OF BULK AT MOST 1048576: true; the input reads as it did. -/
def fnExactRemoveEntryUptoRow : OpenClaim := { program := "ytbpdbimdefdefaa", sum := "ab3834a81bbdebfb4c763ba972fe9cd2de5cbecc50a8175231597577cd106946", func := "loop.example/g01078/laws.FnExactRemoveEntry", spec := "fnExactRemoveEntry", unfollowed := true, recurses := true, apart := false, narrowed := true }
def FnExactRemoveEntryUptoSaid : Prop := fnExactRemoveEntryUptoRow.holds Try.pinned (OpenSpec.upto fnExactRemoveEntrySpec)

/-- 'laws.FnExactAddEntry', WHERE WHAT IT READS IS OF BULK AT MOST 1048576: true; the input reads as it did. -/
def fnExactAddEntryUptoRow : OpenClaim := { program := "ytbpdbimdefdefaa", sum := "ab3834a81bbdebfb4c763ba972fe9cd2de5cbecc50a8175231597577cd106946", func := "loop.example/g01078/laws.FnExactAddEntry", spec := "fnExactAddEntry", unfollowed := true, recurses := true, apart := false, narrowed := true }
def FnExactAddEntryUptoSaid : Prop := fnExactAddEntryUptoRow.holds Try.pinned (OpenSpec.upto fnExactAddEntrySpec)

/-- 'laws.FnExactMergeCatalogues', WHERE WHAT IT READS IS OF BULK AT MOST 1048576: true; the input reads as it did. -/
def fnExactMergeCataloguesUptoRow : OpenClaim := { program := "ytbpdbimdefdefaa", sum := "ab3834a81bbdebfb4c763ba972fe9cd2de5cbecc50a8175231597577cd106946", func := "loop.example/g01078/laws.FnExactMergeCatalogues", spec := "fnExactMergeCatalogues", unfollowed := true, recurses := true, apart := false, narrowed := true }
def FnExactMergeCataloguesUptoSaid : Prop := fnExactMergeCataloguesUptoRow.holds Try.pinned (OpenSpec.upto fnExactMergeCataloguesSpec)

/-- 'laws.FnExactSystemFrom', WHERE WHAT IT READS IS OF BULK AT MOST 1048576: true; the input reads as it did. -/
def fnExactSystemFromUptoRow : OpenClaim := { program := "ytbpdbimdefdefaa", sum := "ab3834a81bbdebfb4c763ba972fe9cd2de5cbecc50a8175231597577cd106946", func := "loop.example/g01078/laws.FnExactSystemFrom", spec := "fnExactSystemFrom", inPlace := ["internal/reflectlite.ValueOf", "internal/reflectlite.Swapper", "(internal/reflectlite.Value).Len"], unfollowed := true, recurses := true, apart := false, narrowed := true }
def FnExactSystemFromUptoSaid : Prop := fnExactSystemFromUptoRow.holds Try.pinned (OpenSpec.upto fnExactSystemFromSpec)

/-- 'laws.FnExactClosedRows', WHERE WHAT IT READS IS OF BULK AT MOST 1048576: true; the input reads as it did. -/
def fnExactClosedRowsUptoRow : OpenClaim := { program := "ytbpdbimdefdefaa", sum := "ab3834a81bbdebfb4c763ba972fe9cd2de5cbecc50a8175231597577cd106946", func := "loop.example/g01078/laws.FnExactClosedRows", spec := "fnExactClosedRows", inPlace := ["internal/reflectlite.ValueOf", "internal/reflectlite.Swapper", "(internal/reflectlite.Value).Len"], unfollowed := true, recurses := true, apart := false, narrowed := true }
def FnExactClosedRowsUptoSaid : Prop := fnExactClosedRowsUptoRow.holds Try.pinned (OpenSpec.upto fnExactClosedRowsSpec)

/-- 'laws.FnExactFreeSets', WHERE WHAT IT READS IS OF BULK AT MOST 1048576: true; the input reads as it did. -/
def fnExactFreeSetsUptoRow : OpenClaim := { program := "ytbpdbimdefdefaa", sum := "ab3834a81bbdebfb4c763ba972fe9cd2de5cbecc50a8175231597577cd106946", func := "loop.example/g01078/laws.FnExactFreeSets", spec := "fnExactFreeSets", inPlace := ["internal/reflectlite.ValueOf", "internal/reflectlite.Swapper", "(internal/reflectlite.Value).Len"], unfollowed := true, recurses := true, apart := false, narrowed := true }
def FnExactFreeSetsUptoSaid : Prop := fnExactFreeSetsUptoRow.holds Try.pinned (OpenSpec.upto fnExactFreeSetsSpec)

end Rows
end Go.Proofs.Ytbpdbimdefdefaa
