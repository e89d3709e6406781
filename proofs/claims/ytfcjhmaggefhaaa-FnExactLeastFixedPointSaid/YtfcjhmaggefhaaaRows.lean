/-
  No cell of these rows narrows 'for every input' (looked for: loops, veiled, ifaces, maps, wideKeys, modest, calm, conditions, laid).
  DERIVED. THE GIVEN ROWS OF THIS SEAT. 12 by the template 'for every input the law returns true; each argument reads behind the call as it read before'; 0 by the template 'total and deterministic' (their statements: YtfcjhmaggefhaaaTotals.lean).
  GIVEN WITH THE SEED: the statements are not yours to turn. If you find one false, say at which input.
  Laid BY PROGRAM, IN A SANDBOX (cutbox-rows.mjs): the forced cells as the released guide's own fill.sh prints them over the translation 3388cb16ba8bde9e… (all of the seat's roots in one cut). By AI agents, Wed Nov 11 2026. No macro, syntax, notation, axiom, sorry.
-/
import Derived.Test.YtfcjhmaggefhaaaChecked
import GoSem.Claim
import GoSem.ClaimJoined
import GoSem.ClaimMapViews
import Derived.JoinedTies
import Derived.KernelRfl
namespace Go.Proofs.Ytfcjhmaggefhaaa
/- THE CELL 'sum', in the pinned program and in every row, IS THE sha256 OF THE DUMP (.gsa) THAT YtfcjhmaggefhaaaProg.lean LOADS. Nothing in Lean hashes anything: it is a label: what it is worth is what the hold of that sum in a sandbox is worth. -/
noncomputable def Try.pinned : Pinned := { name := "ytfcjhmaggefhaaa", sum := "3388cb16ba8bde9e7287cdb6c661f32f6b82f417eb49bfcd6c55e40b8effe054", checked := Try.checked }
namespace Rows
def none {H : Type} : Left H := { results := [], args := [] }

/-- 'laws.FnExactIsMonotone': WHATEVER THE INPUT: true; the input reads as it did. -/
def fnExactIsMonotoneSpec : ChangeSpec := { name := "fnExactIsMonotone", fn := fun _ => fun
  | [d1, d2, d3] => { results := [.lit (.bool true)], args := [d1, d2, d3] }
  | _ => none }
def fnExactIsMonotoneRow : OpenClaim := { program := "ytfcjhmaggefhaaa", sum := "3388cb16ba8bde9e7287cdb6c661f32f6b82f417eb49bfcd6c55e40b8effe054", func := "loop.example/g01078/laws.FnExactIsMonotone", spec := "fnExactIsMonotone", apart := false }
def FnExactIsMonotoneSaid : Prop := fnExactIsMonotoneRow.holds Try.pinned (OpenSpec.ofChange fnExactIsMonotoneSpec)

/-- ITS FALSE NEIGHBOUR: 'it returns false'. Refute it at one input. -/
def fnExactIsMonotoneWrong : ChangeSpec := { name := "fnExactIsMonotone", fn := fun _ => fun
  | [d1, d2, d3] => { results := [.lit (.bool false)], args := [d1, d2, d3] }
  | _ => none }
def FnExactIsMonotoneWrongFalsely : Prop := fnExactIsMonotoneRow.holds Try.pinned (OpenSpec.ofChange fnExactIsMonotoneWrong)

/-- 'laws.FnExactIsClosureSystem': WHATEVER THE INPUT: true; the input reads as it did. -/
def fnExactIsClosureSystemSpec : ChangeSpec := { name := "fnExactIsClosureSystem", fn := fun _ => fun
  | [d1, d2] => { results := [.lit (.bool true)], args := [d1, d2] }
  | _ => none }
def fnExactIsClosureSystemRow : OpenClaim := { program := "ytfcjhmaggefhaaa", sum := "3388cb16ba8bde9e7287cdb6c661f32f6b82f417eb49bfcd6c55e40b8effe054", func := "loop.example/g01078/laws.FnExactIsClosureSystem", spec := "fnExactIsClosureSystem", apart := false }
def FnExactIsClosureSystemSaid : Prop := fnExactIsClosureSystemRow.holds Try.pinned (OpenSpec.ofChange fnExactIsClosureSystemSpec)

/-- ITS FALSE NEIGHBOUR: 'it returns false'. Refute it at one input. -/
def fnExactIsClosureSystemWrong : ChangeSpec := { name := "fnExactIsClosureSystem", fn := fun _ => fun
  | [d1, d2] => { results := [.lit (.bool false)], args := [d1, d2] }
  | _ => none }
def FnExactIsClosureSystemWrongFalsely : Prop := fnExactIsClosureSystemRow.holds Try.pinned (OpenSpec.ofChange fnExactIsClosureSystemWrong)

/-- 'laws.FnExactUpperAdjoint': WHATEVER THE INPUT: true; the input reads as it did. -/
def fnExactUpperAdjointSpec : ChangeSpec := { name := "fnExactUpperAdjoint", fn := fun _ => fun
  | [d1, d2, d3] => { results := [.lit (.bool true)], args := [d1, d2, d3] }
  | _ => none }
def fnExactUpperAdjointRow : OpenClaim := { program := "ytfcjhmaggefhaaa", sum := "3388cb16ba8bde9e7287cdb6c661f32f6b82f417eb49bfcd6c55e40b8effe054", func := "loop.example/g01078/laws.FnExactUpperAdjoint", spec := "fnExactUpperAdjoint", unfollowed := true, recurses := true, apart := false }
def FnExactUpperAdjointSaid : Prop := fnExactUpperAdjointRow.holds Try.pinned (OpenSpec.ofChange fnExactUpperAdjointSpec)

/-- ITS FALSE NEIGHBOUR: 'it returns false'. Refute it at one input. -/
def fnExactUpperAdjointWrong : ChangeSpec := { name := "fnExactUpperAdjoint", fn := fun _ => fun
  | [d1, d2, d3] => { results := [.lit (.bool false)], args := [d1, d2, d3] }
  | _ => none }
def FnExactUpperAdjointWrongFalsely : Prop := fnExactUpperAdjointRow.holds Try.pinned (OpenSpec.ofChange fnExactUpperAdjointWrong)

/-- 'laws.FnExactClosureOf': WHATEVER THE INPUT: true; the input reads as it did. -/
def fnExactClosureOfSpec : ChangeSpec := { name := "fnExactClosureOf", fn := fun _ => fun
  | [d1, d2, d3] => { results := [.lit (.bool true)], args := [d1, d2, d3] }
  | _ => none }
def fnExactClosureOfRow : OpenClaim := { program := "ytfcjhmaggefhaaa", sum := "3388cb16ba8bde9e7287cdb6c661f32f6b82f417eb49bfcd6c55e40b8effe054", func := "loop.example/g01078/laws.FnExactClosureOf", spec := "fnExactClosureOf", apart := false }
def FnExactClosureOfSaid : Prop := fnExactClosureOfRow.holds Try.pinned (OpenSpec.ofChange fnExactClosureOfSpec)

/-- ITS FALSE NEIGHBOUR: 'it returns false'. Refute it at one input. -/
def fnExactClosureOfWrong : ChangeSpec := { name := "fnExactClosureOf", fn := fun _ => fun
  | [d1, d2, d3] => { results := [.lit (.bool false)], args := [d1, d2, d3] }
  | _ => none }
def FnExactClosureOfWrongFalsely : Prop := fnExactClosureOfRow.holds Try.pinned (OpenSpec.ofChange fnExactClosureOfWrong)

/-- 'laws.FnExactLeastFixedPoint': WHATEVER THE INPUT: true; the input reads as it did. -/
def fnExactLeastFixedPointSpec : ChangeSpec := { name := "fnExactLeastFixedPoint", fn := fun _ => fun
  | [d1, d2] => { results := [.lit (.bool true)], args := [d1, d2] }
  | _ => none }
def fnExactLeastFixedPointRow : OpenClaim := { program := "ytfcjhmaggefhaaa", sum := "3388cb16ba8bde9e7287cdb6c661f32f6b82f417eb49bfcd6c55e40b8effe054", func := "loop.example/g01078/laws.FnExactLeastFixedPoint", spec := "fnExactLeastFixedPoint", unfollowed := true, recurses := true, apart := false }
def FnExactLeastFixedPointSaid : Prop := fnExactLeastFixedPointRow.holds Try.pinned (OpenSpec.ofChange fnExactLeastFixedPointSpec)

/-- ITS FALSE NEIGHBOUR: 'it returns false'. Refute it at one input. -/
def fnExactLeastFixedPointWrong : ChangeSpec := { name := "fnExactLeastFixedPoint", fn := fun _ => fun
  | [d1, d2] => { results := [.lit (.bool false)], args := [d1, d2] }
  | _ => none }
def FnExactLeastFixedPointWrongFalsely : Prop := fnExactLeastFixedPointRow.holds Try.pinned (OpenSpec.ofChange fnExactLeastFixedPointWrong)

/-- 'laws.FnExactMeetIrreducibleSets': WHATEVER THE INPUT: true; the input reads as it did. -/
def fnExactMeetIrreducibleSetsSpec : ChangeSpec := { name := "fnExactMeetIrreducibleSets", fn := fun _ => fun
  | [d1, d2] => { results := [.lit (.bool true)], args := [d1, d2] }
  | _ => none }
def fnExactMeetIrreducibleSetsRow : OpenClaim := { program := "ytfcjhmaggefhaaa", sum := "3388cb16ba8bde9e7287cdb6c661f32f6b82f417eb49bfcd6c55e40b8effe054", func := "loop.example/g01078/laws.FnExactMeetIrreducibleSets", spec := "fnExactMeetIrreducibleSets", apart := false }
def FnExactMeetIrreducibleSetsSaid : Prop := fnExactMeetIrreducibleSetsRow.holds Try.pinned (OpenSpec.ofChange fnExactMeetIrreducibleSetsSpec)

/-- ITS FALSE NEIGHBOUR: 'it returns false'. Refute it at one input. -/
def fnExactMeetIrreducibleSetsWrong : ChangeSpec := { name := "fnExactMeetIrreducibleSets", fn := fun _ => fun
  | [d1, d2] => { results := [.lit (.bool false)], args := [d1, d2] }
  | _ => none }
def FnExactMeetIrreducibleSetsWrongFalsely : Prop := fnExactMeetIrreducibleSetsRow.holds Try.pinned (OpenSpec.ofChange fnExactMeetIrreducibleSetsWrong)

/-- 'laws.FnExactSystemPoset': WHATEVER THE INPUT: true; the input reads as it did. -/
def fnExactSystemPosetSpec : ChangeSpec := { name := "fnExactSystemPoset", fn := fun _ => fun
  | [d1, d2] => { results := [.lit (.bool true)], args := [d1, d2] }
  | _ => none }
def fnExactSystemPosetRow : OpenClaim := { program := "ytfcjhmaggefhaaa", sum := "3388cb16ba8bde9e7287cdb6c661f32f6b82f417eb49bfcd6c55e40b8effe054", func := "loop.example/g01078/laws.FnExactSystemPoset", spec := "fnExactSystemPoset", apart := false }
def FnExactSystemPosetSaid : Prop := fnExactSystemPosetRow.holds Try.pinned (OpenSpec.ofChange fnExactSystemPosetSpec)

/-- ITS FALSE NEIGHBOUR: 'it returns false'. Refute it at one input. -/
def fnExactSystemPosetWrong : ChangeSpec := { name := "fnExactSystemPoset", fn := fun _ => fun
  | [d1, d2] => { results := [.lit (.bool false)], args := [d1, d2] }
  | _ => none }
def FnExactSystemPosetWrongFalsely : Prop := fnExactSystemPosetRow.holds Try.pinned (OpenSpec.ofChange fnExactSystemPosetWrong)

/-- 'laws.FnExactSystemFrom': WHATEVER THE INPUT: true; the input reads as it did. -/
def fnExactSystemFromSpec : ChangeSpec := { name := "fnExactSystemFrom", fn := fun _ => fun
  | [d1, d2] => { results := [.lit (.bool true)], args := [d1, d2] }
  | _ => none }
def fnExactSystemFromRow : OpenClaim := { program := "ytfcjhmaggefhaaa", sum := "3388cb16ba8bde9e7287cdb6c661f32f6b82f417eb49bfcd6c55e40b8effe054", func := "loop.example/g01078/laws.FnExactSystemFrom", spec := "fnExactSystemFrom", inPlace := ["internal/reflectlite.ValueOf", "internal/reflectlite.Swapper", "(internal/reflectlite.Value).Len"], unfollowed := true, recurses := true, apart := false }
def FnExactSystemFromSaid : Prop := fnExactSystemFromRow.holds Try.pinned (OpenSpec.ofChange fnExactSystemFromSpec)

/-- ITS FALSE NEIGHBOUR: 'it returns false'. Refute it at one input. -/
def fnExactSystemFromWrong : ChangeSpec := { name := "fnExactSystemFrom", fn := fun _ => fun
  | [d1, d2] => { results := [.lit (.bool false)], args := [d1, d2] }
  | _ => none }
def FnExactSystemFromWrongFalsely : Prop := fnExactSystemFromRow.holds Try.pinned (OpenSpec.ofChange fnExactSystemFromWrong)

/-- 'laws.FnExactClosedRows': WHATEVER THE INPUT: true; the input reads as it did. -/
def fnExactClosedRowsSpec : ChangeSpec := { name := "fnExactClosedRows", fn := fun _ => fun
  | [d] => { results := [.lit (.bool true)], args := [d] }
  | _ => none }
def fnExactClosedRowsRow : OpenClaim := { program := "ytfcjhmaggefhaaa", sum := "3388cb16ba8bde9e7287cdb6c661f32f6b82f417eb49bfcd6c55e40b8effe054", func := "loop.example/g01078/laws.FnExactClosedRows", spec := "fnExactClosedRows", inPlace := ["internal/reflectlite.ValueOf", "internal/reflectlite.Swapper", "(internal/reflectlite.Value).Len"], unfollowed := true, recurses := true, apart := false }
def FnExactClosedRowsSaid : Prop := fnExactClosedRowsRow.holds Try.pinned (OpenSpec.ofChange fnExactClosedRowsSpec)

/-- ITS FALSE NEIGHBOUR: 'it returns false'. Refute it at one input. -/
def fnExactClosedRowsWrong : ChangeSpec := { name := "fnExactClosedRows", fn := fun _ => fun
  | [d] => { results := [.lit (.bool false)], args := [d] }
  | _ => none }
def FnExactClosedRowsWrongFalsely : Prop := fnExactClosedRowsRow.holds Try.pinned (OpenSpec.ofChange fnExactClosedRowsWrong)

/-- 'laws.FnExactFreeSets': WHATEVER THE INPUT: true; the input reads as it did. -/
def fnExactFreeSetsSpec : ChangeSpec := { name := "fnExactFreeSets", fn := fun _ => fun
  | [d1, d2] => { results := [.lit (.bool true)], args := [d1, d2] }
  | _ => none }
def fnExactFreeSetsRow : OpenClaim := { program := "ytfcjhmaggefhaaa", sum := "3388cb16ba8bde9e7287cdb6c661f32f6b82f417eb49bfcd6c55e40b8effe054", func := "loop.example/g01078/laws.FnExactFreeSets", spec := "fnExactFreeSets", inPlace := ["internal/reflectlite.ValueOf", "internal/reflectlite.Swapper", "(internal/reflectlite.Value).Len"], unfollowed := true, recurses := true, apart := false }
def FnExactFreeSetsSaid : Prop := fnExactFreeSetsRow.holds Try.pinned (OpenSpec.ofChange fnExactFreeSetsSpec)

/-- ITS FALSE NEIGHBOUR: 'it returns false'. Refute it at one input. -/
def fnExactFreeSetsWrong : ChangeSpec := { name := "fnExactFreeSets", fn := fun _ => fun
  | [d1, d2] => { results := [.lit (.bool false)], args := [d1, d2] }
  | _ => none }
def FnExactFreeSetsWrongFalsely : Prop := fnExactFreeSetsRow.holds Try.pinned (OpenSpec.ofChange fnExactFreeSetsWrong)

/-- 'laws.FnPolars': WHATEVER THE INPUT: true; the input reads as it did. -/
def fnPolarsSpec : ChangeSpec := { name := "fnPolars", fn := fun _ => fun
  | [d] => { results := [.lit (.bool true)], args := [d] }
  | _ => none }
def fnPolarsRow : OpenClaim := { program := "ytfcjhmaggefhaaa", sum := "3388cb16ba8bde9e7287cdb6c661f32f6b82f417eb49bfcd6c55e40b8effe054", func := "loop.example/g01078/laws.FnPolars", spec := "fnPolars", inPlace := ["internal/reflectlite.ValueOf", "internal/reflectlite.Swapper", "(internal/reflectlite.Value).Len"], unfollowed := true, recurses := true, apart := false }
def FnPolarsSaid : Prop := fnPolarsRow.holds Try.pinned (OpenSpec.ofChange fnPolarsSpec)

/-- ITS FALSE NEIGHBOUR: 'it returns false'. Refute it at one input. -/
def fnPolarsWrong : ChangeSpec := { name := "fnPolars", fn := fun _ => fun
  | [d] => { results := [.lit (.bool false)], args := [d] }
  | _ => none }
def FnPolarsWrongFalsely : Prop := fnPolarsRow.holds Try.pinned (OpenSpec.ofChange fnPolarsWrong)

/-- 'laws.FnAdjoints': WHATEVER THE INPUT: true; the input reads as it did. -/
def fnAdjointsSpec : ChangeSpec := { name := "fnAdjoints", fn := fun _ => fun
  | [d] => { results := [.lit (.bool true)], args := [d] }
  | _ => none }
def fnAdjointsRow : OpenClaim := { program := "ytfcjhmaggefhaaa", sum := "3388cb16ba8bde9e7287cdb6c661f32f6b82f417eb49bfcd6c55e40b8effe054", func := "loop.example/g01078/laws.FnAdjoints", spec := "fnAdjoints", unfollowed := true, recurses := true, apart := false }
def FnAdjointsSaid : Prop := fnAdjointsRow.holds Try.pinned (OpenSpec.ofChange fnAdjointsSpec)

/-- ITS FALSE NEIGHBOUR: 'it returns false'. Refute it at one input. -/
def fnAdjointsWrong : ChangeSpec := { name := "fnAdjoints", fn := fun _ => fun
  | [d] => { results := [.lit (.bool false)], args := [d] }
  | _ => none }
def FnAdjointsWrongFalsely : Prop := fnAdjointsRow.holds Try.pinned (OpenSpec.ofChange fnAdjointsWrong)

/- THE SECOND FORM. 'bulk': how many values and letters a reading holds, each counted each time it is reached (what is shared counts as often as it is met; a slice's spare places count too). A statement '..UptoSaid' is the law's where the arguments, and the package variables that the reading takes, are together of bulk at most 1048576: NARROWER than '..Said'. Prove '..Said' where nothing that the law and all that it calls make is longer than what came in: it says more and counts as full. Else prove '..UptoSaid'. A law counts once. -/
mutual
def uptoBulk {H : Type} : DataW H → Nat
  | .lit (.string bytes) => bytes.length + 1
  | .lit _ => 1
  | .nil => 1
  | .ptr d => uptoBulk d + 1
  | .slice elems spare => uptoBulkAll elems + uptoBulkAll spare + 1
  | .agg parts => uptoBulkAll parts + 1
  | .iface _ d => uptoBulk d + 1
  | .map entries => uptoBulkEntries entries + 1
  | .held _ => 1
def uptoBulkAll {H : Type} : List (DataW H) → Nat
  | [] => 0
  | d :: r => uptoBulk d + uptoBulkAll r
def uptoBulkEntries {H : Type} : List (Lit × DataW H) → Nat
  | [] => 0
  | x :: r => uptoBulkEntry x + uptoBulkEntries r
def uptoBulkEntry {H : Type} : Lit × DataW H → Nat
  | (.string bytes, d) => bytes.length + uptoBulk d + 1
  | (_, d) => uptoBulk d + 1
 end
def uptoSmall : (H : Type) → List (DataW H) → Bool := fun _ ds => decide (uptoBulkAll ds ≤ 1048576)
def OpenSpec.upto (s : _root_.Go.ChangeSpec) : _root_.Go.OpenSpec := { _root_.Go.OpenSpec.ofChange s with cond := some uptoSmall }

/-- 'laws.FnExactIsMonotone', WHERE WHAT IT READS IS OF BULK AT MOST 1048576: true; the input reads as it did. -/
def fnExactIsMonotoneUptoRow : OpenClaim := { program := "ytfcjhmaggefhaaa", sum := "3388cb16ba8bde9e7287cdb6c661f32f6b82f417eb49bfcd6c55e40b8effe054", func := "loop.example/g01078/laws.FnExactIsMonotone", spec := "fnExactIsMonotone", apart := false, narrowed := true }
def FnExactIsMonotoneUptoSaid : Prop := fnExactIsMonotoneUptoRow.holds Try.pinned (OpenSpec.upto fnExactIsMonotoneSpec)

/-- 'laws.FnExactIsClosureSystem', WHERE WHAT IT READS IS OF BULK AT MOST 1048576: true; the input reads as it did. -/
def fnExactIsClosureSystemUptoRow : OpenClaim := { program := "ytfcjhmaggefhaaa", sum := "3388cb16ba8bde9e7287cdb6c661f32f6b82f417eb49bfcd6c55e40b8effe054", func := "loop.example/g01078/laws.FnExactIsClosureSystem", spec := "fnExactIsClosureSystem", apart := false, narrowed := true }
def FnExactIsClosureSystemUptoSaid : Prop := fnExactIsClosureSystemUptoRow.holds Try.pinned (OpenSpec.upto fnExactIsClosureSystemSpec)

/-- 'laws.FnExactUpperAdjoint', WHERE WHAT IT READS IS OF BULK AT MOST 1048576: true; the input reads as it did. -/
def fnExactUpperAdjointUptoRow : OpenClaim := { program := "ytfcjhmaggefhaaa", sum := "3388cb16ba8bde9e7287cdb6c661f32f6b82f417eb49bfcd6c55e40b8effe054", func := "loop.example/g01078/laws.FnExactUpperAdjoint", spec := "fnExactUpperAdjoint", unfollowed := true, recurses := true, apart := false, narrowed := true }
def FnExactUpperAdjointUptoSaid : Prop := fnExactUpperAdjointUptoRow.holds Try.pinned (OpenSpec.upto fnExactUpperAdjointSpec)

/-- 'laws.FnExactClosureOf', WHERE WHAT IT READS IS OF BULK AT MOST 1048576: true; the input reads as it did. -/
def fnExactClosureOfUptoRow : OpenClaim := { program := "ytfcjhmaggefhaaa", sum := "3388cb16ba8bde9e7287cdb6c661f32f6b82f417eb49bfcd6c55e40b8effe054", func := "loop.example/g01078/laws.FnExactClosureOf", spec := "fnExactClosureOf", apart := false, narrowed := true }
def FnExactClosureOfUptoSaid : Prop := fnExactClosureOfUptoRow.holds Try.pinned (OpenSpec.upto fnExactClosureOfSpec)

/-- 'laws.FnExactLeastFixedPoint', WHERE WHAT IT READS IS OF BULK AT MOST 1048576: true; the input reads as it did. -/
def fnExactLeastFixedPointUptoRow : OpenClaim := { program := "ytfcjhmaggefhaaa", sum := "3388cb16ba8bde9e7287cdb6c661f32f6b82f417eb49bfcd6c55e40b8effe054", func := "loop.example/g01078/laws.FnExactLeastFixedPoint", spec := "fnExactLeastFixedPoint", unfollowed := true, recurses := true, apart := false, narrowed := true }
def FnExactLeastFixedPointUptoSaid : Prop := fnExactLeastFixedPointUptoRow.holds Try.pinned (OpenSpec.upto fnExactLeastFixedPointSpec)

/-- 'laws.FnExactMeetIrreducibleSets', WHERE WHAT IT READS IS OF BULK AT MOST 1048576: true; the input reads as it did. -/
def fnExactMeetIrreducibleSetsUptoRow : OpenClaim := { program := "ytfcjhmaggefhaaa", sum := "3388cb16ba8bde9e7287cdb6c661f32f6b82f417eb49bfcd6c55e40b8effe054", func := "loop.example/g01078/laws.FnExactMeetIrreducibleSets", spec := "fnExactMeetIrreducibleSets", apart := false, narrowed := true }
def FnExactMeetIrreducibleSetsUptoSaid : Prop := fnExactMeetIrreducibleSetsUptoRow.holds Try.pinned (OpenSpec.upto fnExactMeetIrreducibleSetsSpec)

/-- 'laws.FnExactSystemPoset', WHERE WHAT IT READS IS OF BULK AT MOST 1048576: true; the input reads as it did. -/
def fnExactSystemPosetUptoRow : OpenClaim := { program := "ytfcjhmaggefhaaa", sum := "3388cb16ba8bde9e7287cdb6c661f32f6b82f417eb49bfcd6c55e40b8effe054", func := "loop.example/g01078/laws.FnExactSystemPoset", spec := "fnExactSystemPoset", apart := false, narrowed := true }
def FnExactSystemPosetUptoSaid : Prop := fnExactSystemPosetUptoRow.holds Try.pinned (OpenSpec.upto fnExactSystemPosetSpec)

/-- 'laws.FnExactSystemFrom', WHERE WHAT IT READS IS OF BULK AT MOST 1048576: true; the input reads as it did. -/
def fnExactSystemFromUptoRow : OpenClaim := { program := "ytfcjhmaggefhaaa", sum := "3388cb16ba8bde9e7287cdb6c661f32f6b82f417eb49bfcd6c55e40b8effe054", func := "loop.example/g01078/laws.FnExactSystemFrom", spec := "fnExactSystemFrom", inPlace := ["internal/reflectlite.ValueOf", "internal/reflectlite.Swapper", "(internal/reflectlite.Value).Len"], unfollowed := true, recurses := true, apart := false, narrowed := true }
def FnExactSystemFromUptoSaid : Prop := fnExactSystemFromUptoRow.holds Try.pinned (OpenSpec.upto fnExactSystemFromSpec)

/-- 'laws.FnExactClosedRows', WHERE WHAT IT READS IS OF BULK AT MOST 1048576: true; the input reads as it did. -/
def fnExactClosedRowsUptoRow : OpenClaim := { program := "ytfcjhmaggefhaaa", sum := "3388cb16ba8bde9e7287cdb6c661f32f6b82f417eb49bfcd6c55e40b8effe054", func := "loop.example/g01078/laws.FnExactClosedRows", spec := "fnExactClosedRows", inPlace := ["internal/reflectlite.ValueOf", "internal/reflectlite.Swapper", "(internal/reflectlite.Value).Len"], unfollowed := true, recurses := true, apart := false, narrowed := true }
def FnExactClosedRowsUptoSaid : Prop := fnExactClosedRowsUptoRow.holds Try.pinned (OpenSpec.upto fnExactClosedRowsSpec)

/-- 'laws.FnExactFreeSets', WHERE WHAT IT READS IS OF BULK AT MOST 1048576: true; the input reads as it did. -/
def fnExactFreeSetsUptoRow : OpenClaim := { program := "ytfcjhmaggefhaaa", sum := "3388cb16ba8bde9e7287cdb6c661f32f6b82f417eb49bfcd6c55e40b8effe054", func := "loop.example/g01078/laws.FnExactFreeSets", spec := "fnExactFreeSets", inPlace := ["internal/reflectlite.ValueOf", "internal/reflectlite.Swapper", "(internal/reflectlite.Value).Len"], unfollowed := true, recurses := true, apart := false, narrowed := true }
def FnExactFreeSetsUptoSaid : Prop := fnExactFreeSetsUptoRow.holds Try.pinned (OpenSpec.upto fnExactFreeSetsSpec)

/-- 'laws.FnPolars', WHERE WHAT IT READS IS OF BULK AT MOST 1048576: true; the input reads as it did. -/
def fnPolarsUptoRow : OpenClaim := { program := "ytfcjhmaggefhaaa", sum := "3388cb16ba8bde9e7287cdb6c661f32f6b82f417eb49bfcd6c55e40b8effe054", func := "loop.example/g01078/laws.FnPolars", spec := "fnPolars", inPlace := ["internal/reflectlite.ValueOf", "internal/reflectlite.Swapper", "(internal/reflectlite.Value).Len"], unfollowed := true, recurses := true, apart := false, narrowed := true }
def FnPolarsUptoSaid : Prop := fnPolarsUptoRow.holds Try.pinned (OpenSpec.upto fnPolarsSpec)

/-- 'laws.FnAdjoints', WHERE WHAT IT READS IS OF BULK AT MOST 1048576: true; the input reads as it did. -/
def fnAdjointsUptoRow : OpenClaim := { program := "ytfcjhmaggefhaaa", sum := "3388cb16ba8bde9e7287cdb6c661f32f6b82f417eb49bfcd6c55e40b8effe054", func := "loop.example/g01078/laws.FnAdjoints", spec := "fnAdjoints", unfollowed := true, recurses := true, apart := false, narrowed := true }
def FnAdjointsUptoSaid : Prop := fnAdjointsUptoRow.holds Try.pinned (OpenSpec.upto fnAdjointsSpec)

end Rows
end Go.Proofs.Ytfcjhmaggefhaaa
