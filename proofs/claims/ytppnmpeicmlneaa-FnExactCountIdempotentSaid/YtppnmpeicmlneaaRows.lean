/-
  No cell of these rows narrows 'for every input' (looked for: loops, veiled, ifaces, maps, wideKeys, modest, calm, conditions, laid).
  DERIVED. THE GIVEN ROWS OF THIS SEAT. 12 by the template 'for every input the law returns true; each argument reads behind the call as it read before'; 0 by the template 'total and deterministic' (their statements: YtppnmpeicmlneaaTotals.lean).
  GIVEN WITH THE SEED: the statements are not yours to turn. If you find one false, say at which input.
  Laid BY PROGRAM, IN A SANDBOX (cutbox-rows.mjs): the forced cells as the released guide's own fill.sh prints them over the translation b3fa21ece36efa06… (all of the seat's roots in one cut). By AI agents, Wed Nov 11 2026. No macro, syntax, notation, axiom, sorry.
-/
import Derived.Test.YtppnmpeicmlneaaChecked
import GoSem.Claim
import GoSem.ClaimJoined
import GoSem.ClaimMapViews
import Derived.JoinedTies
import Derived.KernelRfl
namespace Go.Proofs.Ytppnmpeicmlneaa
/- THE CELL 'sum', in the pinned program and in every row, IS THE sha256 OF THE DUMP (.gsa) THAT YtppnmpeicmlneaaProg.lean LOADS. Nothing in Lean hashes anything: it is a label: what it is worth is what the hold of that sum in a sandbox is worth. -/
noncomputable def Try.pinned : Pinned := { name := "ytppnmpeicmlneaa", sum := "b3fa21ece36efa064a07e313adc5ee90b78edf5736beb51737d0258f66cb02c6", checked := Try.checked }
namespace Rows
def none {H : Type} : Left H := { results := [], args := [] }

/-- 'laws.FnExactIsLabStep': WHATEVER THE INPUT: true; the input reads as it did. -/
def fnExactIsLabStepSpec : ChangeSpec := { name := "fnExactIsLabStep", fn := fun _ => fun
  | [d] => { results := [.lit (.bool true)], args := [d] }
  | _ => none }
def fnExactIsLabStepRow : OpenClaim := { program := "ytppnmpeicmlneaa", sum := "b3fa21ece36efa064a07e313adc5ee90b78edf5736beb51737d0258f66cb02c6", func := "loop.example/g01078/laws.FnExactIsLabStep", spec := "fnExactIsLabStep", apart := false }
def FnExactIsLabStepSaid : Prop := fnExactIsLabStepRow.holds Try.pinned (OpenSpec.ofChange fnExactIsLabStepSpec)

/-- ITS FALSE NEIGHBOUR: 'it returns false'. Refute it at one input. -/
def fnExactIsLabStepWrong : ChangeSpec := { name := "fnExactIsLabStep", fn := fun _ => fun
  | [d] => { results := [.lit (.bool false)], args := [d] }
  | _ => none }
def FnExactIsLabStepWrongFalsely : Prop := fnExactIsLabStepRow.holds Try.pinned (OpenSpec.ofChange fnExactIsLabStepWrong)

/-- 'laws.FnExactNewLab': WHATEVER THE INPUT: true; the input reads as it did. -/
def fnExactNewLabSpec : ChangeSpec := { name := "fnExactNewLab", fn := fun _ => fun
  | [d] => { results := [.lit (.bool true)], args := [d] }
  | _ => none }
def fnExactNewLabRow : OpenClaim := { program := "ytppnmpeicmlneaa", sum := "b3fa21ece36efa064a07e313adc5ee90b78edf5736beb51737d0258f66cb02c6", func := "loop.example/g01078/laws.FnExactNewLab", spec := "fnExactNewLab", apart := false }
def FnExactNewLabSaid : Prop := fnExactNewLabRow.holds Try.pinned (OpenSpec.ofChange fnExactNewLabSpec)

/-- ITS FALSE NEIGHBOUR: 'it returns false'. Refute it at one input. -/
def fnExactNewLabWrong : ChangeSpec := { name := "fnExactNewLab", fn := fun _ => fun
  | [d] => { results := [.lit (.bool false)], args := [d] }
  | _ => none }
def FnExactNewLabWrongFalsely : Prop := fnExactNewLabRow.holds Try.pinned (OpenSpec.ofChange fnExactNewLabWrong)

/-- 'laws.FnExactCodeOf': WHATEVER THE INPUT: true; the input reads as it did. -/
def fnExactCodeOfSpec : ChangeSpec := { name := "fnExactCodeOf", fn := fun _ => fun
  | [d] => { results := [.lit (.bool true)], args := [d] }
  | _ => none }
def fnExactCodeOfRow : OpenClaim := { program := "ytppnmpeicmlneaa", sum := "b3fa21ece36efa064a07e313adc5ee90b78edf5736beb51737d0258f66cb02c6", func := "loop.example/g01078/laws.FnExactCodeOf", spec := "fnExactCodeOf", apart := false }
def FnExactCodeOfSaid : Prop := fnExactCodeOfRow.holds Try.pinned (OpenSpec.ofChange fnExactCodeOfSpec)

/-- ITS FALSE NEIGHBOUR: 'it returns false'. Refute it at one input. -/
def fnExactCodeOfWrong : ChangeSpec := { name := "fnExactCodeOf", fn := fun _ => fun
  | [d] => { results := [.lit (.bool false)], args := [d] }
  | _ => none }
def FnExactCodeOfWrongFalsely : Prop := fnExactCodeOfRow.holds Try.pinned (OpenSpec.ofChange fnExactCodeOfWrong)

/-- 'laws.FnExactCountUnary': WHATEVER THE INPUT: true; the input reads as it did. -/
def fnExactCountUnarySpec : ChangeSpec := { name := "fnExactCountUnary", fn := fun _ => fun
  | [d] => { results := [.lit (.bool true)], args := [d] }
  | _ => none }
def fnExactCountUnaryRow : OpenClaim := { program := "ytppnmpeicmlneaa", sum := "b3fa21ece36efa064a07e313adc5ee90b78edf5736beb51737d0258f66cb02c6", func := "loop.example/g01078/laws.FnExactCountUnary", spec := "fnExactCountUnary", unfollowed := true, recurses := true, apart := false }
def FnExactCountUnarySaid : Prop := fnExactCountUnaryRow.holds Try.pinned (OpenSpec.ofChange fnExactCountUnarySpec)

/-- ITS FALSE NEIGHBOUR: 'it returns false'. Refute it at one input. -/
def fnExactCountUnaryWrong : ChangeSpec := { name := "fnExactCountUnary", fn := fun _ => fun
  | [d] => { results := [.lit (.bool false)], args := [d] }
  | _ => none }
def FnExactCountUnaryWrongFalsely : Prop := fnExactCountUnaryRow.holds Try.pinned (OpenSpec.ofChange fnExactCountUnaryWrong)

/-- 'laws.FnExactCountIdempotent': WHATEVER THE INPUT: true; the input reads as it did. -/
def fnExactCountIdempotentSpec : ChangeSpec := { name := "fnExactCountIdempotent", fn := fun _ => fun
  | [d] => { results := [.lit (.bool true)], args := [d] }
  | _ => none }
def fnExactCountIdempotentRow : OpenClaim := { program := "ytppnmpeicmlneaa", sum := "b3fa21ece36efa064a07e313adc5ee90b78edf5736beb51737d0258f66cb02c6", func := "loop.example/g01078/laws.FnExactCountIdempotent", spec := "fnExactCountIdempotent", unfollowed := true, recurses := true, apart := false }
def FnExactCountIdempotentSaid : Prop := fnExactCountIdempotentRow.holds Try.pinned (OpenSpec.ofChange fnExactCountIdempotentSpec)

/-- ITS FALSE NEIGHBOUR: 'it returns false'. Refute it at one input. -/
def fnExactCountIdempotentWrong : ChangeSpec := { name := "fnExactCountIdempotent", fn := fun _ => fun
  | [d] => { results := [.lit (.bool false)], args := [d] }
  | _ => none }
def FnExactCountIdempotentWrongFalsely : Prop := fnExactCountIdempotentRow.holds Try.pinned (OpenSpec.ofChange fnExactCountIdempotentWrong)

/-- 'laws.FnExactCountCopies': WHATEVER THE INPUT: true; the input reads as it did. -/
def fnExactCountCopiesSpec : ChangeSpec := { name := "fnExactCountCopies", fn := fun _ => fun
  | [d] => { results := [.lit (.bool true)], args := [d] }
  | _ => none }
def fnExactCountCopiesRow : OpenClaim := { program := "ytppnmpeicmlneaa", sum := "b3fa21ece36efa064a07e313adc5ee90b78edf5736beb51737d0258f66cb02c6", func := "loop.example/g01078/laws.FnExactCountCopies", spec := "fnExactCountCopies", unfollowed := true, recurses := true, apart := false }
def FnExactCountCopiesSaid : Prop := fnExactCountCopiesRow.holds Try.pinned (OpenSpec.ofChange fnExactCountCopiesSpec)

/-- ITS FALSE NEIGHBOUR: 'it returns false'. Refute it at one input. -/
def fnExactCountCopiesWrong : ChangeSpec := { name := "fnExactCountCopies", fn := fun _ => fun
  | [d] => { results := [.lit (.bool false)], args := [d] }
  | _ => none }
def FnExactCountCopiesWrongFalsely : Prop := fnExactCountCopiesRow.holds Try.pinned (OpenSpec.ofChange fnExactCountCopiesWrong)

/-- 'laws.FnExactCanonicalNames': WHATEVER THE INPUT: true; the input reads as it did. -/
def fnExactCanonicalNamesSpec : ChangeSpec := { name := "fnExactCanonicalNames", fn := fun _ => fun
  | [d] => { results := [.lit (.bool true)], args := [d] }
  | _ => none }
def fnExactCanonicalNamesRow : OpenClaim := { program := "ytppnmpeicmlneaa", sum := "b3fa21ece36efa064a07e313adc5ee90b78edf5736beb51737d0258f66cb02c6", func := "loop.example/g01078/laws.FnExactCanonicalNames", spec := "fnExactCanonicalNames", unfollowed := true, recurses := true, apart := false }
def FnExactCanonicalNamesSaid : Prop := fnExactCanonicalNamesRow.holds Try.pinned (OpenSpec.ofChange fnExactCanonicalNamesSpec)

/-- ITS FALSE NEIGHBOUR: 'it returns false'. Refute it at one input. -/
def fnExactCanonicalNamesWrong : ChangeSpec := { name := "fnExactCanonicalNames", fn := fun _ => fun
  | [d] => { results := [.lit (.bool false)], args := [d] }
  | _ => none }
def FnExactCanonicalNamesWrongFalsely : Prop := fnExactCanonicalNamesRow.holds Try.pinned (OpenSpec.ofChange fnExactCanonicalNamesWrong)

/-- 'laws.FnExactHaveSameForm': WHATEVER THE INPUT: true; the input reads as it did. -/
def fnExactHaveSameFormSpec : ChangeSpec := { name := "fnExactHaveSameForm", fn := fun _ => fun
  | [d1, d2] => { results := [.lit (.bool true)], args := [d1, d2] }
  | _ => none }
def fnExactHaveSameFormRow : OpenClaim := { program := "ytppnmpeicmlneaa", sum := "b3fa21ece36efa064a07e313adc5ee90b78edf5736beb51737d0258f66cb02c6", func := "loop.example/g01078/laws.FnExactHaveSameForm", spec := "fnExactHaveSameForm", unfollowed := true, recurses := true, apart := false }
def FnExactHaveSameFormSaid : Prop := fnExactHaveSameFormRow.holds Try.pinned (OpenSpec.ofChange fnExactHaveSameFormSpec)

/-- ITS FALSE NEIGHBOUR: 'it returns false'. Refute it at one input. -/
def fnExactHaveSameFormWrong : ChangeSpec := { name := "fnExactHaveSameForm", fn := fun _ => fun
  | [d1, d2] => { results := [.lit (.bool false)], args := [d1, d2] }
  | _ => none }
def FnExactHaveSameFormWrongFalsely : Prop := fnExactHaveSameFormRow.holds Try.pinned (OpenSpec.ofChange fnExactHaveSameFormWrong)

/-- 'laws.FnExactCanonicalForm': WHATEVER THE INPUT: true; the input reads as it did. -/
def fnExactCanonicalFormSpec : ChangeSpec := { name := "fnExactCanonicalForm", fn := fun _ => fun
  | [d] => { results := [.lit (.bool true)], args := [d] }
  | _ => none }
def fnExactCanonicalFormRow : OpenClaim := { program := "ytppnmpeicmlneaa", sum := "b3fa21ece36efa064a07e313adc5ee90b78edf5736beb51737d0258f66cb02c6", func := "loop.example/g01078/laws.FnExactCanonicalForm", spec := "fnExactCanonicalForm", unfollowed := true, recurses := true, apart := false }
def FnExactCanonicalFormSaid : Prop := fnExactCanonicalFormRow.holds Try.pinned (OpenSpec.ofChange fnExactCanonicalFormSpec)

/-- ITS FALSE NEIGHBOUR: 'it returns false'. Refute it at one input. -/
def fnExactCanonicalFormWrong : ChangeSpec := { name := "fnExactCanonicalForm", fn := fun _ => fun
  | [d] => { results := [.lit (.bool false)], args := [d] }
  | _ => none }
def FnExactCanonicalFormWrongFalsely : Prop := fnExactCanonicalFormRow.holds Try.pinned (OpenSpec.ofChange fnExactCanonicalFormWrong)

/-- 'laws.FnExactSymmetriesOf': WHATEVER THE INPUT: true; the input reads as it did. -/
def fnExactSymmetriesOfSpec : ChangeSpec := { name := "fnExactSymmetriesOf", fn := fun _ => fun
  | [d] => { results := [.lit (.bool true)], args := [d] }
  | _ => none }
def fnExactSymmetriesOfRow : OpenClaim := { program := "ytppnmpeicmlneaa", sum := "b3fa21ece36efa064a07e313adc5ee90b78edf5736beb51737d0258f66cb02c6", func := "loop.example/g01078/laws.FnExactSymmetriesOf", spec := "fnExactSymmetriesOf", unfollowed := true, recurses := true, apart := false }
def FnExactSymmetriesOfSaid : Prop := fnExactSymmetriesOfRow.holds Try.pinned (OpenSpec.ofChange fnExactSymmetriesOfSpec)

/-- ITS FALSE NEIGHBOUR: 'it returns false'. Refute it at one input. -/
def fnExactSymmetriesOfWrong : ChangeSpec := { name := "fnExactSymmetriesOf", fn := fun _ => fun
  | [d] => { results := [.lit (.bool false)], args := [d] }
  | _ => none }
def FnExactSymmetriesOfWrongFalsely : Prop := fnExactSymmetriesOfRow.holds Try.pinned (OpenSpec.ofChange fnExactSymmetriesOfWrong)

/-- 'laws.FnExactIsCatalogue': WHATEVER THE INPUT: true; the input reads as it did. -/
def fnExactIsCatalogueSpec : ChangeSpec := { name := "fnExactIsCatalogue", fn := fun _ => fun
  | [d] => { results := [.lit (.bool true)], args := [d] }
  | _ => none }
def fnExactIsCatalogueRow : OpenClaim := { program := "ytppnmpeicmlneaa", sum := "b3fa21ece36efa064a07e313adc5ee90b78edf5736beb51737d0258f66cb02c6", func := "loop.example/g01078/laws.FnExactIsCatalogue", spec := "fnExactIsCatalogue", unfollowed := true, recurses := true, apart := false }
def FnExactIsCatalogueSaid : Prop := fnExactIsCatalogueRow.holds Try.pinned (OpenSpec.ofChange fnExactIsCatalogueSpec)

/-- ITS FALSE NEIGHBOUR: 'it returns false'. Refute it at one input. -/
def fnExactIsCatalogueWrong : ChangeSpec := { name := "fnExactIsCatalogue", fn := fun _ => fun
  | [d] => { results := [.lit (.bool false)], args := [d] }
  | _ => none }
def FnExactIsCatalogueWrongFalsely : Prop := fnExactIsCatalogueRow.holds Try.pinned (OpenSpec.ofChange fnExactIsCatalogueWrong)

/-- 'laws.FnExactNameOf': WHATEVER THE INPUT: true; the input reads as it did. -/
def fnExactNameOfSpec : ChangeSpec := { name := "fnExactNameOf", fn := fun _ => fun
  | [d1, d2] => { results := [.lit (.bool true)], args := [d1, d2] }
  | _ => none }
def fnExactNameOfRow : OpenClaim := { program := "ytppnmpeicmlneaa", sum := "b3fa21ece36efa064a07e313adc5ee90b78edf5736beb51737d0258f66cb02c6", func := "loop.example/g01078/laws.FnExactNameOf", spec := "fnExactNameOf", unfollowed := true, recurses := true, apart := false }
def FnExactNameOfSaid : Prop := fnExactNameOfRow.holds Try.pinned (OpenSpec.ofChange fnExactNameOfSpec)

/-- ITS FALSE NEIGHBOUR: 'it returns false'. Refute it at one input. -/
def fnExactNameOfWrong : ChangeSpec := { name := "fnExactNameOf", fn := fun _ => fun
  | [d1, d2] => { results := [.lit (.bool false)], args := [d1, d2] }
  | _ => none }
def FnExactNameOfWrongFalsely : Prop := fnExactNameOfRow.holds Try.pinned (OpenSpec.ofChange fnExactNameOfWrong)

/- THE SECOND FORM. 'bulk': how many values and letters a reading holds, each counted each time it is reached (what is shared counts as often as it is met; a slice's spare places count too). A statement '..UptoSaid' is the law's where the arguments, and the package variables that the reading takes, are together of bulk at most 1048576: NARROWER than '..Said'. Prove '..Said' where nothing that the law and all that it calls make is longer than what came in: it says more and counts as full. Else prove '..UptoSaid'. A law counts once. -/
mutual
def uptoBulk {H : Type} : DataW H → Nat
  | .lit (.string bytes) => bytes.length + 1
  | .lit _ => 1
  | .nil => 1
  | .ptr d => uptoBulk d + 1
  | .slice elems spare => uptoBulkAll elems + uptoBulkAll spare + 1
  | .agg parts => uptoBulkAll parts + 1
  | .iface _ d => uptoBulk d + 1
  | .map entries => uptoBulkEntries entries + 1
  | .held _ => 1
def uptoBulkAll {H : Type} : List (DataW H) → Nat
  | [] => 0
  | d :: r => uptoBulk d + uptoBulkAll r
def uptoBulkEntries {H : Type} : List (Lit × DataW H) → Nat
  | [] => 0
  | x :: r => uptoBulkEntry x + uptoBulkEntries r
def uptoBulkEntry {H : Type} : Lit × DataW H → Nat
  | (.string bytes, d) => bytes.length + uptoBulk d + 1
  | (_, d) => uptoBulk d + 1
 end
def uptoSmall : (H : Type) → List (DataW H) → Bool := fun _ ds => decide (uptoBulkAll ds ≤ 1048576)
def OpenSpec.upto (s : _root_.Go.ChangeSpec) : _root_.Go.OpenSpec := { _root_.Go.OpenSpec.ofChange s with cond := some uptoSmall }

/-- 'laws.FnExactIsLabStep', WHERE WHAT IT READS IS OF BULK AT MOST 1048576: true; the input reads as it did. -/
def fnExactIsLabStepUptoRow : OpenClaim := { program := "ytppnmpeicmlneaa", sum := "b3fa21ece36efa064a07e313adc5ee90b78edf5736beb51737d0258f66cb02c6", func := "loop.example/g01078/laws.FnExactIsLabStep", spec := "fnExactIsLabStep", apart := false, narrowed := true }
def FnExactIsLabStepUptoSaid : Prop := fnExactIsLabStepUptoRow.holds Try.pinned (OpenSpec.upto fnExactIsLabStepSpec)

/-- 'laws.FnExactNewLab', WHERE WHAT IT READS IS OF BULK AT MOST 1048576: true; the input reads as it did. -/
def fnExactNewLabUptoRow : OpenClaim := { program := "ytppnmpeicmlneaa", sum := "b3fa21ece36efa064a07e313adc5ee90b78edf5736beb51737d0258f66cb02c6", func := "loop.example/g01078/laws.FnExactNewLab", spec := "fnExactNewLab", apart := false, narrowed := true }
def FnExactNewLabUptoSaid : Prop := fnExactNewLabUptoRow.holds Try.pinned (OpenSpec.upto fnExactNewLabSpec)

/-- 'laws.FnExactCodeOf', WHERE WHAT IT READS IS OF BULK AT MOST 1048576: true; the input reads as it did. -/
def fnExactCodeOfUptoRow : OpenClaim := { program := "ytppnmpeicmlneaa", sum := "b3fa21ece36efa064a07e313adc5ee90b78edf5736beb51737d0258f66cb02c6", func := "loop.example/g01078/laws.FnExactCodeOf", spec := "fnExactCodeOf", apart := false, narrowed := true }
def FnExactCodeOfUptoSaid : Prop := fnExactCodeOfUptoRow.holds Try.pinned (OpenSpec.upto fnExactCodeOfSpec)

/-- 'laws.FnExactCountUnary', WHERE WHAT IT READS IS OF BULK AT MOST 1048576: true; the input reads as it did. -/
def fnExactCountUnaryUptoRow : OpenClaim := { program := "ytppnmpeicmlneaa", sum := "b3fa21ece36efa064a07e313adc5ee90b78edf5736beb51737d0258f66cb02c6", func := "loop.example/g01078/laws.FnExactCountUnary", spec := "fnExactCountUnary", unfollowed := true, recurses := true, apart := false, narrowed := true }
def FnExactCountUnaryUptoSaid : Prop := fnExactCountUnaryUptoRow.holds Try.pinned (OpenSpec.upto fnExactCountUnarySpec)

/-- 'laws.FnExactCountIdempotent', WHERE WHAT IT READS IS OF BULK AT MOST 1048576: true; the input reads as it did. -/
def fnExactCountIdempotentUptoRow : OpenClaim := { program := "ytppnmpeicmlneaa", sum := "b3fa21ece36efa064a07e313adc5ee90b78edf5736beb51737d0258f66cb02c6", func := "loop.example/g01078/laws.FnExactCountIdempotent", spec := "fnExactCountIdempotent", unfollowed := true, recurses := true, apart := false, narrowed := true }
def FnExactCountIdempotentUptoSaid : Prop := fnExactCountIdempotentUptoRow.holds Try.pinned (OpenSpec.upto fnExactCountIdempotentSpec)

/-- 'laws.FnExactCountCopies', WHERE WHAT IT READS IS OF BULK AT MOST 1048576: true; the input reads as it did. -/
def fnExactCountCopiesUptoRow : OpenClaim := { program := "ytppnmpeicmlneaa", sum := "b3fa21ece36efa064a07e313adc5ee90b78edf5736beb51737d0258f66cb02c6", func := "loop.example/g01078/laws.FnExactCountCopies", spec := "fnExactCountCopies", unfollowed := true, recurses := true, apart := false, narrowed := true }
def FnExactCountCopiesUptoSaid : Prop := fnExactCountCopiesUptoRow.holds Try.pinned (OpenSpec.upto fnExactCountCopiesSpec)

/-- 'laws.FnExactCanonicalNames', WHERE WHAT IT READS IS OF BULK AT MOST 1048576: true; the input reads as it did. -/
def fnExactCanonicalNamesUptoRow : OpenClaim := { program := "ytppnmpeicmlneaa", sum := "b3fa21ece36efa064a07e313adc5ee90b78edf5736beb51737d0258f66cb02c6", func := "loop.example/g01078/laws.FnExactCanonicalNames", spec := "fnExactCanonicalNames", unfollowed := true, recurses := true, apart := false, narrowed := true }
def FnExactCanonicalNamesUptoSaid : Prop := fnExactCanonicalNamesUptoRow.holds Try.pinned (OpenSpec.upto fnExactCanonicalNamesSpec)

/-- 'laws.FnExactHaveSameForm', WHERE WHAT IT READS IS OF BULK AT MOST 1048576: true; the input reads as it did. -/
def fnExactHaveSameFormUptoRow : OpenClaim := { program := "ytppnmpeicmlneaa", sum := "b3fa21ece36efa064a07e313adc5ee90b78edf5736beb51737d0258f66cb02c6", func := "loop.example/g01078/laws.FnExactHaveSameForm", spec := "fnExactHaveSameForm", unfollowed := true, recurses := true, apart := false, narrowed := true }
def FnExactHaveSameFormUptoSaid : Prop := fnExactHaveSameFormUptoRow.holds Try.pinned (OpenSpec.upto fnExactHaveSameFormSpec)

/-- 'laws.FnExactCanonicalForm', WHERE WHAT IT READS IS OF BULK AT MOST 1048576: true; the input reads as it did. -/
def fnExactCanonicalFormUptoRow : OpenClaim := { program := "ytppnmpeicmlneaa", sum := "b3fa21ece36efa064a07e313adc5ee90b78edf5736beb51737d0258f66cb02c6", func := "loop.example/g01078/laws.FnExactCanonicalForm", spec := "fnExactCanonicalForm", unfollowed := true, recurses := true, apart := false, narrowed := true }
def FnExactCanonicalFormUptoSaid : Prop := fnExactCanonicalFormUptoRow.holds Try.pinned (OpenSpec.upto fnExactCanonicalFormSpec)

/-- 'laws.FnExactSymmetriesOf', WHERE WHAT IT READS IS OF BULK AT MOST 1048576: true; the input reads as it did. -/
def fnExactSymmetriesOfUptoRow : OpenClaim := { program := "ytppnmpeicmlneaa", sum := "b3fa21ece36efa064a07e313adc5ee90b78edf5736beb51737d0258f66cb02c6", func := "loop.example/g01078/laws.FnExactSymmetriesOf", spec := "fnExactSymmetriesOf", unfollowed := true, recurses := true, apart := false, narrowed := true }
def FnExactSymmetriesOfUptoSaid : Prop := fnExactSymmetriesOfUptoRow.holds Try.pinned (OpenSpec.upto fnExactSymmetriesOfSpec)

/-- 'laws.FnExactIsCatalogue', WHERE WHAT IT READS IS OF BULK AT MOST 1048576: true; the input reads as it did. -/
def fnExactIsCatalogueUptoRow : OpenClaim := { program := "ytppnmpeicmlneaa", sum := "b3fa21ece36efa064a07e313adc5ee90b78edf5736beb51737d0258f66cb02c6", func := "loop.example/g01078/laws.FnExactIsCatalogue", spec := "fnExactIsCatalogue", unfollowed := true, recurses := true, apart := false, narrowed := true }
def FnExactIsCatalogueUptoSaid : Prop := fnExactIsCatalogueUptoRow.holds Try.pinned (OpenSpec.upto fnExactIsCatalogueSpec)

/-- 'laws.FnExactNameOf', WHERE WHAT IT READS IS OF BULK AT MOST 1048576: true; the input reads as it did. -/
def fnExactNameOfUptoRow : OpenClaim := { program := "ytppnmpeicmlneaa", sum := "b3fa21ece36efa064a07e313adc5ee90b78edf5736beb51737d0258f66cb02c6", func := "loop.example/g01078/laws.FnExactNameOf", spec := "fnExactNameOf", unfollowed := true, recurses := true, apart := false, narrowed := true }
def FnExactNameOfUptoSaid : Prop := fnExactNameOfUptoRow.holds Try.pinned (OpenSpec.upto fnExactNameOfSpec)

end Rows
end Go.Proofs.Ytppnmpeicmlneaa
