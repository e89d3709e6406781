
/- The harness's functions on Lab and []Lab: size, copy, equality. Printed by genshape.py. -/
import Derived.Test.YtidjocikbmkjbaaGreatHOp
import Derived.Test.YtidjocikbmkjbaaGreatHIdentity
import Derived.Deep.RegionHeld3
import Derived.Deep.DeepCutAuto
namespace Go.Proofs.YtidjocikbmkjbaaGreat
open Go.RowKit

abbrev LabM : Type := (Bool × AlgebraM × List FactM × Int)
def shLab : Sh LabM := (Sh.pair Sh.bool (Sh.pair shAlgebra (Sh.pair (Sh.rows shFact 34) Sh.int)))
theorem rdLab {w : World} {cs : List Value} {x : LabM} (h : shLab.rd w cs x) : ∃ (ABaseOps : Option Addr) (nBaseOps cBaseOps : Nat) (AFacts : Option Addr) (nFacts cFacts : Nat), cs = [.bool x.1, .int .i64 x.2.1.1, .slice ABaseOps nBaseOps cBaseOps, .slice AFacts nFacts cFacts, .int .i64 x.2.2.2] ∧ InR x.2.1.1 ∧ RdN shOp.m shOp.rd w ABaseOps nBaseOps x.2.1.2 ∧ RdN shFact.m shFact.rd w AFacts nFacts x.2.2.1 ∧ InR x.2.2.2 := by
  obtain ⟨_, _, rfl, ⟨_, rfl, rfl⟩, ⟨_, _, rfl, ⟨_, _, rfl, ⟨_, rfl, rfl, loBaseSize, hiBaseSize⟩, ⟨ABaseOps, nBaseOps, cBaseOps, rfl, rBaseOps⟩⟩, ⟨_, _, rfl, ⟨AFacts, nFacts, cFacts, rfl, rFacts⟩, ⟨_, rfl, rfl, loRefused, hiRefused⟩⟩⟩⟩ := h
  exact ⟨ABaseOps, nBaseOps, cBaseOps, AFacts, nFacts, cFacts, rfl, ⟨loBaseSize, hiBaseSize⟩, rBaseOps, rFacts, ⟨loRefused, hiRefused⟩⟩
theorem mkLab {w : World} {x : LabM} {ABaseOps AFacts : Option Addr} {nBaseOps cBaseOps nFacts cFacts : Nat} (hBaseSize : InR x.2.1.1) (hBaseOps : RdN shOp.m shOp.rd w ABaseOps nBaseOps x.2.1.2) (hFacts : RdN shFact.m shFact.rd w AFacts nFacts x.2.2.1) (hRefused : InR x.2.2.2) : shLab.rd w [.bool x.1, .int .i64 x.2.1.1, .slice ABaseOps nBaseOps cBaseOps, .slice AFacts nFacts cFacts, .int .i64 x.2.2.2] x :=
  ⟨[.bool x.1], [.int .i64 x.2.1.1, .slice ABaseOps nBaseOps cBaseOps, .slice AFacts nFacts cFacts, .int .i64 x.2.2.2], rfl, ⟨_, rfl, rfl⟩, ⟨[.int .i64 x.2.1.1, .slice ABaseOps nBaseOps cBaseOps], [.slice AFacts nFacts cFacts, .int .i64 x.2.2.2], rfl, ⟨[.int .i64 x.2.1.1], [.slice ABaseOps nBaseOps cBaseOps], rfl, ⟨_, rfl, rfl, hBaseSize.1, hBaseSize.2⟩, ⟨_, _, _, rfl, hBaseOps⟩⟩, ⟨[.slice AFacts nFacts cFacts], [.int .i64 x.2.2.2], rfl, ⟨_, _, _, rfl, hFacts⟩, ⟨_, rfl, rfl, hRefused.1, hRefused.2⟩⟩⟩⟩
end Go.Proofs.YtidjocikbmkjbaaGreat
