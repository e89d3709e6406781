
/- The harness's functions on Entry and []Entry: size, copy, equality. Printed by genshape.py. -/
import Derived.Test.YtidjocikbmkjbaaGreatHOp
import Derived.Deep.RegionHeld3
import Derived.Deep.DeepCutAuto
namespace Go.Proofs.YtidjocikbmkjbaaGreat
open Go.RowKit

abbrev EntryM : Type := (ByteArray × AlgebraM)
def shEntry : Sh EntryM := (Sh.pair Sh.str shAlgebra)
theorem rdEntry {w : World} {cs : List Value} {x : EntryM} (h : shEntry.rd w cs x) : ∃ (AModelOps : Option Addr) (nModelOps cModelOps : Nat), cs = [.string x.1, .int .i64 x.2.1, .slice AModelOps nModelOps cModelOps] ∧ x.1.size ≤ maxLen ∧ InR x.2.1 ∧ RdN shOp.m shOp.rd w AModelOps nModelOps x.2.2 := by
  obtain ⟨_, _, rfl, ⟨_, rfl, rfl, hsName⟩, ⟨_, _, rfl, ⟨_, rfl, rfl, loModelSize, hiModelSize⟩, ⟨AModelOps, nModelOps, cModelOps, rfl, rModelOps⟩⟩⟩ := h
  exact ⟨AModelOps, nModelOps, cModelOps, rfl, hsName, ⟨loModelSize, hiModelSize⟩, rModelOps⟩
theorem mkEntry {w : World} {x : EntryM} {AModelOps : Option Addr} {nModelOps cModelOps : Nat} (hName : x.1.size ≤ maxLen) (hModelSize : InR x.2.1) (hModelOps : RdN shOp.m shOp.rd w AModelOps nModelOps x.2.2) : shEntry.rd w [.string x.1, .int .i64 x.2.1, .slice AModelOps nModelOps cModelOps] x :=
  ⟨[.string x.1], [.int .i64 x.2.1, .slice AModelOps nModelOps cModelOps], rfl, ⟨_, rfl, rfl, hName⟩, ⟨[.int .i64 x.2.1], [.slice AModelOps nModelOps cModelOps], rfl, ⟨_, rfl, rfl, hModelSize.1, hModelSize.2⟩, ⟨_, _, _, rfl, hModelOps⟩⟩⟩
end Go.Proofs.YtidjocikbmkjbaaGreat
