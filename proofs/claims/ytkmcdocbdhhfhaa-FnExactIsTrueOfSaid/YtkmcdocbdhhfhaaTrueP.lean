
/- Plain laws: when a fact is true of an algebra. -/
import Derived.Test.YtkmcdocbdhhfhaaTryP
import Derived.Test.YtkmcdocbdhhfhaaParP
import Derived.Test.YtkmcdocbdhhfhaaSys2
import Derived.Test.YtkmcdocbdhhfhaaStep
namespace Go.Proofs.Ytkmcdocbdhhfhaa
open Go.RowKit

/-- A valid algebra. -/
def AlgP (x : AlgebraM) : Prop := 1 ≤ x.1 ∧ x.1 ≤ 8 ∧ x.2.length ≤ 4 ∧ ∀ o ∈ x.2, OpP x.1.toNat o
/-- A map that keeps the operations. -/
def HomP (n : Nat) (ops : List OpM) (f : List Int) : Prop := ∀ o ∈ ops, ∀ i, i < o.2.length → nmAt f (nmAt o.2 i) = nmAt o.2 (toI n o.1.toNat f i)
noncomputable def congB (n : Nat) (ops : List OpM) (p : List Int) : Bool := tt (ParP n p) && tt (CompP n ops p)
noncomputable def homB (n : Nat) (ops : List OpM) (f : List Int) : Bool := (decide (f.length = n) && allIn 0 ((n : Int) - 1) f) && tt (HomP n ops f)
noncomputable def subB (n : Nat) (ops : List OpM) (V : List Int) : Bool := (allIn 0 ((n : Int) - 1) V && risesL V) && decide ((genL n ops V).length = V.length)
noncomputable def genB (n : Nat) (ops : List OpM) (V : List Int) : Bool := (allIn 0 ((n : Int) - 1) V && risesL V) && decide ((genL n ops V).length = n)
theorem in_gen {n : Nat} {ops : List OpM} {V : List Int} (h : ∀ v ∈ V, 0 ≤ v ∧ v ≤ (n : Int) - 1) : ∀ v ∈ V, v ∈ genL n ops V := fun v hv => by
  obtain ⟨y, rfl⟩ := Int.eq_ofNat_of_zero_le (h v hv).1
  have hy : y < n := by have := (h _ hv).2; omega
  refine markL_mem.2 ⟨y, hy, clB_sup n ops _ y hy ?_, rfl⟩
  refine gB_get ?_
  unfold inL
  rw [List.getElem?_map, List.getElem?_range hy]
  show some (hasI (y : Int) V) = some true
  rw [hasI_m.2 hv]
/-- As many as generated: the list itself. -/
theorem gen_eq {n : Nat} {ops : List OpM} {V : List Int} (h : ∀ v ∈ V, 0 ≤ v ∧ v ≤ (n : Int) - 1) (hr : risesL V = true) : (genL n ops V).length = V.length ↔ genL n ops V = V := by
  constructor
  · intro hl
    have hp := rises_iff.1 hr
    refine asc_ext (markL_asc _ _) hp fun x => ⟨fun hx => ?_, in_gen h x⟩
    have hnd : V.Nodup := hp.imp fun h => by omega
    by_cases hxV : x ∈ V
    · exact hxV
    · have := nodup_sub (l := x :: V) (m := genL n ops V) (List.nodup_cons.2 ⟨hxV, hnd⟩) fun y hy => by
        rcases List.mem_cons.1 hy with rfl | hy
        · exact hx
        · exact in_gen h y hy
      simp only [List.length_cons] at this
      omega
  · intro e
    rw [e]
/-- Is the fact true of the algebra? -/
noncomputable def trueB (x : AlgebraM) (f : FactM) : Bool :=
  if f.1 = 1 then holdB x.1.toNat x.2 f.2.1.1 f.2.1.2 && decide (f.2.2.length = 0)
  else if f.1 = 2 then askB x.1.toNat x.2 f.2.1.1 f.2.1.2 && failB x.1.toNat x.2 f.2.1.1 f.2.1.2 f.2.2
  else noEq f.2.1 && (if f.1 = 3 then subB x.1.toNat x.2 f.2.2 else if f.1 = 4 then congB x.1.toNat x.2 f.2.2 else if f.1 = 5 then genB x.1.toNat x.2 f.2.2 else if f.1 = 6 then homB x.1.toNat x.2 f.2.2 else false)
end Go.Proofs.Ytkmcdocbdhhfhaa
namespace Go.Proofs.Ytkmcdocbdhhfhaa
open Go.RowKit
theorem eq0_nat {n : Nat} {b : Bool} (h : decide (n = 0) = b) : ((n : Int) == 0) = b := by rw [← h, Bool.eq_iff_iff, beq_iff_eq, decide_eq_true_iff]; omega
end Go.Proofs.Ytkmcdocbdhhfhaa
