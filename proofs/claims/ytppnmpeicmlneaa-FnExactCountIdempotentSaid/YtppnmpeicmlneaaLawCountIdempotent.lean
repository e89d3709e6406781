
/- The walk of the law FnExactCountIdempotent. Printed by genlaw3.py. -/
import Derived.Test.YtppnmpeicmlneaaIdm4
import Derived.Deep.RegionHeld3
import Derived.Deep.DeepCutAuto
namespace Go.Proofs.Ytppnmpeicmlneaa
open Go.RowKit

set_option linter.unusedVariables false in
set_option maxRecDepth 100000 in
set_option maxHeartbeats 16000000 in
theorem lawCountIdempotent (x0 : Int) (w : World) (h0 : InR x0) :
    Calls Try.prog 7 #[.int .i64 x0] w (Bl w (.bool true)) := by
  have T0 : Below w.heap.size w w := Below.refl _ _
  have L0 : (0 : Int) ≤ 1048576 ∧ (1048576 : Int) ≤ 1048576 := by omega
  go_enter Try.func7, Try.ntmps7
  obtain ⟨mo0, HMO0⟩ : ∃ b, Hid (ciM x0 = b) := ⟨_, rfl⟩
  have hbb0 : (mo0 != mo0) = false := by simp
  obtain ⟨mo1, HMO1⟩ : ∃ b, Hid (inB x0 1 3 = b) := ⟨_, rfl⟩
  have hbb1 := bne_self mo1
  go_wp2_with fail
  refine (specCI_any x0 _ h0).mono ?_
  rintro e w1 ⟨rfl, hb1⟩
  rw [HMO0.out, HMO1.out]
  have zw1 : w.heap.size ≤ w1.heap.size := hb1.size
  replace T0 := below_next T0 hb1 rfl
  clear hb1
  go_wp2_with fail
  refine (implCI_any x0 _ h0).mono ?_
  rintro e w2 ⟨rfl, hb2⟩
  rw [HMO0.out, HMO1.out]
  have zw2 : w1.heap.size ≤ w2.heap.size := hb2.size
  replace T0 := below_next T0 hb2 rfl
  clear hb2
  go_wp2_with fail
  go_ret
  exact ⟨rfl, T0⟩
end Go.Proofs.Ytppnmpeicmlneaa
