
/- The walk of the law FnExactIsCatalogue. Printed by genlaw3.py. -/
import Derived.Test.YtppnmpeicmlneaaNameOf
import Derived.Deep.RegionHeld3
import Derived.Deep.DeepCutAuto
namespace Go.Proofs.Ytppnmpeicmlneaa
open Go.RowKit

set_option linter.unusedVariables false in
set_option maxRecDepth 100000 in
set_option maxHeartbeats 16000000 in
theorem lawIsCatalogue (v0 : Value) (x0 : List EntryM) (w : World) (h0 : (Sh.rows shEntry 117).rd w [v0] x0) :
    Calls Try.prog 13 #[v0] w (Bl w (.bool true)) := by
  have T0 : Below w.heap.size w w := Below.refl _ _
  have L0 : (0 : Int) ≤ 1048576 ∧ (1048576 : Int) ≤ 1048576 := by omega
  go_enter Try.func13, Try.ntmps13
  go_wp2_with fail
  refine (szEntrySv_any v0 x0 1048576 _ ((Sh.rows shEntry 117).stab h0 T0.block) L0.1 L0.2).mono ?_
  rintro e w1 ⟨rfl, hb1⟩
  have zw1 : w.heap.size ≤ w1.heap.size := hb1.size
  replace T0 := below_next T0 hb1 rfl
  clear hb1
  obtain ⟨l0, HL0⟩ : ∃ l, Hid (szR ((Sh.rows shEntry 117).cnt x0) 1048576 = l) := ⟨_, rfl⟩
  have bd0 := szR_bd ((Sh.rows shEntry 117).cnt x0) (left := 1048576) L0.1
  rw [HL0.out] at bd0 ⊢
  by_cases z0 : l0 < 0
  · go_wp2_with fail
    go_ret
    exact ⟨rfl, T0⟩
  have hn0 : ((Sh.rows shEntry 117).cnt x0) ≤ 1048576 := by have := szR_ok (a := ((Sh.rows shEntry 117).cnt x0)) (left := 1048576) (by rw [HL0.out]; exact z0); omega
  have M0 : 0 ≤ l0 ∧ l0 ≤ 1048576 := by omega
  clear bd0
  obtain ⟨mo0, HMO0⟩ : ∃ b, Hid (catB x0 = b) := ⟨_, rfl⟩
  have hbb0 := bne_self mo0
  go_wp2_with fail
  refine (toEntrySv_any v0 x0 _ ((Sh.rows shEntry 117).stab h0 T0.block) hn0).mono ?_
  rintro e w2 ⟨vn0, bln0, rfl, On0, In0, hb2⟩
  have zw2 : w1.heap.size ≤ w2.heap.size := hb2.size
  replace T0 := below_next T0 hb2 rfl
  clear hb2
  go_wp2_with fail
  refine (specIsCatv_any vn0 x0 _ ((Sh.rows shEntry 117).ord On0)).mono ?_
  rintro e w3 ⟨rfl, hb3⟩
  rw [HMO0.out]
  have zw3 : w2.heap.size ≤ w3.heap.size := hb3.size
  replace T0 := below_next T0 hb3 rfl
  replace On0 := Sh.onext On0 hb3
  clear hb3
  clear On0 In0
  go_wp2_with fail
  refine (toEntrySv_any v0 x0 _ ((Sh.rows shEntry 117).stab h0 T0.block) hn0).mono ?_
  rintro e w4 ⟨vx0, blx0, rfl, Ox0, Ix0, hb4⟩
  have zw4 : w3.heap.size ≤ w4.heap.size := hb4.size
  replace T0 := below_next T0 hb4 rfl
  clear hb4
  go_wp2_with fail
  refine (isCatv_any vx0 x0 _ ((Sh.rows shEntry 117).ord Ox0)).mono ?_
  rintro e w5 ⟨rfl, hb5⟩
  rw [HMO0.out]
  have zw5 : w4.heap.size ≤ w5.heap.size := hb5.size
  replace T0 := below_next T0 hb5 rfl
  replace Ox0 := Sh.onext Ox0 hb5
  clear hb5
  go_wp2_with fail
  refine (toEntrySv_any v0 x0 _ ((Sh.rows shEntry 117).stab h0 T0.block) hn0).mono ?_
  rintro e w6 ⟨vy0, bly0, rfl, Oy0, Iy0, hb6⟩
  have zw6 : w5.heap.size ≤ w6.heap.size := hb6.size
  replace T0 := below_next T0 hb6 rfl
  replace Ox0 := Sh.onext Ox0 hb6
  clear hb6
  go_wp2_with fail
  refine (eqEntrySv_any vx0 vy0 x0 x0 _ ((Sh.rows shEntry 117).ord Ox0) ((Sh.rows shEntry 117).ord Oy0)).mono ?_
  rintro e w7 ⟨rfl, hb7⟩
  rw [eqC_self]
  have zw7 : w6.heap.size ≤ w7.heap.size := hb7.size
  replace T0 := below_next T0 hb7 rfl
  replace Ox0 := Sh.onext Ox0 hb7
  replace Oy0 := Sh.onext Oy0 hb7
  clear hb7
  clear Oy0 Iy0
  go_wp2_with fail
  go_ret
  exact ⟨rfl, T0⟩
end Go.Proofs.Ytppnmpeicmlneaa
