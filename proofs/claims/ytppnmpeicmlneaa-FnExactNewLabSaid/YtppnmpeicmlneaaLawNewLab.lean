
/- The walk of the law FnExactNewLab. Printed by genlaw3.py. -/
import Derived.Test.YtppnmpeicmlneaaNewLab
import Derived.Deep.RegionHeld3
import Derived.Deep.DeepCutAuto
namespace Go.Proofs.Ytppnmpeicmlneaa
open Go.RowKit

set_option linter.unusedVariables false in
set_option maxRecDepth 100000 in
set_option maxHeartbeats 16000000 in
theorem lawNewLab (x0 : Int) (w : World) (h0 : InR x0) :
    Calls Try.prog 4 #[.int .i64 x0] w (Bl w (.bool true)) := by
  have T0 : Below w.heap.size w w := Below.refl _ _
  have L0 : (0 : Int) ≤ 1048576 ∧ (1048576 : Int) ≤ 1048576 := by omega
  go_enter Try.func4, Try.ntmps4
  obtain ⟨mo0, HMO0⟩ : ∃ b, Hid (labM x0 = b) := ⟨_, rfl⟩
  obtain ⟨mo1, HMO1⟩ : ∃ b, Hid (inB x0 0 9999 = b) := ⟨_, rfl⟩
  have hbb1 := bne_self mo1
  go_wp2_with fail
  refine ((specNewLab_any x0 _ h0).mono fun _ _ => OwA.rd).mono ?_
  rintro e w1 ⟨csw, rfl, Rw, hb1⟩
  rw [HMO1.out]
  have zw1 : w.heap.size ≤ w1.heap.size := hb1.size
  replace T0 := below_next T0 hb1 rfl
  clear hb1
  rw [HMO0.out] at Rw
  have Tw : Below w1.heap.size w1 w1 := Below.refl _ _
  have Rw' := Rw
  obtain ⟨AwBaseOps, nwBaseOps, cwBaseOps, AwFacts, nwFacts, cwFacts, rfl, -, -, -, -⟩ := rdLab Rw'
  clear Rw'
  obtain ⟨w2, HW2⟩ : ∃ wb, Hid (wb = w1.alloc (.cells #[.bool mo0.1, .int .i64 mo0.2.1.1, .slice AwBaseOps nwBaseOps cwBaseOps, .slice AwFacts nwFacts cwFacts, .int .i64 mo0.2.2.2] 44)) := ⟨_, rfl⟩
  have hb2 : Below w1.heap.size w1 w2 := by rw [HW2.out]; exact below_box _ _
  have Bw : Blk w2 w1.heap.size 44 #[.bool mo0.1, .int .i64 mo0.2.1.1, .slice AwBaseOps nwBaseOps cwBaseOps, .slice AwFacts nwFacts cwFacts, .int .i64 mo0.2.2.2] := by rw [HW2.out]; exact Blk.new _ _ _
  have yw2 : w1.heap.size < w2.heap.size := Bw.lt
  have zw2 : w1.heap.size ≤ w2.heap.size := hb2.size
  replace T0 := below_next T0 hb2 rfl
  replace Tw := below_next Tw hb2 rfl
  clear hb2
  have cBw_0 := Bw.cell 0
  have cBw_1 := Bw.cell 1
  have cBw_2 := Bw.cell 2
  have cBw_3 := Bw.cell 3
  have cBw_4 := Bw.cell 4
  simp only [List.getElem?_toArray, List.getElem?_cons_zero, List.getElem?_cons_succ] at cBw_0 cBw_1 cBw_2 cBw_3 cBw_4
  rw [HW2.out] at cBw_0
  rw [HW2.out] at cBw_1
  rw [HW2.out] at cBw_2
  rw [HW2.out] at cBw_3
  rw [HW2.out] at cBw_4
  go_wp2_with fail
  rw [← HW2.out]
  clear cBw_0 cBw_1 cBw_2 cBw_3 cBw_4
  refine (implNewLab_any x0 _ h0).mono ?_
  rintro e w3 ⟨csg, blg, rfl, Og, Ig, hb3⟩
  rw [HMO1.out]
  have zw3 : w2.heap.size ≤ w3.heap.size := hb3.size
  replace T0 := below_next T0 hb3 rfl
  replace Tw := below_next Tw hb3 rfl
  replace Bw := Bw.next hb3
  clear hb3
  rw [HMO0.out] at Og
  obtain ⟨AgBaseOps, ngBaseOps, cgBaseOps, AgFacts, ngFacts, cgFacts, rfl, -, -, -, -⟩ := rdLab (shLab.ord Og)
  obtain ⟨w4, HW4⟩ : ∃ wb, Hid (wb = w3.alloc (.cells #[.bool mo0.1, .int .i64 mo0.2.1.1, .slice AgBaseOps ngBaseOps cgBaseOps, .slice AgFacts ngFacts cgFacts, .int .i64 mo0.2.2.2] 44)) := ⟨_, rfl⟩
  have hb4 : Below w3.heap.size w3 w4 := by rw [HW4.out]; exact below_box _ _
  have Bg : Blk w4 w3.heap.size 44 #[.bool mo0.1, .int .i64 mo0.2.1.1, .slice AgBaseOps ngBaseOps cgBaseOps, .slice AgFacts ngFacts cgFacts, .int .i64 mo0.2.2.2] := by rw [HW4.out]; exact Blk.new _ _ _
  have yw4 : w3.heap.size < w4.heap.size := Bg.lt
  have zw4 : w3.heap.size ≤ w4.heap.size := hb4.size
  replace T0 := below_next T0 hb4 rfl
  replace Tw := below_next Tw hb4 rfl
  replace Og := Sh.onext Og hb4
  replace Bw := Bw.next hb4
  clear hb4
  have cBw_0 := Bw.cell 0
  have cBw_1 := Bw.cell 1
  have cBw_2 := Bw.cell 2
  have cBw_3 := Bw.cell 3
  have cBw_4 := Bw.cell 4
  have cBg_0 := Bg.cell 0
  have cBg_1 := Bg.cell 1
  have cBg_2 := Bg.cell 2
  have cBg_3 := Bg.cell 3
  have cBg_4 := Bg.cell 4
  simp only [List.getElem?_toArray, List.getElem?_cons_zero, List.getElem?_cons_succ] at cBw_0 cBw_1 cBw_2 cBw_3 cBw_4 cBg_0 cBg_1 cBg_2 cBg_3 cBg_4
  rw [HW4.out] at cBw_0
  rw [HW4.out] at cBw_1
  rw [HW4.out] at cBw_2
  rw [HW4.out] at cBw_3
  rw [HW4.out] at cBw_4
  rw [HW4.out] at cBg_0
  rw [HW4.out] at cBg_1
  rw [HW4.out] at cBg_2
  rw [HW4.out] at cBg_3
  rw [HW4.out] at cBg_4
  go_wp2_with fail
  rw [← HW4.out]
  clear cBw_0 cBw_1 cBw_2 cBw_3 cBw_4 cBg_0 cBg_1 cBg_2 cBg_3 cBg_4
  refine (eqLab_any [.bool mo0.1, .int .i64 mo0.2.1.1, .slice AgBaseOps ngBaseOps cgBaseOps, .slice AgFacts ngFacts cgFacts, .int .i64 mo0.2.2.2] [.bool mo0.1, .int .i64 mo0.2.1.1, .slice AwBaseOps nwBaseOps cwBaseOps, .slice AwFacts nwFacts cwFacts, .int .i64 mo0.2.2.2] mo0 mo0 _ (shLab.ord Og) (shLab.stab Rw Tw.block)).mono ?_
  rintro e w5 ⟨rfl, hb5⟩
  rw [eqC_self]
  have zw5 : w4.heap.size ≤ w5.heap.size := hb5.size
  replace T0 := below_next T0 hb5 rfl
  replace Tw := below_next Tw hb5 rfl
  replace Og := Sh.onext Og hb5
  replace Bw := Bw.next hb5
  replace Bg := Bg.next hb5
  clear hb5
  have k0_0 : (0 : Int) ≤ 1 := by omega
  have hmr : msLab mo0 ≤ 4194304 := by rw [← HMO0.out]; exact msLab_labM _
  have cBw_0 := Bw.cell 0
  have cBw_1 := Bw.cell 1
  have cBw_2 := Bw.cell 2
  have cBw_3 := Bw.cell 3
  have cBw_4 := Bw.cell 4
  have cBg_0 := Bg.cell 0
  have cBg_1 := Bg.cell 1
  have cBg_2 := Bg.cell 2
  have cBg_3 := Bg.cell 3
  have cBg_4 := Bg.cell 4
  simp only [List.getElem?_toArray, List.getElem?_cons_zero, List.getElem?_cons_succ] at cBw_0 cBw_1 cBw_2 cBw_3 cBw_4 cBg_0 cBg_1 cBg_2 cBg_3 cBg_4
  go_wp2_with fail
  clear cBw_0 cBw_1 cBw_2 cBw_3 cBw_4 cBg_0 cBg_1 cBg_2 cBg_3 cBg_4
  refine (markLab_any [.bool mo0.1, .int .i64 mo0.2.1.1, .slice AgBaseOps ngBaseOps cgBaseOps, .slice AgFacts ngFacts cgFacts, .int .i64 mo0.2.2.2] mo0 blg 1 _ Og Ig.1 (by omega) (by omega)).mono ?_
  rintro e w6 ⟨rfl, Om, hb6⟩
  have hg6 := hb6.chg (lo := w2.heap.size) (hi := w3.heap.size) Ig.2
  have zw6 : w5.heap.size ≤ w6.heap.size := hg6.size
  replace T0 := T0.trans (hg6.below (by omega) (by have := T0.size; omega))
  replace Tw := Tw.trans (hg6.below (by omega) (by have := Tw.size; omega))
  replace Bw := Bw.chg' hg6 (by omega)
  replace Bg := Bg.chg' hg6 (by omega)
  clear hb6 hg6
  clear Og
  have hq0 : ¬ (1 + ((msLab mo0 : Nat) : Int) < 0) := by omega
  have hqq : ((1 + ((msLab mo0 : Nat) : Int)) != (1 + ((msLab mo0 : Nat) : Int))) = false := by simp
  have cBw_0 := Bw.cell 0
  have cBw_1 := Bw.cell 1
  have cBw_2 := Bw.cell 2
  have cBw_3 := Bw.cell 3
  have cBw_4 := Bw.cell 4
  have cBg_0 := Bg.cell 0
  have cBg_1 := Bg.cell 1
  have cBg_2 := Bg.cell 2
  have cBg_3 := Bg.cell 3
  have cBg_4 := Bg.cell 4
  simp only [List.getElem?_toArray, List.getElem?_cons_zero, List.getElem?_cons_succ] at cBw_0 cBw_1 cBw_2 cBw_3 cBw_4 cBg_0 cBg_1 cBg_2 cBg_3 cBg_4
  go_wp2_with fail
  clear cBw_0 cBw_1 cBw_2 cBw_3 cBw_4 cBg_0 cBg_1 cBg_2 cBg_3 cBg_4
  refine (heldLab_any [.bool mo0.1, .int .i64 mo0.2.1.1, .slice AgBaseOps ngBaseOps cgBaseOps, .slice AgFacts ngFacts cgFacts, .int .i64 mo0.2.2.2] mo0 1 _ (shLab.ord Om) (by omega) (by omega)).mono ?_
  rintro e w7 ⟨rfl, hb7⟩
  have zw7 : w6.heap.size ≤ w7.heap.size := hb7.size
  replace T0 := below_next T0 hb7 rfl
  replace Tw := below_next Tw hb7 rfl
  replace Om := Sh.onext Om hb7
  replace Bw := Bw.next hb7
  replace Bg := Bg.next hb7
  clear hb7
  have cBw_0 := Bw.cell 0
  have cBw_1 := Bw.cell 1
  have cBw_2 := Bw.cell 2
  have cBw_3 := Bw.cell 3
  have cBw_4 := Bw.cell 4
  have cBg_0 := Bg.cell 0
  have cBg_1 := Bg.cell 1
  have cBg_2 := Bg.cell 2
  have cBg_3 := Bg.cell 3
  have cBg_4 := Bg.cell 4
  simp only [List.getElem?_toArray, List.getElem?_cons_zero, List.getElem?_cons_succ] at cBw_0 cBw_1 cBw_2 cBw_3 cBw_4 cBg_0 cBg_1 cBg_2 cBg_3 cBg_4
  go_wp2_with fail
  clear cBw_0 cBw_1 cBw_2 cBw_3 cBw_4 cBg_0 cBg_1 cBg_2 cBg_3 cBg_4
  refine (implNewLab_any x0 _ h0).mono ?_
  rintro e w8 ⟨csh, blh, rfl, Oh, Ih, hb8⟩
  rw [HMO1.out]
  have zw8 : w7.heap.size ≤ w8.heap.size := hb8.size
  replace T0 := below_next T0 hb8 rfl
  replace Tw := below_next Tw hb8 rfl
  replace Om := Sh.onext Om hb8
  replace Bw := Bw.next hb8
  replace Bg := Bg.next hb8
  clear hb8
  rw [HMO0.out] at Oh
  obtain ⟨AhBaseOps, nhBaseOps, chBaseOps, AhFacts, nhFacts, chFacts, rfl, -, -, -, -⟩ := rdLab (shLab.ord Oh)
  obtain ⟨w9, HW9⟩ : ∃ wb, Hid (wb = w8.alloc (.cells #[.bool mo0.1, .int .i64 mo0.2.1.1, .slice AhBaseOps nhBaseOps chBaseOps, .slice AhFacts nhFacts chFacts, .int .i64 mo0.2.2.2] 44)) := ⟨_, rfl⟩
  have hb9 : Below w8.heap.size w8 w9 := by rw [HW9.out]; exact below_box _ _
  have Bh : Blk w9 w8.heap.size 44 #[.bool mo0.1, .int .i64 mo0.2.1.1, .slice AhBaseOps nhBaseOps chBaseOps, .slice AhFacts nhFacts chFacts, .int .i64 mo0.2.2.2] := by rw [HW9.out]; exact Blk.new _ _ _
  have yw9 : w8.heap.size < w9.heap.size := Bh.lt
  have zw9 : w8.heap.size ≤ w9.heap.size := hb9.size
  replace T0 := below_next T0 hb9 rfl
  replace Tw := below_next Tw hb9 rfl
  replace Om := Sh.onext Om hb9
  replace Oh := Sh.onext Oh hb9
  replace Bw := Bw.next hb9
  replace Bg := Bg.next hb9
  clear hb9
  have cBw_0 := Bw.cell 0
  have cBw_1 := Bw.cell 1
  have cBw_2 := Bw.cell 2
  have cBw_3 := Bw.cell 3
  have cBw_4 := Bw.cell 4
  have cBg_0 := Bg.cell 0
  have cBg_1 := Bg.cell 1
  have cBg_2 := Bg.cell 2
  have cBg_3 := Bg.cell 3
  have cBg_4 := Bg.cell 4
  have cBh_0 := Bh.cell 0
  have cBh_1 := Bh.cell 1
  have cBh_2 := Bh.cell 2
  have cBh_3 := Bh.cell 3
  have cBh_4 := Bh.cell 4
  simp only [List.getElem?_toArray, List.getElem?_cons_zero, List.getElem?_cons_succ] at cBw_0 cBw_1 cBw_2 cBw_3 cBw_4 cBg_0 cBg_1 cBg_2 cBg_3 cBg_4 cBh_0 cBh_1 cBh_2 cBh_3 cBh_4
  rw [HW9.out] at cBw_0
  rw [HW9.out] at cBw_1
  rw [HW9.out] at cBw_2
  rw [HW9.out] at cBw_3
  rw [HW9.out] at cBw_4
  rw [HW9.out] at cBg_0
  rw [HW9.out] at cBg_1
  rw [HW9.out] at cBg_2
  rw [HW9.out] at cBg_3
  rw [HW9.out] at cBg_4
  rw [HW9.out] at cBh_0
  rw [HW9.out] at cBh_1
  rw [HW9.out] at cBh_2
  rw [HW9.out] at cBh_3
  rw [HW9.out] at cBh_4
  go_wp2_with fail
  rw [← HW9.out]
  clear cBw_0 cBw_1 cBw_2 cBw_3 cBw_4 cBg_0 cBg_1 cBg_2 cBg_3 cBg_4 cBh_0 cBh_1 cBh_2 cBh_3 cBh_4
  refine (eqLab_any [.bool mo0.1, .int .i64 mo0.2.1.1, .slice AhBaseOps nhBaseOps chBaseOps, .slice AhFacts nhFacts chFacts, .int .i64 mo0.2.2.2] [.bool mo0.1, .int .i64 mo0.2.1.1, .slice AwBaseOps nwBaseOps cwBaseOps, .slice AwFacts nwFacts cwFacts, .int .i64 mo0.2.2.2] mo0 mo0 _ (shLab.ord Oh) (shLab.stab Rw Tw.block)).mono ?_
  rintro e w10 ⟨rfl, hb10⟩
  rw [eqC_self]
  have zw10 : w9.heap.size ≤ w10.heap.size := hb10.size
  replace T0 := below_next T0 hb10 rfl
  replace Tw := below_next Tw hb10 rfl
  replace Om := Sh.onext Om hb10
  replace Oh := Sh.onext Oh hb10
  replace Bw := Bw.next hb10
  replace Bg := Bg.next hb10
  replace Bh := Bh.next hb10
  clear hb10
  have cBw_0 := Bw.cell 0
  have cBw_1 := Bw.cell 1
  have cBw_2 := Bw.cell 2
  have cBw_3 := Bw.cell 3
  have cBw_4 := Bw.cell 4
  have cBg_0 := Bg.cell 0
  have cBg_1 := Bg.cell 1
  have cBg_2 := Bg.cell 2
  have cBg_3 := Bg.cell 3
  have cBg_4 := Bg.cell 4
  have cBh_0 := Bh.cell 0
  have cBh_1 := Bh.cell 1
  have cBh_2 := Bh.cell 2
  have cBh_3 := Bh.cell 3
  have cBh_4 := Bh.cell 4
  simp only [List.getElem?_toArray, List.getElem?_cons_zero, List.getElem?_cons_succ] at cBw_0 cBw_1 cBw_2 cBw_3 cBw_4 cBg_0 cBg_1 cBg_2 cBg_3 cBg_4 cBh_0 cBh_1 cBh_2 cBh_3 cBh_4
  go_wp2_with fail
  clear cBw_0 cBw_1 cBw_2 cBw_3 cBw_4 cBg_0 cBg_1 cBg_2 cBg_3 cBg_4 cBh_0 cBh_1 cBh_2 cBh_3 cBh_4
  refine (heldLab_any [.bool mo0.1, .int .i64 mo0.2.1.1, .slice AgBaseOps ngBaseOps cgBaseOps, .slice AgFacts ngFacts cgFacts, .int .i64 mo0.2.2.2] mo0 1 _ (shLab.ord Om) (by omega) (by omega)).mono ?_
  rintro e w11 ⟨rfl, hb11⟩
  have zw11 : w10.heap.size ≤ w11.heap.size := hb11.size
  replace T0 := below_next T0 hb11 rfl
  replace Tw := below_next Tw hb11 rfl
  replace Om := Sh.onext Om hb11
  replace Oh := Sh.onext Oh hb11
  replace Bw := Bw.next hb11
  replace Bg := Bg.next hb11
  replace Bh := Bh.next hb11
  clear hb11
  have cBw_0 := Bw.cell 0
  have cBw_1 := Bw.cell 1
  have cBw_2 := Bw.cell 2
  have cBw_3 := Bw.cell 3
  have cBw_4 := Bw.cell 4
  have cBg_0 := Bg.cell 0
  have cBg_1 := Bg.cell 1
  have cBg_2 := Bg.cell 2
  have cBg_3 := Bg.cell 3
  have cBg_4 := Bg.cell 4
  have cBh_0 := Bh.cell 0
  have cBh_1 := Bh.cell 1
  have cBh_2 := Bh.cell 2
  have cBh_3 := Bh.cell 3
  have cBh_4 := Bh.cell 4
  simp only [List.getElem?_toArray, List.getElem?_cons_zero, List.getElem?_cons_succ] at cBw_0 cBw_1 cBw_2 cBw_3 cBw_4 cBg_0 cBg_1 cBg_2 cBg_3 cBg_4 cBh_0 cBh_1 cBh_2 cBh_3 cBh_4
  go_wp2_with fail
  clear cBw_0 cBw_1 cBw_2 cBw_3 cBw_4 cBg_0 cBg_1 cBg_2 cBg_3 cBg_4 cBh_0 cBh_1 cBh_2 cBh_3 cBh_4
  go_ret
  exact ⟨rfl, T0⟩
end Go.Proofs.Ytppnmpeicmlneaa
