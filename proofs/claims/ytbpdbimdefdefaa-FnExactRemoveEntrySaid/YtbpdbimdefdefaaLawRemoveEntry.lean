
/- The walk of the law FnExactRemoveEntry. Printed by genlaw3.py. -/
import Derived.Test.YtbpdbimdefdefaaRm4
import Derived.Test.YtbpdbimdefdefaaKEntry
import Derived.Deep.RegionHeld3
import Derived.Deep.DeepCutAuto
namespace Go.Proofs.Ytbpdbimdefdefaa
open Go.RowKit

set_option linter.unusedVariables false in
set_option maxRecDepth 100000 in
set_option maxHeartbeats 16000000 in
theorem lawRemoveEntry (v0 : Value) (x0 : List EntryM) (x1 : ByteArray) (w : World) (h0 : (Sh.rows shEntry 64).rd w [v0] x0) (h1 : x1.size ≤ maxLen) :
    Calls Try.prog 3 #[v0, .string x1] w (Bl w (.bool true)) := by
  have hs1 := h1
  unfold maxLen at hs1
  have T0 : Below w.heap.size w w := Below.refl _ _
  have L0 : (0 : Int) ≤ 1048576 ∧ (1048576 : Int) ≤ 1048576 := by omega
  go_enter Try.func3, Try.ntmps3
  by_cases z1 : (1048576 : Int) < (x1.size : Int)
  · go_wp2_with fail
    go_ret
    exact ⟨rfl, T0⟩
  have hn1 : x1.size ≤ 1048576 := by omega
  go_wp2_with fail
  refine (szEntrySv_any v0 x0 1048576 _ ((Sh.rows shEntry 64).stab h0 T0.block) L0.1 L0.2).mono ?_
  rintro e w1 ⟨rfl, hb1⟩
  have zw1 : w.heap.size ≤ w1.heap.size := hb1.size
  replace T0 := below_next T0 hb1 rfl
  clear hb1
  obtain ⟨l0, HL0⟩ : ∃ l, Hid (szR ((Sh.rows shEntry 64).cnt x0) 1048576 = l) := ⟨_, rfl⟩
  have bd0 := szR_bd ((Sh.rows shEntry 64).cnt x0) (left := 1048576) L0.1
  rw [HL0.out] at bd0 ⊢
  by_cases z0 : l0 < 0
  · go_wp2_with fail
    go_ret
    exact ⟨rfl, T0⟩
  have hn0 : ((Sh.rows shEntry 64).cnt x0) ≤ 1048576 := by have := szR_ok (a := ((Sh.rows shEntry 64).cnt x0)) (left := 1048576) (by rw [HL0.out]; exact z0); omega
  have M0 : 0 ≤ l0 ∧ l0 ≤ 1048576 := by omega
  clear bd0
  obtain ⟨mo0, HMO0⟩ : ∃ b, Hid ((rmP x0 x1).1 = b) := ⟨_, rfl⟩
  obtain ⟨mo1, HMO1⟩ : ∃ b, Hid ((rmP x0 x1).2 = b) := ⟨_, rfl⟩
  have hbb1 := bne_self mo1
  go_wp2_with fail
  refine (toEntrySv_any v0 x0 _ ((Sh.rows shEntry 64).stab h0 T0.block) hn0).mono ?_
  rintro e w2 ⟨vn0, bln0, rfl, On0, In0, hb2⟩
  have zw2 : w1.heap.size ≤ w2.heap.size := hb2.size
  replace T0 := below_next T0 hb2 rfl
  clear hb2
  go_wp2_with fail
  refine (specRmv_any vn0 x0 x1 _ ((Sh.rows shEntry 64).ord On0) (cap_of On0) h1 hn0).mono ?_
  rintro e w3 ⟨vw, rfl, Rw, hb3⟩
  rw [HMO1.out]
  have zw3 : w2.heap.size ≤ w3.heap.size := hb3.size
  replace T0 := below_next T0 hb3 rfl
  replace On0 := Sh.onext On0 hb3
  clear hb3
  clear On0 In0
  rw [HMO0.out] at Rw
  have Tw : Below w3.heap.size w3 w3 := Below.refl _ _
  go_wp2_with fail
  refine (toEntrySv_any v0 x0 _ ((Sh.rows shEntry 64).stab h0 T0.block) hn0).mono ?_
  rintro e w4 ⟨vx0, blx0, rfl, Ox0, Ix0, hb4⟩
  have zw4 : w3.heap.size ≤ w4.heap.size := hb4.size
  replace T0 := below_next T0 hb4 rfl
  replace Tw := below_next Tw hb4 rfl
  clear hb4
  go_wp2_with fail
  refine (implRmv_any vx0 x0 x1 _ ((Sh.rows shEntry 64).ord Ox0) hn0).mono ?_
  rintro e w5 ⟨vg, blg, rfl, Og, Ig, hb5⟩
  rw [HMO1.out]
  have zw5 : w4.heap.size ≤ w5.heap.size := hb5.size
  replace T0 := below_next T0 hb5 rfl
  replace Tw := below_next Tw hb5 rfl
  replace Ox0 := Sh.onext Ox0 hb5
  clear hb5
  rw [HMO0.out] at Og
  go_wp2_with fail
  refine (eqEntrySv_any vg vw mo0 mo0 _ ((Sh.rows shEntry 64).ord Og) ((Sh.rows shEntry 64).stab Rw Tw.block)).mono ?_
  rintro e w6 ⟨rfl, hb6⟩
  rw [eqC_self]
  have zw6 : w5.heap.size ≤ w6.heap.size := hb6.size
  replace T0 := below_next T0 hb6 rfl
  replace Tw := below_next Tw hb6 rfl
  replace Ox0 := Sh.onext Ox0 hb6
  replace Og := Sh.onext Og hb6
  clear hb6
  go_wp2_with fail
  refine (toEntrySv_any v0 x0 _ ((Sh.rows shEntry 64).stab h0 T0.block) hn0).mono ?_
  rintro e w7 ⟨vy0, bly0, rfl, Oy0, Iy0, hb7⟩
  have zw7 : w6.heap.size ≤ w7.heap.size := hb7.size
  replace T0 := below_next T0 hb7 rfl
  replace Tw := below_next Tw hb7 rfl
  replace Ox0 := Sh.onext Ox0 hb7
  replace Og := Sh.onext Og hb7
  clear hb7
  go_wp2_with fail
  refine (eqEntrySv_any vx0 vy0 x0 x0 _ ((Sh.rows shEntry 64).ord Ox0) ((Sh.rows shEntry 64).ord Oy0)).mono ?_
  rintro e w8 ⟨rfl, hb8⟩
  rw [eqC_self]
  have zw8 : w7.heap.size ≤ w8.heap.size := hb8.size
  replace T0 := below_next T0 hb8 rfl
  replace Tw := below_next Tw hb8 rfl
  replace Ox0 := Sh.onext Ox0 hb8
  replace Og := Sh.onext Og hb8
  replace Oy0 := Sh.onext Oy0 hb8
  clear hb8
  clear Oy0 Iy0
  have k0_0 : (0 : Int) ≤ 1 := by omega
  have hm0 : cntS mcEntry x0 ≤ 4194304 := mcle_rowsEntry hn0
  go_wp2_with fail
  refine (markEntryS_any vx0 x0 blx0 (1) _ Ox0 Ix0.1 (by omega) (by omega)).mono ?_
  rintro e w9 ⟨rfl, -, hb9⟩
  have hg9 := hb9.chg (lo := w3.heap.size) (hi := w4.heap.size) Ix0.2
  have zw9 : w8.heap.size ≤ w9.heap.size := hg9.size
  replace T0 := T0.trans (hg9.below (by omega) (by have := T0.size; omega))
  replace Tw := Tw.trans (hg9.below (by omega) (by have := Tw.size; omega))
  replace Og := Sh.okept Og Ig hg9 (by omega)
  clear hb9 hg9
  clear Ox0
  have hk0 : ¬ (1 + ((cntS mcEntry x0 : Nat) : Int) < (0 : Int)) := by omega
  go_wp2_with fail
  refine (eqEntrySv_any vg vw mo0 mo0 _ ((Sh.rows shEntry 64).ord Og) ((Sh.rows shEntry 64).stab Rw Tw.block)).mono ?_
  rintro e w10 ⟨rfl, hb10⟩
  rw [eqC_self]
  have zw10 : w9.heap.size ≤ w10.heap.size := hb10.size
  replace T0 := below_next T0 hb10 rfl
  replace Tw := below_next Tw hb10 rfl
  replace Og := Sh.onext Og hb10
  clear hb10
  have hmr : cntS mcEntry mo0 ≤ 4194304 := by rw [← HMO0.out]; exact mcle_rowsEntry (rmP_cnt hn0)
  go_wp2_with fail
  refine (markEntryS_any vg mo0 blg 1 _ Og Ig.1 (by omega) (by omega)).mono ?_
  rintro e w11 ⟨rfl, Om, hb11⟩
  have hg11 := hb11.chg (lo := w4.heap.size) (hi := w5.heap.size) Ig.2
  have zw11 : w10.heap.size ≤ w11.heap.size := hg11.size
  replace T0 := T0.trans (hg11.below (by omega) (by have := T0.size; omega))
  replace Tw := Tw.trans (hg11.below (by omega) (by have := Tw.size; omega))
  clear hb11 hg11
  clear Og
  have hq0 : ¬ (1 + ((cntS mcEntry mo0 : Nat) : Int) < 0) := by omega
  have hqq : ((1 + ((cntS mcEntry mo0 : Nat) : Int)) != (1 + ((cntS mcEntry mo0 : Nat) : Int))) = false := by simp
  go_wp2_with fail
  refine (heldEntryS_any vg mo0 1 _ ((Sh.rows shEntry 64).ord Om) (by omega) (by omega)).mono ?_
  rintro e w12 ⟨rfl, hb12⟩
  have zw12 : w11.heap.size ≤ w12.heap.size := hb12.size
  replace T0 := below_next T0 hb12 rfl
  replace Tw := below_next Tw hb12 rfl
  replace Om := Sh.onext Om hb12
  clear hb12
  go_wp2_with fail
  refine (toEntrySv_any v0 x0 _ ((Sh.rows shEntry 64).stab h0 T0.block) hn0).mono ?_
  rintro e w13 ⟨vh0, blh0, rfl, Oh0, Ih0, hb13⟩
  have zw13 : w12.heap.size ≤ w13.heap.size := hb13.size
  replace T0 := below_next T0 hb13 rfl
  replace Tw := below_next Tw hb13 rfl
  replace Om := Sh.onext Om hb13
  clear hb13
  go_wp2_with fail
  refine (implRmv_any vh0 x0 x1 _ ((Sh.rows shEntry 64).ord Oh0) hn0).mono ?_
  rintro e w14 ⟨vh, blh, rfl, Oh, Ih, hb14⟩
  rw [HMO1.out]
  have zw14 : w13.heap.size ≤ w14.heap.size := hb14.size
  replace T0 := below_next T0 hb14 rfl
  replace Tw := below_next Tw hb14 rfl
  replace Om := Sh.onext Om hb14
  replace Oh0 := Sh.onext Oh0 hb14
  clear hb14
  rw [HMO0.out] at Oh
  clear Oh0 Ih0
  go_wp2_with fail
  refine (eqEntrySv_any vh vw mo0 mo0 _ ((Sh.rows shEntry 64).ord Oh) ((Sh.rows shEntry 64).stab Rw Tw.block)).mono ?_
  rintro e w15 ⟨rfl, hb15⟩
  rw [eqC_self]
  have zw15 : w14.heap.size ≤ w15.heap.size := hb15.size
  replace T0 := below_next T0 hb15 rfl
  replace Tw := below_next Tw hb15 rfl
  replace Om := Sh.onext Om hb15
  replace Oh := Sh.onext Oh hb15
  clear hb15
  go_wp2_with fail
  refine (heldEntryS_any vg mo0 1 _ ((Sh.rows shEntry 64).ord Om) (by omega) (by omega)).mono ?_
  rintro e w16 ⟨rfl, hb16⟩
  have zw16 : w15.heap.size ≤ w16.heap.size := hb16.size
  replace T0 := below_next T0 hb16 rfl
  replace Tw := below_next Tw hb16 rfl
  replace Om := Sh.onext Om hb16
  replace Oh := Sh.onext Oh hb16
  clear hb16
  go_wp2_with fail
  go_ret
  exact ⟨rfl, T0⟩
end Go.Proofs.Ytbpdbimdefdefaa
