
/- The walk of the law FnExactMergeCatalogues. Printed by genlaw3.py. -/
import Derived.Test.YtbpdbimdefdefaaMrgS
import Derived.Test.YtbpdbimdefdefaaKEntry
import Derived.Deep.RegionHeld3
import Derived.Deep.DeepCutAuto
namespace Go.Proofs.Ytbpdbimdefdefaa
open Go.RowKit

set_option linter.unusedVariables false in
set_option maxRecDepth 100000 in
set_option maxHeartbeats 16000000 in
theorem lawMergeCatalogues (v0 : Value) (x0 : List EntryM) (v1 : Value) (x1 : List EntryM) (w : World) (h0 : (Sh.rows shEntry 64).rd w [v0] x0) (h1 : (Sh.rows shEntry 64).rd w [v1] x1) :
    Calls Try.prog 5 #[v0, v1] w (Bl w (.bool true)) := by
  have T0 : Below w.heap.size w w := Below.refl _ _
  have L0 : (0 : Int) ≤ 1048576 ∧ (1048576 : Int) ≤ 1048576 := by omega
  go_enter Try.func5, Try.ntmps5
  go_wp2_with fail
  refine (szEntrySv_any v0 x0 1048576 _ ((Sh.rows shEntry 64).stab h0 T0.block) L0.1 L0.2).mono ?_
  rintro e w1 ⟨rfl, hb1⟩
  have zw1 : w.heap.size ≤ w1.heap.size := hb1.size
  replace T0 := below_next T0 hb1 rfl
  clear hb1
  obtain ⟨l0, HL0⟩ : ∃ l, Hid (szR ((Sh.rows shEntry 64).cnt x0) 1048576 = l) := ⟨_, rfl⟩
  have bd0 := szR_bd ((Sh.rows shEntry 64).cnt x0) (left := 1048576) L0.1
  rw [HL0.out] at bd0 ⊢
  by_cases z0 : l0 < 0
  · go_wp2_with fail
    go_ret
    exact ⟨rfl, T0⟩
  have hn0 : ((Sh.rows shEntry 64).cnt x0) ≤ 1048576 := by have := szR_ok (a := ((Sh.rows shEntry 64).cnt x0)) (left := 1048576) (by rw [HL0.out]; exact z0); omega
  have M0 : 0 ≤ l0 ∧ l0 ≤ 1048576 := by omega
  clear bd0
  go_wp2_with fail
  refine (szEntrySv_any v1 x1 l0 _ ((Sh.rows shEntry 64).stab h1 T0.block) M0.1 M0.2).mono ?_
  rintro e w2 ⟨rfl, hb2⟩
  have zw2 : w1.heap.size ≤ w2.heap.size := hb2.size
  replace T0 := below_next T0 hb2 rfl
  clear hb2
  obtain ⟨l1, HL1⟩ : ∃ l, Hid (szR ((Sh.rows shEntry 64).cnt x1) l0 = l) := ⟨_, rfl⟩
  have bd1 := szR_bd ((Sh.rows shEntry 64).cnt x1) (left := l0) M0.1
  rw [HL1.out] at bd1 ⊢
  by_cases z1 : l1 < 0
  · go_wp2_with fail
    go_ret
    exact ⟨rfl, T0⟩
  have hn1 : ((Sh.rows shEntry 64).cnt x1) ≤ 1048576 := by have := szR_ok (a := ((Sh.rows shEntry 64).cnt x1)) (left := l0) (by rw [HL1.out]; exact z1); omega
  have M1 : 0 ≤ l1 ∧ l1 ≤ 1048576 := by omega
  clear bd1
  obtain ⟨mo0, HMO0⟩ : ∃ b, Hid ((mgP x0 x1).1 = b) := ⟨_, rfl⟩
  obtain ⟨mo1, HMO1⟩ : ∃ b, Hid ((mgP x0 x1).2 = b) := ⟨_, rfl⟩
  have hbb1 := bne_self mo1
  go_wp2_with fail
  refine (toEntrySv_any v0 x0 _ ((Sh.rows shEntry 64).stab h0 T0.block) hn0).mono ?_
  rintro e w3 ⟨vn0, bln0, rfl, On0, In0, hb3⟩
  have zw3 : w2.heap.size ≤ w3.heap.size := hb3.size
  replace T0 := below_next T0 hb3 rfl
  clear hb3
  go_wp2_with fail
  refine (toEntrySv_any v1 x1 _ ((Sh.rows shEntry 64).stab h1 T0.block) hn1).mono ?_
  rintro e w4 ⟨vn1, bln1, rfl, On1, In1, hb4⟩
  have zw4 : w3.heap.size ≤ w4.heap.size := hb4.size
  replace T0 := below_next T0 hb4 rfl
  replace On0 := Sh.onext On0 hb4
  clear hb4
  go_wp2_with fail
  refine (specMgv_any vn0 vn1 x0 x1 _ ((Sh.rows shEntry 64).ord On0) ((Sh.rows shEntry 64).ord On1) hn0 hn1).mono ?_
  rintro e w5 ⟨vw, rfl, Rw, hb5⟩
  rw [HMO1.out]
  have zw5 : w4.heap.size ≤ w5.heap.size := hb5.size
  replace T0 := below_next T0 hb5 rfl
  replace On0 := Sh.onext On0 hb5
  replace On1 := Sh.onext On1 hb5
  clear hb5
  clear On0 In0
  clear On1 In1
  rw [HMO0.out] at Rw
  have Tw : Below w5.heap.size w5 w5 := Below.refl _ _
  go_wp2_with fail
  refine (toEntrySv_any v0 x0 _ ((Sh.rows shEntry 64).stab h0 T0.block) hn0).mono ?_
  rintro e w6 ⟨vx0, blx0, rfl, Ox0, Ix0, hb6⟩
  have zw6 : w5.heap.size ≤ w6.heap.size := hb6.size
  replace T0 := below_next T0 hb6 rfl
  replace Tw := below_next Tw hb6 rfl
  clear hb6
  go_wp2_with fail
  refine (toEntrySv_any v1 x1 _ ((Sh.rows shEntry 64).stab h1 T0.block) hn1).mono ?_
  rintro e w7 ⟨vx1, blx1, rfl, Ox1, Ix1, hb7⟩
  have zw7 : w6.heap.size ≤ w7.heap.size := hb7.size
  replace T0 := below_next T0 hb7 rfl
  replace Tw := below_next Tw hb7 rfl
  replace Ox0 := Sh.onext Ox0 hb7
  clear hb7
  go_wp2_with fail
  refine (implMgv_any vx0 vx1 x0 x1 _ ((Sh.rows shEntry 64).ord Ox0) ((Sh.rows shEntry 64).ord Ox1) hn0 hn1).mono ?_
  rintro e w8 ⟨vg, blg, rfl, Og, Ig, hb8⟩
  rw [HMO1.out]
  have zw8 : w7.heap.size ≤ w8.heap.size := hb8.size
  replace T0 := below_next T0 hb8 rfl
  replace Tw := below_next Tw hb8 rfl
  replace Ox0 := Sh.onext Ox0 hb8
  replace Ox1 := Sh.onext Ox1 hb8
  clear hb8
  rw [HMO0.out] at Og
  go_wp2_with fail
  refine (eqEntrySv_any vg vw mo0 mo0 _ ((Sh.rows shEntry 64).ord Og) ((Sh.rows shEntry 64).stab Rw Tw.block)).mono ?_
  rintro e w9 ⟨rfl, hb9⟩
  rw [eqC_self]
  have zw9 : w8.heap.size ≤ w9.heap.size := hb9.size
  replace T0 := below_next T0 hb9 rfl
  replace Tw := below_next Tw hb9 rfl
  replace Ox0 := Sh.onext Ox0 hb9
  replace Ox1 := Sh.onext Ox1 hb9
  replace Og := Sh.onext Og hb9
  clear hb9
  go_wp2_with fail
  refine (toEntrySv_any v0 x0 _ ((Sh.rows shEntry 64).stab h0 T0.block) hn0).mono ?_
  rintro e w10 ⟨vy0, bly0, rfl, Oy0, Iy0, hb10⟩
  have zw10 : w9.heap.size ≤ w10.heap.size := hb10.size
  replace T0 := below_next T0 hb10 rfl
  replace Tw := below_next Tw hb10 rfl
  replace Ox0 := Sh.onext Ox0 hb10
  replace Ox1 := Sh.onext Ox1 hb10
  replace Og := Sh.onext Og hb10
  clear hb10
  go_wp2_with fail
  refine (eqEntrySv_any vx0 vy0 x0 x0 _ ((Sh.rows shEntry 64).ord Ox0) ((Sh.rows shEntry 64).ord Oy0)).mono ?_
  rintro e w11 ⟨rfl, hb11⟩
  rw [eqC_self]
  have zw11 : w10.heap.size ≤ w11.heap.size := hb11.size
  replace T0 := below_next T0 hb11 rfl
  replace Tw := below_next Tw hb11 rfl
  replace Ox0 := Sh.onext Ox0 hb11
  replace Ox1 := Sh.onext Ox1 hb11
  replace Og := Sh.onext Og hb11
  replace Oy0 := Sh.onext Oy0 hb11
  clear hb11
  clear Oy0 Iy0
  go_wp2_with fail
  refine (toEntrySv_any v1 x1 _ ((Sh.rows shEntry 64).stab h1 T0.block) hn1).mono ?_
  rintro e w12 ⟨vy1, bly1, rfl, Oy1, Iy1, hb12⟩
  have zw12 : w11.heap.size ≤ w12.heap.size := hb12.size
  replace T0 := below_next T0 hb12 rfl
  replace Tw := below_next Tw hb12 rfl
  replace Ox0 := Sh.onext Ox0 hb12
  replace Ox1 := Sh.onext Ox1 hb12
  replace Og := Sh.onext Og hb12
  clear hb12
  go_wp2_with fail
  refine (eqEntrySv_any vx1 vy1 x1 x1 _ ((Sh.rows shEntry 64).ord Ox1) ((Sh.rows shEntry 64).ord Oy1)).mono ?_
  rintro e w13 ⟨rfl, hb13⟩
  rw [eqC_self]
  have zw13 : w12.heap.size ≤ w13.heap.size := hb13.size
  replace T0 := below_next T0 hb13 rfl
  replace Tw := below_next Tw hb13 rfl
  replace Ox0 := Sh.onext Ox0 hb13
  replace Ox1 := Sh.onext Ox1 hb13
  replace Og := Sh.onext Og hb13
  replace Oy1 := Sh.onext Oy1 hb13
  clear hb13
  clear Oy1 Iy1
  have k0_0 : (0 : Int) ≤ 1 := by omega
  have hm0 : cntS mcEntry x0 ≤ 4194304 := mcle_rowsEntry hn0
  go_wp2_with fail
  refine (markEntryS_any vx0 x0 blx0 (1) _ Ox0 Ix0.1 (by omega) (by omega)).mono ?_
  rintro e w14 ⟨rfl, -, hb14⟩
  have hg14 := hb14.chg (lo := w5.heap.size) (hi := w6.heap.size) Ix0.2
  have zw14 : w13.heap.size ≤ w14.heap.size := hg14.size
  replace T0 := T0.trans (hg14.below (by omega) (by have := T0.size; omega))
  replace Tw := Tw.trans (hg14.below (by omega) (by have := Tw.size; omega))
  replace Ox1 := Sh.okept Ox1 Ix1 hg14 (by omega)
  replace Og := Sh.okept Og Ig hg14 (by omega)
  clear hb14 hg14
  clear Ox0
  have hm1 : cntS mcEntry x1 ≤ 4194304 := mcle_rowsEntry hn1
  go_wp2_with fail
  refine (markEntryS_any vx1 x1 blx1 (1 + ((cntS mcEntry x0 : Nat) : Int)) _ Ox1 Ix1.1 (by omega) (by omega)).mono ?_
  rintro e w15 ⟨rfl, -, hb15⟩
  have hg15 := hb15.chg (lo := w6.heap.size) (hi := w7.heap.size) Ix1.2
  have zw15 : w14.heap.size ≤ w15.heap.size := hg15.size
  replace T0 := T0.trans (hg15.below (by omega) (by have := T0.size; omega))
  replace Tw := Tw.trans (hg15.below (by omega) (by have := Tw.size; omega))
  replace Og := Sh.okept Og Ig hg15 (by omega)
  clear hb15 hg15
  clear Ox1
  have hk0 : ¬ (1 + ((cntS mcEntry x0 : Nat) : Int) + ((cntS mcEntry x1 : Nat) : Int) < (0 : Int)) := by omega
  go_wp2_with fail
  refine (eqEntrySv_any vg vw mo0 mo0 _ ((Sh.rows shEntry 64).ord Og) ((Sh.rows shEntry 64).stab Rw Tw.block)).mono ?_
  rintro e w16 ⟨rfl, hb16⟩
  rw [eqC_self]
  have zw16 : w15.heap.size ≤ w16.heap.size := hb16.size
  replace T0 := below_next T0 hb16 rfl
  replace Tw := below_next Tw hb16 rfl
  replace Og := Sh.onext Og hb16
  clear hb16
  have hmr : cntS mcEntry mo0 ≤ 4194304 := by rw [← HMO0.out]; exact mcle_rowsEntry mgP_cnt
  go_wp2_with fail
  refine (markEntryS_any vg mo0 blg 1 _ Og Ig.1 (by omega) (by omega)).mono ?_
  rintro e w17 ⟨rfl, Om, hb17⟩
  have hg17 := hb17.chg (lo := w7.heap.size) (hi := w8.heap.size) Ig.2
  have zw17 : w16.heap.size ≤ w17.heap.size := hg17.size
  replace T0 := T0.trans (hg17.below (by omega) (by have := T0.size; omega))
  replace Tw := Tw.trans (hg17.below (by omega) (by have := Tw.size; omega))
  clear hb17 hg17
  clear Og
  have hq0 : ¬ (1 + ((cntS mcEntry mo0 : Nat) : Int) < 0) := by omega
  have hqq : ((1 + ((cntS mcEntry mo0 : Nat) : Int)) != (1 + ((cntS mcEntry mo0 : Nat) : Int))) = false := by simp
  go_wp2_with fail
  refine (heldEntryS_any vg mo0 1 _ ((Sh.rows shEntry 64).ord Om) (by omega) (by omega)).mono ?_
  rintro e w18 ⟨rfl, hb18⟩
  have zw18 : w17.heap.size ≤ w18.heap.size := hb18.size
  replace T0 := below_next T0 hb18 rfl
  replace Tw := below_next Tw hb18 rfl
  replace Om := Sh.onext Om hb18
  clear hb18
  go_wp2_with fail
  refine (toEntrySv_any v0 x0 _ ((Sh.rows shEntry 64).stab h0 T0.block) hn0).mono ?_
  rintro e w19 ⟨vh0, blh0, rfl, Oh0, Ih0, hb19⟩
  have zw19 : w18.heap.size ≤ w19.heap.size := hb19.size
  replace T0 := below_next T0 hb19 rfl
  replace Tw := below_next Tw hb19 rfl
  replace Om := Sh.onext Om hb19
  clear hb19
  go_wp2_with fail
  refine (toEntrySv_any v1 x1 _ ((Sh.rows shEntry 64).stab h1 T0.block) hn1).mono ?_
  rintro e w20 ⟨vh1, blh1, rfl, Oh1, Ih1, hb20⟩
  have zw20 : w19.heap.size ≤ w20.heap.size := hb20.size
  replace T0 := below_next T0 hb20 rfl
  replace Tw := below_next Tw hb20 rfl
  replace Om := Sh.onext Om hb20
  replace Oh0 := Sh.onext Oh0 hb20
  clear hb20
  go_wp2_with fail
  refine (implMgv_any vh0 vh1 x0 x1 _ ((Sh.rows shEntry 64).ord Oh0) ((Sh.rows shEntry 64).ord Oh1) hn0 hn1).mono ?_
  rintro e w21 ⟨vh, blh, rfl, Oh, Ih, hb21⟩
  rw [HMO1.out]
  have zw21 : w20.heap.size ≤ w21.heap.size := hb21.size
  replace T0 := below_next T0 hb21 rfl
  replace Tw := below_next Tw hb21 rfl
  replace Om := Sh.onext Om hb21
  replace Oh0 := Sh.onext Oh0 hb21
  replace Oh1 := Sh.onext Oh1 hb21
  clear hb21
  rw [HMO0.out] at Oh
  clear Oh0 Ih0
  clear Oh1 Ih1
  go_wp2_with fail
  refine (eqEntrySv_any vh vw mo0 mo0 _ ((Sh.rows shEntry 64).ord Oh) ((Sh.rows shEntry 64).stab Rw Tw.block)).mono ?_
  rintro e w22 ⟨rfl, hb22⟩
  rw [eqC_self]
  have zw22 : w21.heap.size ≤ w22.heap.size := hb22.size
  replace T0 := below_next T0 hb22 rfl
  replace Tw := below_next Tw hb22 rfl
  replace Om := Sh.onext Om hb22
  replace Oh := Sh.onext Oh hb22
  clear hb22
  go_wp2_with fail
  refine (heldEntryS_any vg mo0 1 _ ((Sh.rows shEntry 64).ord Om) (by omega) (by omega)).mono ?_
  rintro e w23 ⟨rfl, hb23⟩
  have zw23 : w22.heap.size ≤ w23.heap.size := hb23.size
  replace T0 := below_next T0 hb23 rfl
  replace Tw := below_next Tw hb23 rfl
  replace Om := Sh.onext Om hb23
  replace Oh := Sh.onext Oh hb23
  clear hb23
  go_wp2_with fail
  go_ret
  exact ⟨rfl, T0⟩
end Go.Proofs.Ytbpdbimdefdefaa
