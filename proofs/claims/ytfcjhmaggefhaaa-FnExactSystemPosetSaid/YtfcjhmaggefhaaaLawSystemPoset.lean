/- The walk of the law FnExactSystemPoset. Printed by genlaw.py. -/
import Derived.Test.YtfcjhmaggefhaaaSysPos
namespace Go.Proofs.Ytfcjhmaggefhaaa
open Go.RowKit

set_option linter.unusedVariables false in
set_option maxRecDepth 100000 in
set_option maxHeartbeats 4000000 in
theorem lawSystemPoset (a0 : Int) (A1 : Option Addr) (n1 c1 : Nat) (x1 : (List (List Int))) (w : World) (l0 : -9223372036854775808 ≤ a0) (u0 : a0 ≤ 9223372036854775807) (r1 : RdL (RV RI) w A1 n1 x1) :
    Calls Try.prog 9 #[.int .i64 a0, .slice A1 n1 c1] w (Bl w (.bool true)) := by
  have le1 := r1.le
  by_cases z1 : szIntss x1 1048576 < 0
  · go_enter Try.func9, Try.ntmps9
    go_wp2_with fail
    refine (szIntSS_any _ _ _ _ 1048576 _ r1 (by omega) (by omega)).mono ?_
    rintro e w' ⟨rfl, rfl⟩
    go_wp2_with fail
    go_ret
    exact ⟨rfl, Below.refl _ _⟩
  have y1 : szIntss x1 1048576 ≤ 1048576 := szIntss_le (by omega)
  have hm1' := szIntss_ge' z1 (by omega)
  have tt1 := total_le hm1'.2 hm1'.1
  rw [r1.len] at hm1'
  have HM1 := Lib.hid hm1'.2
  have hm1 := hm1'.1
  clear hm1'
  have HB1 := Lib.hid (bounds2 r1)
  have HE1 := Lib.hid (eqLL_self x1)
  have HR := Lib.hid (eqLL_self (posRes a0 x1))
  have HRB := Lib.hid (posRes_RI a0 x1 w)
  have HRL := Lib.hid (posRes_total a0 x1)
  obtain ⟨mo, HMO⟩ : ∃ b, Hid (posRes a0 x1 = b) := ⟨_, rfl⟩
  rw [HMO.out] at HR HRB HRL
  obtain ⟨okb, HOK⟩ : ∃ b, Hid (posOk a0 x1 = b) := ⟨_, rfl⟩
  have hbb := bne_same okb
  go_enter Try.func9, Try.ntmps9
  go_wp2_with fail
  refine (szIntSS_any _ _ _ _ 1048576 _ r1 (by omega) (by omega)).mono ?_
  rintro e w' ⟨rfl, rfl⟩
  have T0 : Below w.heap.size w w := Below.refl _ _
  go_wp2_with fail
  refine (toIntSS_any _ _ _ _ _ (r1.next stab_RVI T0) hm1 HM1.out).mono ?_
  rintro e w1 ⟨g1, rfl, how1, hb1⟩
  have s1 : w.heap.size ≤ w1.heap.size := hb1.size
  replace T0 := below_next T0 hb1 rfl
  clear hb1
  have Ra1 := how1.rd (R := RI) HB1.out
  clear how1
  go_wp2_with fail
  refine (specSysPos_any _ _ _ x1 a0 w1 Ra1).mono ?_
  rintro e w2 ⟨Aw, nw, cw, rfl, Rw, hb2⟩
  rw [HOK.out]
  have s2 : w1.heap.size ≤ w2.heap.size := hb2.size
  replace T0 := below_next T0 hb2 rfl
  replace Ra1 := Ra1.next stab_RVI hb2
  clear hb2
  rw [HMO.out] at Rw
  clear Ra1
  have Tw : Below w2.heap.size w2 w2 := Below.refl _ _
  obtain ⟨w3, HW3⟩ : ∃ wb, Hid (wb = w2.alloc (.cells #[.slice Aw nw cw] 29)) := ⟨_, rfl⟩
  have hb3 : Below w2.heap.size w2 w3 := by rw [HW3.out]; exact below_box _ _
  have Bw : Blk w3 w2.heap.size 29 #[.slice Aw nw cw] := by rw [HW3.out]; exact Blk.new _ _ _
  have s3 : w2.heap.size < w3.heap.size := Bw.lt
  replace T0 := below_next T0 hb3 rfl
  replace Tw := below_next Tw hb3 rfl
  clear hb3
  have cBw := Bw.cell 0
  simp at cBw
  rw [HW3.out] at cBw
  go_wp2_with fail
  rw [← HW3.out]
  refine (toIntSS_any _ _ _ _ _ (r1.next stab_RVI T0) hm1 HM1.out).mono ?_
  rintro e w4 ⟨g4, rfl, how4, hb4⟩
  have s4 : w3.heap.size ≤ w4.heap.size := hb4.size
  replace T0 := below_next T0 hb4 rfl
  replace Tw := below_next Tw hb4 rfl
  replace Bw := Bw.next hb4
  clear hb4
  clear cBw
  have Rx1 := how4.rd (R := RI) HB1.out
  obtain ⟨vsx1, Ox1, Ix1⟩ := how4.names
  have cBw := Bw.cell 0
  simp at cBw
  go_wp2_with fail
  refine (implSysPos_any _ _ _ x1 a0 w4 Rx1 (Nat.le_refl _) HM1.out).mono ?_
  rintro e w5 ⟨Ag, ng, cg, rfl, Og', hb5⟩
  rw [HOK.out]
  have s5 : w4.heap.size ≤ w5.heap.size := hb5.size
  replace T0 := below_next T0 hb5 rfl
  replace Tw := below_next Tw hb5 rfl
  replace Bw := Bw.next hb5
  replace Ox1 := Ox1.next hb5
  replace Rx1 := Rx1.next stab_RVI hb5
  clear hb5
  clear cBw
  rw [HMO.out] at Og'
  obtain ⟨vsg, Og, Ig⟩ := Og'.names
  have htg := HRL.out
  obtain ⟨w6, HW6⟩ : ∃ wb, Hid (wb = w5.alloc (.cells #[.slice Ag ng cg] 29)) := ⟨_, rfl⟩
  have hb6 : Below w5.heap.size w5 w6 := by rw [HW6.out]; exact below_box _ _
  have Bg : Blk w6 w5.heap.size 29 #[.slice Ag ng cg] := by rw [HW6.out]; exact Blk.new _ _ _
  have s6 : w5.heap.size < w6.heap.size := Bg.lt
  replace T0 := below_next T0 hb6 rfl
  replace Tw := below_next Tw hb6 rfl
  replace Bw := Bw.next hb6
  replace Ox1 := Ox1.next hb6
  replace Rx1 := Rx1.next stab_RVI hb6
  replace Og := Og.next hb6
  clear hb6
  have cBw := Bw.cell 0
  simp at cBw
  rw [HW6.out] at cBw
  have cBg := Bg.cell 0
  simp at cBg
  rw [HW6.out] at cBg
  go_wp2_with fail
  rw [← HW6.out]
  refine (eqPoset_any _ _ _ _ _ _ _ _ _ (Og.own.rd (R := RI) HRB.out) (Rw.next stab_RVI Tw)).mono ?_
  rintro e w7 ⟨rfl, hb7⟩
  rw [HR.out]
  have s7 : w6.heap.size ≤ w7.heap.size := hb7.size
  replace T0 := below_next T0 hb7 rfl
  replace Tw := below_next Tw hb7 rfl
  replace Bw := Bw.next hb7
  replace Ox1 := Ox1.next hb7
  replace Rx1 := Rx1.next stab_RVI hb7
  replace Og := Og.next hb7
  replace Bg := Bg.next hb7
  clear hb7
  clear cBw cBg
  have cBw := Bw.cell 0
  simp at cBw
  have cBg := Bg.cell 0
  simp at cBg
  go_wp2_with fail
  refine (toIntSS_any _ _ _ _ _ (r1.next stab_RVI T0) hm1 HM1.out).mono ?_
  rintro e w8 ⟨g8, rfl, how8, hb8⟩
  have s8 : w7.heap.size ≤ w8.heap.size := hb8.size
  replace T0 := below_next T0 hb8 rfl
  replace Tw := below_next Tw hb8 rfl
  replace Bw := Bw.next hb8
  replace Ox1 := Ox1.next hb8
  replace Rx1 := Rx1.next stab_RVI hb8
  replace Og := Og.next hb8
  replace Bg := Bg.next hb8
  clear hb8
  clear cBw cBg
  have Rb1 := how8.rd (R := RI) HB1.out
  clear how8
  have cBw := Bw.cell 0
  simp at cBw
  have cBg := Bg.cell 0
  simp at cBg
  go_wp2_with fail
  refine (bl_of_quiet (eqIntSS_any _ _ _ _ _ _ _ _ _ Rx1 Rb1)).mono ?_
  rintro e w9 ⟨rfl, hb9⟩
  rw [HE1.out]
  have s9 : w8.heap.size ≤ w9.heap.size := hb9.size
  replace T0 := below_next T0 hb9 rfl
  replace Tw := below_next Tw hb9 rfl
  replace Bw := Bw.next hb9
  replace Ox1 := Ox1.next hb9
  replace Rx1 := Rx1.next stab_RVI hb9
  replace Og := Og.next hb9
  replace Bg := Bg.next hb9
  replace Rb1 := Rb1.next stab_RVI hb9
  clear hb9
  clear cBw cBg
  clear Rb1
  clear Rx1
  have cBw := Bw.cell 0
  simp at cBw
  have cBg := Bg.cell 0
  simp at cBg
  go_wp2_with fail
  refine (markIntSS_any _ _ _ _ _ (1) w3.heap.size w4.heap.size _ Ox1 Ix1 (by omega) (by omega)).mono ?_
  rintro e w10 ⟨rfl, -, hc10⟩
  have s10 : w9.heap.size ≤ w10.heap.size := hc10.size
  replace T0 := T0.trans (hc10.below (by omega) (by have := T0.size; omega))
  replace Tw := Tw.trans (hc10.below (by omega) (by have := Tw.size; omega))
  replace Bw := Bw.chg hc10 (by omega)
  replace Og := Og.kept hc10 (by omega)
  replace Bg := Bg.chg hc10 (by omega)
  clear hc10
  clear cBw cBg
  clear Ox1
  have hk0 : ¬ (1 + (total x1 : Int) < (0 : Int)) := by omega
  have cBw := Bw.cell 0
  simp at cBw
  have cBg := Bg.cell 0
  simp at cBg
  go_wp2_with fail
  refine (eqPoset_any _ _ _ _ _ _ _ _ _ (Og.own.rd (R := RI) HRB.out) (Rw.next stab_RVI Tw)).mono ?_
  rintro e w11 ⟨rfl, hb11⟩
  rw [HR.out]
  have s11 : w10.heap.size ≤ w11.heap.size := hb11.size
  replace T0 := below_next T0 hb11 rfl
  replace Tw := below_next Tw hb11 rfl
  replace Bw := Bw.next hb11
  replace Og := Og.next hb11
  replace Bg := Bg.next hb11
  clear hb11
  clear cBw cBg
  have cBw := Bw.cell 0
  simp at cBw
  have cBg := Bg.cell 0
  simp at cBg
  go_wp2_with fail
  refine (markPoset_any _ _ _ _ _ 1 w4.heap.size w5.heap.size _ Og Ig (by omega) (by omega)).mono ?_
  rintro e w12 ⟨rfl, Om, hc12⟩
  have s12 : w11.heap.size ≤ w12.heap.size := hc12.size
  replace T0 := T0.trans (hc12.below (by omega) (by have := T0.size; omega))
  replace Tw := Tw.trans (hc12.below (by omega) (by have := Tw.size; omega))
  replace Bw := Bw.chg hc12 (by omega)
  replace Bg := Bg.chg hc12 (by omega)
  clear hc12
  clear cBw cBg
  have hq0 : ¬ (1 + (total mo : Int) < 0) := by omega
  have h1t : (0 : Int) ≤ 1 := by omega
  have h2t : (1 : Int) + total mo ≤ 4611686018427387904 := by omega
  clear Og
  have cBw := Bw.cell 0
  simp at cBw
  have cBg := Bg.cell 0
  simp at cBg
  go_wp2_with fail
  refine (heldPoset_any _ _ _ _ _ _ (Om.own.rd (R := RI) (numss_bounds h1t h2t)) (by omega) (by omega)).mono ?_
  rintro e w13 ⟨rfl, hb13⟩
  have s13 : w12.heap.size ≤ w13.heap.size := hb13.size
  replace T0 := below_next T0 hb13 rfl
  replace Tw := below_next Tw hb13 rfl
  replace Bw := Bw.next hb13
  replace Bg := Bg.next hb13
  replace Om := Om.next hb13
  clear hb13
  clear cBw cBg
  have cBw := Bw.cell 0
  simp at cBw
  have cBg := Bg.cell 0
  simp at cBg
  go_wp2_with fail
  refine (toIntSS_any _ _ _ _ _ (r1.next stab_RVI T0) hm1 HM1.out).mono ?_
  rintro e w14 ⟨g14, rfl, how14, hb14⟩
  have s14 : w13.heap.size ≤ w14.heap.size := hb14.size
  replace T0 := below_next T0 hb14 rfl
  replace Tw := below_next Tw hb14 rfl
  replace Bw := Bw.next hb14
  replace Bg := Bg.next hb14
  replace Om := Om.next hb14
  clear hb14
  clear cBw cBg
  have Rh1 := how14.rd (R := RI) HB1.out
  clear how14
  have cBw := Bw.cell 0
  simp at cBw
  have cBg := Bg.cell 0
  simp at cBg
  go_wp2_with fail
  refine (implSysPos_any _ _ _ x1 a0 w14 Rh1 (Nat.le_refl _) HM1.out).mono ?_
  rintro e w15 ⟨Ah, nh, ch, rfl, Oh, hb15⟩
  rw [HOK.out]
  have s15 : w14.heap.size ≤ w15.heap.size := hb15.size
  replace T0 := below_next T0 hb15 rfl
  replace Tw := below_next Tw hb15 rfl
  replace Bw := Bw.next hb15
  replace Bg := Bg.next hb15
  replace Om := Om.next hb15
  replace Rh1 := Rh1.next stab_RVI hb15
  clear hb15
  clear cBw cBg
  rw [HMO.out] at Oh
  obtain ⟨w16, HW16⟩ : ∃ wb, Hid (wb = w15.alloc (.cells #[.slice Ah nh ch] 29)) := ⟨_, rfl⟩
  have hb16 : Below w15.heap.size w15 w16 := by rw [HW16.out]; exact below_box _ _
  have Bh : Blk w16 w15.heap.size 29 #[.slice Ah nh ch] := by rw [HW16.out]; exact Blk.new _ _ _
  have s16 : w15.heap.size < w16.heap.size := Bh.lt
  replace T0 := below_next T0 hb16 rfl
  replace Tw := below_next Tw hb16 rfl
  replace Bw := Bw.next hb16
  replace Bg := Bg.next hb16
  replace Om := Om.next hb16
  replace Rh1 := Rh1.next stab_RVI hb16
  replace Oh := Oh.next hb16
  clear hb16
  clear Rh1
  have cBw := Bw.cell 0
  simp at cBw
  rw [HW16.out] at cBw
  have cBg := Bg.cell 0
  simp at cBg
  rw [HW16.out] at cBg
  have cBh := Bh.cell 0
  simp at cBh
  rw [HW16.out] at cBh
  go_wp2_with fail
  rw [← HW16.out]
  refine (eqPoset_any _ _ _ _ _ _ _ _ _ (Oh.rd (R := RI) HRB.out) (Rw.next stab_RVI Tw)).mono ?_
  rintro e w17 ⟨rfl, hb17⟩
  rw [HR.out]
  have s17 : w16.heap.size ≤ w17.heap.size := hb17.size
  replace T0 := below_next T0 hb17 rfl
  replace Tw := below_next Tw hb17 rfl
  replace Bw := Bw.next hb17
  replace Bg := Bg.next hb17
  replace Om := Om.next hb17
  replace Oh := Oh.next hb17
  replace Bh := Bh.next hb17
  clear hb17
  clear cBw cBg cBh
  have cBw := Bw.cell 0
  simp at cBw
  have cBg := Bg.cell 0
  simp at cBg
  have cBh := Bh.cell 0
  simp at cBh
  go_wp2_with fail
  refine (heldPoset_any _ _ _ _ _ _ (Om.own.rd (R := RI) (numss_bounds h1t h2t)) (by omega) (by omega)).mono ?_
  rintro e w18 ⟨rfl, hb18⟩
  have s18 : w17.heap.size ≤ w18.heap.size := hb18.size
  replace T0 := below_next T0 hb18 rfl
  replace Tw := below_next Tw hb18 rfl
  replace Bw := Bw.next hb18
  replace Bg := Bg.next hb18
  replace Om := Om.next hb18
  replace Oh := Oh.next hb18
  replace Bh := Bh.next hb18
  clear hb18
  clear cBw cBg cBh
  go_wp2_with fail
  go_ret
  exact ⟨rfl, T0⟩
end Go.Proofs.Ytfcjhmaggefhaaa
