/- The walk of the law FnExactClosureOf. Printed by genlaw.py. -/
import Derived.Test.YtfcjhmaggefhaaaKit
import Derived.Test.YtfcjhmaggefhaaaClosure
namespace Go.Proofs.Ytfcjhmaggefhaaa
open Go.RowKit

set_option linter.unusedVariables false in
set_option maxRecDepth 100000 in
set_option maxHeartbeats 4000000 in
theorem lawClosureOf (a0 : Int) (A1 : Option Addr) (n1 c1 : Nat) (x1 : (List (List Int))) (A2 : Option Addr) (n2 c2 : Nat) (x2 : (List Int)) (w : World) (l0 : -9223372036854775808 ≤ a0) (u0 : a0 ≤ 9223372036854775807) (r1 : RdL (RV RI) w A1 n1 x1) (r2 : RdL RI w A2 n2 x2) :
    Calls Try.prog 6 #[.int .i64 a0, .slice A1 n1 c1, .slice A2 n2 c2] w (Bl w (.bool true)) := by
  have le1 := r1.le
  have le2 := r2.le
  by_cases hm2 : n2 ≤ 1048576
  rotate_left
  · go_enter Try.func6, Try.ntmps6
    go_wp2_with fail
    go_ret
    exact ⟨rfl, Below.refl _ _⟩
  by_cases z1 : szIntss x1 1048576 < 0
  · go_enter Try.func6, Try.ntmps6
    go_wp2_with fail
    refine (szIntSS_any _ _ _ _ 1048576 _ r1 (by omega) (by omega)).mono ?_
    rintro e w' ⟨rfl, rfl⟩
    go_wp2_with fail
    go_ret
    exact ⟨rfl, Below.refl _ _⟩
  have y1 : szIntss x1 1048576 ≤ 1048576 := szIntss_le (by omega)
  have hm1' := szIntss_ge' z1 (by omega)
  have tt1 := total_le hm1'.2 hm1'.1
  rw [r1.len] at hm1'
  have HM1 := Lib.hid hm1'.2
  have hm1 := hm1'.1
  clear hm1'
  have HB1 := Lib.hid (bounds2 r1)
  have HE1 := Lib.hid (eqLL_self x1)
  have HB2 := Lib.hid (r2.bounds)
  have HE2 := Lib.hid (eqL_self x2)
  have HR := Lib.hid (eqL_self (closeRes a0 x1 x2))
  have HRB := Lib.hid (closeRes_bounds (n := a0) (set := x2) fun xs hx x hxx => (HB1.out xs hx x hxx).2)
  have HRL := Lib.hid (closeRes_len (n := a0) (set := x2) HM1.out)
  obtain ⟨mo, HMO⟩ : ∃ b, Hid (closeRes a0 x1 x2 = b) := ⟨_, rfl⟩
  rw [HMO.out] at HR HRB HRL
  obtain ⟨okb, HOK⟩ : ∃ b, Hid (closeOk a0 x1 x2 = b) := ⟨_, rfl⟩
  have hbb := bne_same okb
  go_enter Try.func6, Try.ntmps6
  go_wp2_with fail
  refine (szIntSS_any _ _ _ _ 1048576 _ r1 (by omega) (by omega)).mono ?_
  rintro e w' ⟨rfl, rfl⟩
  have T0 : Below w.heap.size w w := Below.refl _ _
  go_wp2_with fail
  refine (toIntSS_any _ _ _ _ _ (r1.next stab_RVI T0) hm1 HM1.out).mono ?_
  rintro e w1 ⟨g1, rfl, how1, hb1⟩
  have s1 : w.heap.size ≤ w1.heap.size := hb1.size
  replace T0 := below_next T0 hb1 rfl
  clear hb1
  have Ra1 := how1.rd (R := RI) HB1.out
  clear how1
  go_wp2_with fail
  refine (toIntS_any _ _ _ _ _ (r2.next stab_RI T0) hm2).mono ?_
  rintro e w2 ⟨g2, rfl, -, how2, hb2⟩
  have s2 : w1.heap.size ≤ w2.heap.size := hb2.size
  replace T0 := below_next T0 hb2 rfl
  replace Ra1 := Ra1.next stab_RVI hb2
  clear hb2
  have Ra2 := rd_of_own (R := RI) how2 (RI_ints HB2.out)
  clear how2
  go_wp2_with fail
  refine (specClosureOf_any _ _ _ _ _ _ x1 x2 a0 w2 Ra1 HM1.out Ra2).mono ?_
  rintro e w3 ⟨Aw, nw, cw, rfl, Rw, hb3⟩
  rw [HOK.out]
  have s3 : w2.heap.size ≤ w3.heap.size := hb3.size
  replace T0 := below_next T0 hb3 rfl
  replace Ra1 := Ra1.next stab_RVI hb3
  replace Ra2 := Ra2.next stab_RI hb3
  clear hb3
  rw [HMO.out] at Rw
  clear Ra1 Ra2
  have Tw : Below w3.heap.size w3 w3 := Below.refl _ _
  go_wp2_with fail
  refine (toIntSS_any _ _ _ _ _ (r1.next stab_RVI T0) hm1 HM1.out).mono ?_
  rintro e w4 ⟨g4, rfl, how4, hb4⟩
  have s4 : w3.heap.size ≤ w4.heap.size := hb4.size
  replace T0 := below_next T0 hb4 rfl
  replace Tw := below_next Tw hb4 rfl
  clear hb4
  have Rx1 := how4.rd (R := RI) HB1.out
  obtain ⟨vsx1, Ox1, Ix1⟩ := how4.names
  go_wp2_with fail
  refine (toIntS_any _ _ _ _ _ (r2.next stab_RI T0) hm2).mono ?_
  rintro e w5 ⟨g5, rfl, -, how5, hb5⟩
  have s5 : w4.heap.size ≤ w5.heap.size := hb5.size
  replace T0 := below_next T0 hb5 rfl
  replace Tw := below_next Tw hb5 rfl
  replace Ox1 := Ox1.next hb5
  replace Rx1 := Rx1.next stab_RVI hb5
  clear hb5
  have Rx2 := rd_of_own (R := RI) how5 (RI_ints HB2.out)
  have Ox2 := how5
  have Ix2 := own_hi how5
  clear how5
  go_wp2_with fail
  refine (implClosureOf_any _ _ _ _ _ _ x1 x2 a0 w5 Rx1 (Nat.le_refl _) HM1.out Rx2).mono ?_
  rintro e w6 ⟨Ag, ng, cg, rfl, Og, hb6⟩
  rw [HOK.out]
  have s6 : w5.heap.size ≤ w6.heap.size := hb6.size
  replace T0 := below_next T0 hb6 rfl
  replace Tw := below_next Tw hb6 rfl
  replace Ox1 := Ox1.next hb6
  replace Rx1 := Rx1.next stab_RVI hb6
  replace Ox2 := own_next Ox2 hb6
  replace Rx2 := Rx2.next stab_RI hb6
  clear hb6
  rw [HMO.out] at Og
  have hng : ng ≤ 1048576 := by have h1 := Og.1; have h2 := HRL.out; simp [ints] at h1; omega
  have Ig := own_hi Og
  go_wp2_with fail
  refine (bl_of_quiet (eqIntS_any _ _ _ _ _ _ _ _ _ (rd_of_own (R := RI) Og (RI_ints HRB.out)) (Rw.next stab_RI Tw))).mono ?_
  rintro e w7 ⟨rfl, hb7⟩
  rw [HR.out]
  have s7 : w6.heap.size ≤ w7.heap.size := hb7.size
  replace T0 := below_next T0 hb7 rfl
  replace Tw := below_next Tw hb7 rfl
  replace Ox1 := Ox1.next hb7
  replace Rx1 := Rx1.next stab_RVI hb7
  replace Ox2 := own_next Ox2 hb7
  replace Rx2 := Rx2.next stab_RI hb7
  replace Og := own_next Og hb7
  clear hb7
  go_wp2_with fail
  refine (toIntSS_any _ _ _ _ _ (r1.next stab_RVI T0) hm1 HM1.out).mono ?_
  rintro e w8 ⟨g8, rfl, how8, hb8⟩
  have s8 : w7.heap.size ≤ w8.heap.size := hb8.size
  replace T0 := below_next T0 hb8 rfl
  replace Tw := below_next Tw hb8 rfl
  replace Ox1 := Ox1.next hb8
  replace Rx1 := Rx1.next stab_RVI hb8
  replace Ox2 := own_next Ox2 hb8
  replace Rx2 := Rx2.next stab_RI hb8
  replace Og := own_next Og hb8
  clear hb8
  have Rb1 := how8.rd (R := RI) HB1.out
  clear how8
  go_wp2_with fail
  refine (bl_of_quiet (eqIntSS_any _ _ _ _ _ _ _ _ _ Rx1 Rb1)).mono ?_
  rintro e w9 ⟨rfl, hb9⟩
  rw [HE1.out]
  have s9 : w8.heap.size ≤ w9.heap.size := hb9.size
  replace T0 := below_next T0 hb9 rfl
  replace Tw := below_next Tw hb9 rfl
  replace Ox1 := Ox1.next hb9
  replace Rx1 := Rx1.next stab_RVI hb9
  replace Ox2 := own_next Ox2 hb9
  replace Rx2 := Rx2.next stab_RI hb9
  replace Og := own_next Og hb9
  replace Rb1 := Rb1.next stab_RVI hb9
  clear hb9
  clear Rb1
  go_wp2_with fail
  refine (toIntS_any _ _ _ _ _ (r2.next stab_RI T0) hm2).mono ?_
  rintro e w10 ⟨g10, rfl, -, how10, hb10⟩
  have s10 : w9.heap.size ≤ w10.heap.size := hb10.size
  replace T0 := below_next T0 hb10 rfl
  replace Tw := below_next Tw hb10 rfl
  replace Ox1 := Ox1.next hb10
  replace Rx1 := Rx1.next stab_RVI hb10
  replace Ox2 := own_next Ox2 hb10
  replace Rx2 := Rx2.next stab_RI hb10
  replace Og := own_next Og hb10
  clear hb10
  have Rb2 := rd_of_own (R := RI) how10 (RI_ints HB2.out)
  clear how10
  go_wp2_with fail
  refine (bl_of_quiet (eqIntS_any _ _ _ _ _ _ _ _ _ Rx2 Rb2)).mono ?_
  rintro e w11 ⟨rfl, hb11⟩
  rw [HE2.out]
  have s11 : w10.heap.size ≤ w11.heap.size := hb11.size
  replace T0 := below_next T0 hb11 rfl
  replace Tw := below_next Tw hb11 rfl
  replace Ox1 := Ox1.next hb11
  replace Rx1 := Rx1.next stab_RVI hb11
  replace Ox2 := own_next Ox2 hb11
  replace Rx2 := Rx2.next stab_RI hb11
  replace Og := own_next Og hb11
  replace Rb2 := Rb2.next stab_RI hb11
  clear hb11
  clear Rb2
  clear Rx1 Rx2
  go_wp2_with fail
  refine (markIntSS_any _ _ _ _ _ (1) w3.heap.size w4.heap.size _ Ox1 Ix1 (by omega) (by omega)).mono ?_
  rintro e w12 ⟨rfl, -, hc12⟩
  have s12 : w11.heap.size ≤ w12.heap.size := hc12.size
  replace T0 := T0.trans (hc12.below (by omega) (by have := T0.size; omega))
  replace Tw := Tw.trans (hc12.below (by omega) (by have := Tw.size; omega))
  replace Ox2 := own_kept Ox2 hc12 (by omega)
  replace Og := own_kept Og hc12 (by omega)
  clear hc12
  clear Ox1
  go_wp2_with fail
  refine (markIntSk_any _ _ _ _ (1 + (total x1 : Int)) w4.heap.size w5.heap.size _ Ox2 Ix2 (by omega) (by omega)).mono ?_
  rintro e w13 ⟨rfl, -, hc13⟩
  have s13 : w12.heap.size ≤ w13.heap.size := hc13.size
  replace T0 := T0.trans (hc13.below (by omega) (by have := T0.size; omega))
  replace Tw := Tw.trans (hc13.below (by omega) (by have := Tw.size; omega))
  replace Og := own_kept Og hc13 (by omega)
  clear hc13
  clear Ox2
  have hk0 : ¬ (1 + (total x1 : Int) + (n2 : Int) < (0 : Int)) := by omega
  go_wp2_with fail
  refine (bl_of_quiet (eqIntS_any _ _ _ _ _ _ _ _ _ (rd_of_own (R := RI) Og (RI_ints HRB.out)) (Rw.next stab_RI Tw))).mono ?_
  rintro e w14 ⟨rfl, hb14⟩
  rw [HR.out]
  have s14 : w13.heap.size ≤ w14.heap.size := hb14.size
  replace T0 := below_next T0 hb14 rfl
  replace Tw := below_next Tw hb14 rfl
  replace Og := own_next Og hb14
  clear hb14
  go_wp2_with fail
  refine (markIntSk_any _ _ _ _ 1 w5.heap.size w6.heap.size _ Og Ig (by omega) (by omega)).mono ?_
  rintro e w15 ⟨rfl, Om, hc15⟩
  have s15 : w14.heap.size ≤ w15.heap.size := hc15.size
  replace T0 := T0.trans (hc15.below (by omega) (by have := T0.size; omega))
  replace Tw := Tw.trans (hc15.below (by omega) (by have := Tw.size; omega))
  clear hc15
  have Hnb := Lib.hid (nums_bounds (n := ng) (k := 1) (by omega) (by omega))
  have hq0 : ¬ (1 + (ng : Int) < 0) := by omega
  clear Og
  go_wp2_with fail
  refine (bl_of_same (heldIntS_any _ _ _ _ _ (rd_of_own (R := RI) Om (RI_ints Hnb.out)) (by omega) (by omega))).mono ?_
  rintro e w16 ⟨rfl, hb16⟩
  have s16 : w15.heap.size ≤ w16.heap.size := hb16.size
  replace T0 := below_next T0 hb16 rfl
  replace Tw := below_next Tw hb16 rfl
  replace Om := own_next Om hb16
  clear hb16
  go_wp2_with fail
  refine (toIntSS_any _ _ _ _ _ (r1.next stab_RVI T0) hm1 HM1.out).mono ?_
  rintro e w17 ⟨g17, rfl, how17, hb17⟩
  have s17 : w16.heap.size ≤ w17.heap.size := hb17.size
  replace T0 := below_next T0 hb17 rfl
  replace Tw := below_next Tw hb17 rfl
  replace Om := own_next Om hb17
  clear hb17
  have Rh1 := how17.rd (R := RI) HB1.out
  clear how17
  go_wp2_with fail
  refine (toIntS_any _ _ _ _ _ (r2.next stab_RI T0) hm2).mono ?_
  rintro e w18 ⟨g18, rfl, -, how18, hb18⟩
  have s18 : w17.heap.size ≤ w18.heap.size := hb18.size
  replace T0 := below_next T0 hb18 rfl
  replace Tw := below_next Tw hb18 rfl
  replace Om := own_next Om hb18
  replace Rh1 := Rh1.next stab_RVI hb18
  clear hb18
  have Rh2 := rd_of_own (R := RI) how18 (RI_ints HB2.out)
  clear how18
  go_wp2_with fail
  refine (implClosureOf_any _ _ _ _ _ _ x1 x2 a0 w18 Rh1 (Nat.le_refl _) HM1.out Rh2).mono ?_
  rintro e w19 ⟨Ah, nh, ch, rfl, Oh, hb19⟩
  rw [HOK.out]
  have s19 : w18.heap.size ≤ w19.heap.size := hb19.size
  replace T0 := below_next T0 hb19 rfl
  replace Tw := below_next Tw hb19 rfl
  replace Om := own_next Om hb19
  replace Rh1 := Rh1.next stab_RVI hb19
  replace Rh2 := Rh2.next stab_RI hb19
  clear hb19
  rw [HMO.out] at Oh
  clear Rh1 Rh2
  go_wp2_with fail
  refine (bl_of_quiet (eqIntS_any _ _ _ _ _ _ _ _ _ (rd_of_own (R := RI) Oh (RI_ints HRB.out)) (Rw.next stab_RI Tw))).mono ?_
  rintro e w20 ⟨rfl, hb20⟩
  rw [HR.out]
  have s20 : w19.heap.size ≤ w20.heap.size := hb20.size
  replace T0 := below_next T0 hb20 rfl
  replace Tw := below_next Tw hb20 rfl
  replace Om := own_next Om hb20
  clear hb20
  go_wp2_with fail
  refine (bl_of_same (heldIntS_any _ _ _ _ _ (rd_of_own (R := RI) Om (RI_ints Hnb.out)) (by omega) (by omega))).mono ?_
  rintro e w21 ⟨rfl, hb21⟩
  have s21 : w20.heap.size ≤ w21.heap.size := hb21.size
  replace T0 := below_next T0 hb21 rfl
  replace Tw := below_next Tw hb21 rfl
  replace Om := own_next Om hb21
  clear hb21
  go_wp2_with fail
  go_ret
  exact ⟨rfl, T0⟩
end Go.Proofs.Ytfcjhmaggefhaaa
