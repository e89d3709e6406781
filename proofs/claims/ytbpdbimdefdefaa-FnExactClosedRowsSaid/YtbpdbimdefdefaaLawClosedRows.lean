
/- The walk of the law FnExactClosedRows. Printed by genlaw.py. -/
import Derived.Test.YtbpdbimdefdefaaKitB
import Derived.Test.YtbpdbimdefdefaaCrW
namespace Go.Proofs.Ytbpdbimdefdefaa
open Go.RowKit

set_option linter.unusedVariables false in
set_option maxRecDepth 100000 in
set_option maxHeartbeats 4000000 in
theorem lawClosedRows (A0 : Option Addr) (n0 c0 : Nat) (x0 : (List (List Bool))) (w : World) (r0 : RdL (RV RB) w A0 n0 x0) :
    Calls Try.prog 7 #[.slice A0 n0 c0] w (Bl w (.bool true)) := by
  have le0 := r0.le
  by_cases z0 : szBlss x0 1048576 < 0
  · go_enter Try.func7, Try.ntmps7
    go_wp2_with fail
    refine (szBoolSS_any _ _ _ _ 1048576 _ r0 (by omega) (by omega)).mono ?_
    rintro e w' ⟨rfl, rfl⟩
    go_wp2_with fail
    go_ret
    exact ⟨rfl, Below.refl _ _⟩
  have y0 : szBlss x0 1048576 ≤ 1048576 := szBlss_le (by omega)
  have hm0' := szBlss_ge' z0 (by omega)
  have tt0 := totalB_le hm0'.2 hm0'.1
  rw [r0.len] at hm0'
  have HM0 := Lib.hid hm0'.2
  have hm0 := hm0'.1
  clear hm0'
  have HB0 := Lib.hid (bounds2B r0)
  have HE0 := Lib.hid (eqBLL_self x0)
  have HR := Lib.hid (eqLL_self (crRes x0))
  have HRB := Lib.hid (crRes_RI x0 w)
  have HRL := Lib.hid (crRes_total x0)
  obtain ⟨mo, HMO⟩ : ∃ b, Hid (crRes x0 = b) := ⟨_, rfl⟩
  rw [HMO.out] at HR HRB HRL
  obtain ⟨okb, HOK⟩ : ∃ b, Hid (ctxB x0 = b) := ⟨_, rfl⟩
  have hbb := bne_same okb
  go_enter Try.func7, Try.ntmps7
  go_wp2_with fail
  refine (szBoolSS_any _ _ _ _ 1048576 _ r0 (by omega) (by omega)).mono ?_
  rintro e w' ⟨rfl, rfl⟩
  have T0 : Below w.heap.size w w := Below.refl _ _
  go_wp2_with fail
  refine (toBoolSS_any _ _ _ _ _ (r0.next (stab_RV stab_RB) T0) hm0 HM0.out).mono ?_
  rintro e w1 ⟨g1, rfl, how1, hb1⟩
  have s1 : w.heap.size ≤ w1.heap.size := hb1.size
  replace T0 := below_next T0 hb1 rfl
  clear hb1
  have Ra0 := how1.rd (R := RB) HB0.out
  clear how1
  go_wp2_with fail
  refine (specCR_any _ _ _ x0 w1 Ra0).mono ?_
  rintro e w2 ⟨Aw, nw, cw, rfl, Rw, hb2⟩
  rw [HOK.out]
  have s2 : w1.heap.size ≤ w2.heap.size := hb2.size
  replace T0 := below_next T0 hb2 rfl
  replace Ra0 := Ra0.next (stab_RV stab_RB) hb2
  clear hb2
  rw [HMO.out] at Rw
  clear Ra0
  have Tw : Below w2.heap.size w2 w2 := Below.refl _ _
  go_wp2_with fail
  refine (toBoolSS_any _ _ _ _ _ (r0.next (stab_RV stab_RB) T0) hm0 HM0.out).mono ?_
  rintro e w3 ⟨g3, rfl, how3, hb3⟩
  have s3 : w2.heap.size ≤ w3.heap.size := hb3.size
  replace T0 := below_next T0 hb3 rfl
  replace Tw := below_next Tw hb3 rfl
  clear hb3
  have Rx0 := how3.rd (R := RB) HB0.out
  obtain ⟨vsx0, Ox0, Ix0⟩ := how3.names
  go_wp2_with fail
  refine (implCR_any _ _ _ x0 w3 Rx0).mono ?_
  rintro e w4 ⟨Ag, ng, cg, rfl, Og', hb4⟩
  rw [HOK.out]
  have s4 : w3.heap.size ≤ w4.heap.size := hb4.size
  replace T0 := below_next T0 hb4 rfl
  replace Tw := below_next Tw hb4 rfl
  replace Ox0 := Ox0.next hb4
  replace Rx0 := Rx0.next (stab_RV stab_RB) hb4
  clear hb4
  rw [HMO.out] at Og'
  obtain ⟨vsg, Og, Ig⟩ := Og'.names
  have htg := HRL.out
  go_wp2_with fail
  refine (bl_of_quiet (eqIntSS_any _ _ _ _ _ _ _ _ _ (Og.own.rd (R := RI) HRB.out) (Rw.next stab_RVI Tw))).mono ?_
  rintro e w5 ⟨rfl, hb5⟩
  rw [HR.out]
  have s5 : w4.heap.size ≤ w5.heap.size := hb5.size
  replace T0 := below_next T0 hb5 rfl
  replace Tw := below_next Tw hb5 rfl
  replace Ox0 := Ox0.next hb5
  replace Rx0 := Rx0.next (stab_RV stab_RB) hb5
  replace Og := Og.next hb5
  clear hb5
  go_wp2_with fail
  refine (toBoolSS_any _ _ _ _ _ (r0.next (stab_RV stab_RB) T0) hm0 HM0.out).mono ?_
  rintro e w6 ⟨g6, rfl, how6, hb6⟩
  have s6 : w5.heap.size ≤ w6.heap.size := hb6.size
  replace T0 := below_next T0 hb6 rfl
  replace Tw := below_next Tw hb6 rfl
  replace Ox0 := Ox0.next hb6
  replace Rx0 := Rx0.next (stab_RV stab_RB) hb6
  replace Og := Og.next hb6
  clear hb6
  have Rb0 := how6.rd (R := RB) HB0.out
  clear how6
  go_wp2_with fail
  refine (bl_of_quiet (eqBoolSS_any _ _ _ _ _ _ _ _ _ Rx0 Rb0)).mono ?_
  rintro e w7 ⟨rfl, hb7⟩
  rw [HE0.out]
  have s7 : w6.heap.size ≤ w7.heap.size := hb7.size
  replace T0 := below_next T0 hb7 rfl
  replace Tw := below_next Tw hb7 rfl
  replace Ox0 := Ox0.next hb7
  replace Rx0 := Rx0.next (stab_RV stab_RB) hb7
  replace Og := Og.next hb7
  replace Rb0 := Rb0.next (stab_RV stab_RB) hb7
  clear hb7
  clear Rb0
  clear Rx0
  go_wp2_with fail
  refine (markBoolSS_any _ _ _ _ _ (1) w2.heap.size w3.heap.size _ Ox0 Ix0 (by omega) (by omega)).mono ?_
  rintro e w8 ⟨rfl, -, hc8⟩
  have s8 : w7.heap.size ≤ w8.heap.size := hc8.size
  replace T0 := T0.trans (hc8.below (by omega) (by have := T0.size; omega))
  replace Tw := Tw.trans (hc8.below (by omega) (by have := Tw.size; omega))
  replace Og := Og.kept hc8 (by omega)
  clear hc8
  clear Ox0
  have hk0 : ¬ (1 + (totalB x0 : Int) < (0 : Int)) := by omega
  go_wp2_with fail
  refine (bl_of_quiet (eqIntSS_any _ _ _ _ _ _ _ _ _ (Og.own.rd (R := RI) HRB.out) (Rw.next stab_RVI Tw))).mono ?_
  rintro e w9 ⟨rfl, hb9⟩
  rw [HR.out]
  have s9 : w8.heap.size ≤ w9.heap.size := hb9.size
  replace T0 := below_next T0 hb9 rfl
  replace Tw := below_next Tw hb9 rfl
  replace Og := Og.next hb9
  clear hb9
  go_wp2_with fail
  refine (markIntSS_any _ _ _ _ _ 1 w3.heap.size w4.heap.size _ Og Ig (by omega) (by omega)).mono ?_
  rintro e w10 ⟨rfl, Om, hc10⟩
  have s10 : w9.heap.size ≤ w10.heap.size := hc10.size
  replace T0 := T0.trans (hc10.below (by omega) (by have := T0.size; omega))
  replace Tw := Tw.trans (hc10.below (by omega) (by have := Tw.size; omega))
  clear hc10
  have hq0 : ¬ (1 + (total mo : Int) < 0) := by omega
  have h1t : (0 : Int) ≤ 1 := by omega
  have h2t : (1 : Int) + total mo ≤ 4611686018427387904 := by omega
  clear Og
  go_wp2_with fail
  refine (bl_of_same (heldIntSS_any _ _ _ _ _ _ (Om.own.rd (R := RI) (numss_bounds h1t h2t)) (by omega) (by omega))).mono ?_
  rintro e w11 ⟨rfl, hb11⟩
  have s11 : w10.heap.size ≤ w11.heap.size := hb11.size
  replace T0 := below_next T0 hb11 rfl
  replace Tw := below_next Tw hb11 rfl
  replace Om := Om.next hb11
  clear hb11
  go_wp2_with fail
  refine (toBoolSS_any _ _ _ _ _ (r0.next (stab_RV stab_RB) T0) hm0 HM0.out).mono ?_
  rintro e w12 ⟨g12, rfl, how12, hb12⟩
  have s12 : w11.heap.size ≤ w12.heap.size := hb12.size
  replace T0 := below_next T0 hb12 rfl
  replace Tw := below_next Tw hb12 rfl
  replace Om := Om.next hb12
  clear hb12
  have Rh0 := how12.rd (R := RB) HB0.out
  clear how12
  go_wp2_with fail
  refine (implCR_any _ _ _ x0 w12 Rh0).mono ?_
  rintro e w13 ⟨Ah, nh, ch, rfl, Oh, hb13⟩
  rw [HOK.out]
  have s13 : w12.heap.size ≤ w13.heap.size := hb13.size
  replace T0 := below_next T0 hb13 rfl
  replace Tw := below_next Tw hb13 rfl
  replace Om := Om.next hb13
  replace Rh0 := Rh0.next (stab_RV stab_RB) hb13
  clear hb13
  rw [HMO.out] at Oh
  clear Rh0
  go_wp2_with fail
  refine (bl_of_quiet (eqIntSS_any _ _ _ _ _ _ _ _ _ (Oh.rd (R := RI) HRB.out) (Rw.next stab_RVI Tw))).mono ?_
  rintro e w14 ⟨rfl, hb14⟩
  rw [HR.out]
  have s14 : w13.heap.size ≤ w14.heap.size := hb14.size
  replace T0 := below_next T0 hb14 rfl
  replace Tw := below_next Tw hb14 rfl
  replace Om := Om.next hb14
  clear hb14
  go_wp2_with fail
  refine (bl_of_same (heldIntSS_any _ _ _ _ _ _ (Om.own.rd (R := RI) (numss_bounds h1t h2t)) (by omega) (by omega))).mono ?_
  rintro e w15 ⟨rfl, hb15⟩
  have s15 : w14.heap.size ≤ w15.heap.size := hb15.size
  replace T0 := below_next T0 hb15 rfl
  replace Tw := below_next Tw hb15 rfl
  replace Om := Om.next hb15
  clear hb15
  go_wp2_with fail
  go_ret
  exact ⟨rfl, T0⟩
end Go.Proofs.Ytbpdbimdefdefaa
