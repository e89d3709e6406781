
/- The walk of the law FnExactLeastFixedPoint. Printed by genlaw2.py. -/
import Derived.Test.YtfcjhmaggefhaaaLat9
import Derived.Test.YtfcjhmaggefhaaaSzPoset
namespace Go.Proofs.Ytfcjhmaggefhaaa
open Go.RowKit

set_option linter.unusedVariables false in
set_option maxRecDepth 100000 in
set_option maxHeartbeats 8000000 in
theorem lawLeastFixedPoint (A0 : Option Addr) (n0 c0 : Nat) (x0 : (List (List Int))) (A1 : Option Addr) (n1 c1 : Nat) (x1 : (List Int)) (w : World) (r0 : RdL (RV RI) w A0 n0 x0) (r1 : RdL RI w A1 n1 x1) :
    Calls Try.prog 7 #[.agg #[.slice A0 n0 c0], .slice A1 n1 c1] w (Bl w (.bool true)) := by
  have le0 := r0.le
  have le1 := r1.le
  by_cases hm1 : n1 ≤ 1048576
  rotate_left
  · go_enter Try.func7, Try.ntmps7
    go_wp2_with fail
    go_ret
    exact ⟨rfl, below_box _ _⟩
  have T0 : Below w.heap.size w w := Below.refl _ _
  obtain ⟨w1, HW1⟩ : ∃ wb, Hid (wb = (w.alloc (.cells #[.slice A0 n0 c0] 24))) := ⟨_, rfl⟩
  have hb1 : Below w.heap.size w w1 := by rw [HW1.out]; exact below_box _ _
  have P0 : Blk w1 w.heap.size 24 #[.slice A0 n0 c0] := by rw [HW1.out]; exact Blk.new w 24 #[.slice A0 n0 c0]
  have s1 : w.heap.size ≤ w1.heap.size := hb1.size
  replace T0 := below_next T0 hb1 rfl
  replace r0 := r0.next stab_RVI hb1
  replace r1 := r1.next stab_RI hb1
  clear hb1
  by_cases z0 : szIntss x0 1048576 < 0
  · go_enter Try.func7, Try.ntmps7
    have cP0 := P0.c0
    try rw [HW1.out] at cP0
    go_wp2_with fail
    rw [← HW1.out]
    refine (szPoset_any _ _ _ _ 1048576 _ r0 (by omega) (by omega)).mono ?_
    rintro e w2 ⟨rfl, hb2⟩
    have s2 : w1.heap.size ≤ w2.heap.size := hb2.size
    replace T0 := below_next T0 hb2 rfl
    replace r0 := r0.next stab_RVI hb2
    replace r1 := r1.next stab_RI hb2
    replace P0 := P0.next hb2
    clear cP0
    clear hb2
    go_wp2_with fail
    go_ret
    exact ⟨rfl, T0⟩
  have y0 : szIntss x0 1048576 ≤ 1048576 := szIntss_le (by omega)
  have hm0' := szIntss_ge' z0 (by omega)
  have tt0 := total_le hm0'.2 hm0'.1
  rw [r0.len] at hm0'
  have HM0 := Lib.hid hm0'.2
  have hm0 := hm0'.1
  clear hm0'
  have HB0 := Lib.hid (bounds2 r0)
  have HE0 := Lib.hid (eqLL_self x0)
  have HB1 := Lib.hid (r1.bounds)
  have HE1 := Lib.hid (eqL_self x1)
  obtain ⟨mo0, HMO0⟩ : ∃ b, Hid (lfV n0 n1 x0 x1 = b) := ⟨_, rfl⟩
  obtain ⟨mo1, HMO1⟩ : ∃ b, Hid (lfB n0 n1 x0 x1 = b) := ⟨_, rfl⟩
  have hbb1 := bne_same mo1
  go_enter Try.func7, Try.ntmps7
  have cP0 := P0.c0
  try rw [HW1.out] at cP0
  go_wp2_with fail
  rw [← HW1.out]
  refine (szPoset_any _ _ _ _ 1048576 _ r0 (by omega) (by omega)).mono ?_
  rintro e w2 ⟨rfl, hb2⟩
  have s2 : w1.heap.size ≤ w2.heap.size := hb2.size
  replace T0 := below_next T0 hb2 rfl
  replace r0 := r0.next stab_RVI hb2
  replace r1 := r1.next stab_RI hb2
  replace P0 := P0.next hb2
  clear cP0
  clear hb2
  have cP0 := P0.c0
  go_wp2_with fail
  refine (toPoset_any _ _ _ _ _ r0 hm0 HM0.out).mono ?_
  rintro e w3 ⟨gn0, rfl, how, hb3⟩
  have s3 : w2.heap.size ≤ w3.heap.size := hb3.size
  replace T0 := below_next T0 hb3 rfl
  replace r0 := r0.next stab_RVI hb3
  replace r1 := r1.next stab_RI hb3
  replace P0 := P0.next hb3
  clear cP0
  clear hb3
  have Rn0 := how.rd (R := RI) HB0.out
  clear how
  have cP0 := P0.c0
  go_wp2_with fail
  refine (toIntS_any _ _ _ _ _ r1 hm1).mono ?_
  rintro e w4 ⟨gn1, rfl, -, how, hb4⟩
  have s4 : w3.heap.size ≤ w4.heap.size := hb4.size
  replace T0 := below_next T0 hb4 rfl
  replace r0 := r0.next stab_RVI hb4
  replace r1 := r1.next stab_RI hb4
  replace Rn0 := Rn0.next stab_RVI hb4
  replace P0 := P0.next hb4
  clear cP0
  clear hb4
  have Rn1 := rd_of_own (R := RI) how (RI_ints HB1.out)
  clear how
  have cP0 := P0.c0
  go_wp2_with fail
  refine (specLf_any _ _ _ _ _ _ x0 x1 _ Rn0 Rn1).mono ?_
  rintro e w5 ⟨rfl, hb5⟩
  rw [HMO0.out, HMO1.out]
  have s5 : w4.heap.size ≤ w5.heap.size := hb5.size
  replace T0 := below_next T0 hb5 rfl
  replace r0 := r0.next stab_RVI hb5
  replace r1 := r1.next stab_RI hb5
  replace Rn0 := Rn0.next stab_RVI hb5
  replace Rn1 := Rn1.next stab_RI hb5
  replace P0 := P0.next hb5
  clear cP0
  clear hb5
  clear Rn0
  clear Rn1
  have cP0 := P0.c0
  go_wp2_with fail
  refine (toPoset_any _ _ _ _ _ r0 hm0 HM0.out).mono ?_
  rintro e w6 ⟨g6, rfl, how6, hb6⟩
  have s6 : w5.heap.size ≤ w6.heap.size := hb6.size
  replace T0 := below_next T0 hb6 rfl
  replace r0 := r0.next stab_RVI hb6
  replace r1 := r1.next stab_RI hb6
  replace P0 := P0.next hb6
  clear cP0
  clear hb6
  have Rx0 := how6.rd (R := RI) HB0.out
  obtain ⟨w7, HW7⟩ : ∃ wb, Hid (wb = w6.alloc (.cells #[.slice (some ⟨g6, 0, none⟩) n0 n0] 29)) := ⟨_, rfl⟩
  have hb7 : Below w6.heap.size w6 w7 := by rw [HW7.out]; exact below_box _ _
  have X0 : Blk w7 w6.heap.size 29 #[.slice (some ⟨g6, 0, none⟩) n0 n0] := by rw [HW7.out]; exact Blk.new _ _ _
  have s7 : w6.heap.size ≤ w7.heap.size := hb7.size
  replace T0 := below_next T0 hb7 rfl
  replace r0 := r0.next stab_RVI hb7
  replace r1 := r1.next stab_RI hb7
  replace Rx0 := Rx0.next stab_RVI hb7
  replace P0 := P0.next hb7
  have ltX0 := X0.lt
  clear hb7
  have cP0 := P0.c0
  try rw [HW7.out] at cP0
  have cX0 := X0.c0
  try rw [HW7.out] at cX0
  go_wp2_with fail
  rw [← HW7.out]
  refine (toIntS_any _ _ _ _ _ r1 hm1).mono ?_
  rintro e w8 ⟨g8, rfl, -, how8, hb8⟩
  have s8 : w7.heap.size ≤ w8.heap.size := hb8.size
  replace T0 := below_next T0 hb8 rfl
  replace r0 := r0.next stab_RVI hb8
  replace r1 := r1.next stab_RI hb8
  replace Rx0 := Rx0.next stab_RVI hb8
  replace P0 := P0.next hb8
  replace X0 := X0.next hb8
  clear cP0 cX0
  clear hb8
  have Rx1 := rd_of_own (R := RI) how8 (RI_ints HB1.out)
  clear how8
  have cP0 := P0.c0
  have cX0 := X0.c0
  go_wp2_with fail
  refine (implLf_any _ _ _ _ _ _ x0 x1 w8 Rx0 Rx1).mono ?_
  rintro e w9 ⟨rfl, hb9⟩
  rw [HMO0.out, HMO1.out]
  have s9 : w8.heap.size ≤ w9.heap.size := hb9.size
  replace T0 := below_next T0 hb9 rfl
  replace r0 := r0.next stab_RVI hb9
  replace r1 := r1.next stab_RI hb9
  replace Rx0 := Rx0.next stab_RVI hb9
  replace Rx1 := Rx1.next stab_RI hb9
  replace P0 := P0.next hb9
  replace X0 := X0.next hb9
  clear cP0 cX0
  clear hb9
  have cP0 := P0.c0
  have cX0 := X0.c0
  go_upto_region 13 with fail
  clear cP0 cX0
  have kP0 := P0.c0
  have kX0 := X0.c0
  have Tk : Below w9.heap.size w9 w9 := Below.refl _ _
  go_region_held3 (fun w' => w'.cell? ⟨w.heap.size, 0, none⟩ = some (.slice A0 n0 c0) ∧ w'.cell? ⟨w6.heap.size, 0, none⟩ = some (.slice (some ⟨g6, 0, none⟩) n0 n0)) (first | go_keep | exact ⟨keepc Tk kP0, keepc Tk kX0⟩) (first | (go_at_call 17; refine (toPoset_any A0 n0 c0 x0 _ (r0.next stab_RVI (by first | exact Tk | exact Below.drew Tk)) hm0 HM0.out).mono ?_; rintro e wn ⟨gn, rfl, how, hbn⟩; have Ry := how.rd (R := RI) HB0.out; clear how; replace Tk := below_next (by first | exact Tk | exact Below.drew Tk) hbn rfl) | (go_at_call 20; refine (eqPoset_any _ _ _ _ _ _ _ _ _ (Rx0.next stab_RVI Tk) Ry).mono ?_; rintro e w11 ⟨rfl, hbn⟩; replace Tk := below_next Tk hbn rfl; rw [HE0.out]))
  have hb11 := Tk
  have s11 : w9.heap.size ≤ w11.heap.size := hb11.size
  replace T0 := below_next T0 hb11 rfl
  replace r0 := r0.next stab_RVI hb11
  replace r1 := r1.next stab_RI hb11
  replace Rx0 := Rx0.next stab_RVI hb11
  replace Rx1 := Rx1.next stab_RI hb11
  replace P0 := P0.next hb11
  replace X0 := X0.next hb11
  clear hb11 Tk Ry hbn
  clear kP0 kX0
  have cP0 := P0.c0
  have cX0 := X0.c0
  go_wp2_with fail
  refine (toIntS_any _ _ _ _ _ r1 hm1).mono ?_
  rintro e w12 ⟨g12, rfl, -, how12, hb12⟩
  have s12 : w11.heap.size ≤ w12.heap.size := hb12.size
  replace T0 := below_next T0 hb12 rfl
  replace r0 := r0.next stab_RVI hb12
  replace r1 := r1.next stab_RI hb12
  replace Rx0 := Rx0.next stab_RVI hb12
  replace Rx1 := Rx1.next stab_RI hb12
  replace P0 := P0.next hb12
  replace X0 := X0.next hb12
  clear cP0 cX0
  clear hb12
  have Ry := rd_of_own (R := RI) how12 (RI_ints HB1.out)
  clear how12
  have cP0 := P0.c0
  have cX0 := X0.c0
  go_wp2_with fail
  refine (bl_of_quiet (eqIntS_any _ _ _ _ _ _ _ _ _ Rx1 Ry)).mono ?_
  rintro e w13 ⟨rfl, hb13⟩
  rw [HE1.out]
  have s13 : w12.heap.size ≤ w13.heap.size := hb13.size
  replace T0 := below_next T0 hb13 rfl
  replace r0 := r0.next stab_RVI hb13
  replace r1 := r1.next stab_RI hb13
  replace Rx0 := Rx0.next stab_RVI hb13
  replace Rx1 := Rx1.next stab_RI hb13
  replace P0 := P0.next hb13
  replace X0 := X0.next hb13
  clear cP0 cX0
  clear hb13
  clear Ry
  go_wp2_with fail
  go_ret
  exact ⟨rfl, T0⟩
end Go.Proofs.Ytfcjhmaggefhaaa
