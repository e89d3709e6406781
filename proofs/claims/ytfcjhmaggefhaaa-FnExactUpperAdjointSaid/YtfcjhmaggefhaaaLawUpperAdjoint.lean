
/- The walk of the law FnExactUpperAdjoint. Printed by genlaw2.py. -/
import Derived.Test.YtfcjhmaggefhaaaAdj5
import Derived.Test.YtfcjhmaggefhaaaSzPoset
import Derived.Test.YtfcjhmaggefhaaaKit
namespace Go.Proofs.Ytfcjhmaggefhaaa
open Go.RowKit

set_option linter.unusedVariables false in
set_option maxRecDepth 100000 in
set_option maxHeartbeats 8000000 in
theorem lawUpperAdjoint (A0 : Option Addr) (n0 c0 : Nat) (x0 : (List (List Int))) (A1 : Option Addr) (n1 c1 : Nat) (x1 : (List (List Int))) (A2 : Option Addr) (n2 c2 : Nat) (x2 : (List Int)) (w : World) (r0 : RdL (RV RI) w A0 n0 x0) (r1 : RdL (RV RI) w A1 n1 x1) (r2 : RdL RI w A2 n2 x2) :
    Calls Try.prog 5 #[.agg #[.slice A0 n0 c0], .agg #[.slice A1 n1 c1], .slice A2 n2 c2] w (Bl w (.bool true)) := by
  have le0 := r0.le
  have le1 := r1.le
  have le2 := r2.le
  by_cases hm2 : n2 ≤ 1048576
  rotate_left
  · go_enter Try.func5, Try.ntmps5
    go_wp2_with fail
    go_ret
    exact ⟨rfl, below_box2 _ _ _⟩
  have T0 : Below w.heap.size w w := Below.refl _ _
  obtain ⟨w1, HW1⟩ : ∃ wb, Hid (wb = ((w.alloc (.cells #[.slice A0 n0 c0] 24)).alloc (.cells #[.slice A1 n1 c1] 24))) := ⟨_, rfl⟩
  have hb1 : Below w.heap.size w w1 := by rw [HW1.out]; exact below_box2 _ _ _
  have P0 : Blk w1 w.heap.size 24 #[.slice A0 n0 c0] := by rw [HW1.out]; exact (Blk.new w 24 #[.slice A0 n0 c0]).alloc _
  have P1 : Blk w1 (w.heap.size + 1) 24 #[.slice A1 n1 c1] := by rw [HW1.out]; simpa using Blk.new (w.alloc (.cells #[.slice A0 n0 c0] 24)) 24 #[.slice A1 n1 c1]
  have s1 : w.heap.size ≤ w1.heap.size := hb1.size
  replace T0 := below_next T0 hb1 rfl
  replace r0 := r0.next stab_RVI hb1
  replace r1 := r1.next stab_RVI hb1
  replace r2 := r2.next stab_RI hb1
  clear hb1
  have ltP0 := P0.lt
  have ltP1 := P1.lt
  have q0 := r0
  have Tq := Below.refl w1.heap.size w1
  have q1 := r1
  have Tq := Below.refl w1.heap.size w1
  have q2 := r2
  have Tq := Below.refl w1.heap.size w1
  by_cases z0 : szIntss x0 1048576 < 0
  · go_enter Try.func5, Try.ntmps5
    have cP0 := P0.c0
    try rw [HW1.out] at cP0
    have cP1 := P1.c0
    try rw [HW1.out] at cP1
    go_wp2_with fail
    rw [← HW1.out]
    refine (szPoset_any _ _ _ _ 1048576 _ r0 (by omega) (by omega)).mono ?_
    rintro e w2 ⟨rfl, hb2⟩
    have s2 : w1.heap.size ≤ w2.heap.size := hb2.size
    replace T0 := below_next T0 hb2 rfl
    replace Tq := below_next Tq hb2 rfl
    replace r0 := r0.next stab_RVI hb2
    replace r1 := r1.next stab_RVI hb2
    replace r2 := r2.next stab_RI hb2
    replace P0 := P0.next hb2
    replace P1 := P1.next hb2
    clear cP0 cP1
    clear hb2
    go_wp2_with fail
    go_ret
    exact ⟨rfl, T0⟩
  have y0 : szIntss x0 1048576 ≤ 1048576 := szIntss_le (by omega)
  by_cases z1 : szIntss x1 (szIntss x0 1048576) < 0
  · go_enter Try.func5, Try.ntmps5
    have cP0 := P0.c0
    try rw [HW1.out] at cP0
    have cP1 := P1.c0
    try rw [HW1.out] at cP1
    go_wp2_with fail
    rw [← HW1.out]
    refine (szPoset_any _ _ _ _ 1048576 _ r0 (by omega) (by omega)).mono ?_
    rintro e w2 ⟨rfl, hb2⟩
    have s2 : w1.heap.size ≤ w2.heap.size := hb2.size
    replace T0 := below_next T0 hb2 rfl
    replace Tq := below_next Tq hb2 rfl
    replace r0 := r0.next stab_RVI hb2
    replace r1 := r1.next stab_RVI hb2
    replace r2 := r2.next stab_RI hb2
    replace P0 := P0.next hb2
    replace P1 := P1.next hb2
    clear cP0 cP1
    clear hb2
    have cP0 := P0.c0
    have cP1 := P1.c0
    go_wp2_with fail
    refine (szPoset_any _ _ _ _ (szIntss x0 1048576) _ r1 (by omega) (by omega)).mono ?_
    rintro e w3 ⟨rfl, hb3⟩
    have s3 : w2.heap.size ≤ w3.heap.size := hb3.size
    replace T0 := below_next T0 hb3 rfl
    replace Tq := below_next Tq hb3 rfl
    replace r0 := r0.next stab_RVI hb3
    replace r1 := r1.next stab_RVI hb3
    replace r2 := r2.next stab_RI hb3
    replace P0 := P0.next hb3
    replace P1 := P1.next hb3
    clear cP0 cP1
    clear hb3
    go_wp2_with fail
    go_ret
    exact ⟨rfl, T0⟩
  have y1 : szIntss x1 (szIntss x0 1048576) ≤ (szIntss x0 1048576) := szIntss_le (by omega)
  have hm0' := szIntss_ge' z0 (by omega)
  have tt0 := total_le hm0'.2 hm0'.1
  rw [r0.len] at hm0'
  have HM0 := Lib.hid hm0'.2
  have hm0 := hm0'.1
  clear hm0'
  have hm1' := szIntss_ge' z1 (by omega)
  have tt1 := total_le hm1'.2 hm1'.1
  rw [r1.len] at hm1'
  have HM1 := Lib.hid hm1'.2
  have hm1 := hm1'.1
  clear hm1'
  have HB0 := Lib.hid (bounds2 r0)
  have HE0 := Lib.hid (eqLL_self x0)
  have HB1 := Lib.hid (bounds2 r1)
  have HE1 := Lib.hid (eqLL_self x1)
  have HB2 := Lib.hid (r2.bounds)
  have HE2 := Lib.hid (eqL_self x2)
  obtain ⟨mo0, HMO0⟩ : ∃ b, Hid (upL n0 n1 n2 x0 x1 x2 = b) := ⟨_, rfl⟩
  have HR := Lib.hid (eqL_self mo0)
  have HRB := Lib.hid (upL_bounds (m := n1) (l := n2) (yss := x1) (fs := x2) r0)
  have HRL := Lib.hid (upL_len (n := n0) (l := n2) (xss := x0) (fs := x2) r1)
  rw [HMO0.out] at HRB HRL
  obtain ⟨mo1, HMO1⟩ : ∃ b, Hid (upB n0 n1 n2 x0 x1 x2 = b) := ⟨_, rfl⟩
  have hbb1 := bne_same mo1
  go_enter Try.func5, Try.ntmps5
  have cP0 := P0.c0
  try rw [HW1.out] at cP0
  have cP1 := P1.c0
  try rw [HW1.out] at cP1
  go_wp2_with fail
  rw [← HW1.out]
  refine (szPoset_any _ _ _ _ 1048576 _ r0 (by omega) (by omega)).mono ?_
  rintro e w2 ⟨rfl, hb2⟩
  have s2 : w1.heap.size ≤ w2.heap.size := hb2.size
  replace T0 := below_next T0 hb2 rfl
  replace Tq := below_next Tq hb2 rfl
  replace r0 := r0.next stab_RVI hb2
  replace r1 := r1.next stab_RVI hb2
  replace r2 := r2.next stab_RI hb2
  replace P0 := P0.next hb2
  replace P1 := P1.next hb2
  clear cP0 cP1
  clear hb2
  have cP0 := P0.c0
  have cP1 := P1.c0
  go_wp2_with fail
  refine (szPoset_any _ _ _ _ (szIntss x0 1048576) _ r1 (by omega) (by omega)).mono ?_
  rintro e w3 ⟨rfl, hb3⟩
  have s3 : w2.heap.size ≤ w3.heap.size := hb3.size
  replace T0 := below_next T0 hb3 rfl
  replace Tq := below_next Tq hb3 rfl
  replace r0 := r0.next stab_RVI hb3
  replace r1 := r1.next stab_RVI hb3
  replace r2 := r2.next stab_RI hb3
  replace P0 := P0.next hb3
  replace P1 := P1.next hb3
  clear cP0 cP1
  clear hb3
  have cP0 := P0.c0
  have cP1 := P1.c0
  go_upto_region 10 with fail
  clear cP0 cP1
  have kP0 := P0.c0
  have kP1 := P1.c0
  have Tk : Below w3.heap.size w3 w3 := Below.refl _ _
  go_cut [8, 9] (fun v8 v9 wx => ∃ (Aw : Option Addr) (nw cw : Nat), v8 = .slice Aw nw cw ∧ v9 = .bool mo1 ∧ RdL RI wx Aw nw mo0 ∧ Below w3.heap.size w3 wx)
  case first =>
    go_region_held3 (fun w' => w'.cell? ⟨w.heap.size, 0, none⟩ = some (.slice A0 n0 c0) ∧ w'.cell? ⟨w.heap.size + 1, 0, none⟩ = some (.slice A1 n1 c1)) (first | go_keep | exact ⟨keepc Tk kP0, keepc Tk kP1⟩) (first | (go_at_call 17; refine (toPoset_any A0 n0 c0 x0 _ (r0.next stab_RVI (by first | exact Tk | exact Below.drew Tk)) hm0 HM0.out).mono ?_; rintro e wn ⟨gn, rfl, how, hbn⟩; have Rn0 := how.rd (R := RI) HB0.out; clear how; replace Tk := below_next (by first | exact Tk | exact Below.drew Tk) hbn rfl; (try replace Rn1 := Rn1.next stab_RVI hbn); (try replace Rn2 := Rn2.next stab_RI hbn)) | (go_at_call 17; refine (toPoset_any A1 n1 c1 x1 _ (r1.next stab_RVI (by first | exact Tk | exact Below.drew Tk)) hm1 HM1.out).mono ?_; rintro e wn ⟨gn, rfl, how, hbn⟩; have Rn1 := how.rd (R := RI) HB1.out; clear how; replace Tk := below_next (by first | exact Tk | exact Below.drew Tk) hbn rfl; (try replace Rn0 := Rn0.next stab_RVI hbn); (try replace Rn2 := Rn2.next stab_RI hbn)) | (go_at_call 18; refine (toIntS_any A2 n2 c2 x2 _ (r2.next stab_RI (by first | exact Tk | exact Below.drew Tk)) hm2).mono ?_; rintro e wn ⟨gn, rfl, -, how, hbn⟩; have Rn2 := rd_of_own (R := RI) how (RI_ints HB2.out); clear how; replace Tk := below_next (by first | exact Tk | exact Below.drew Tk) hbn rfl; (try replace Rn0 := Rn0.next stab_RVI hbn); (try replace Rn1 := Rn1.next stab_RVI hbn)) | (go_at_call 27; refine (specUp_any _ _ _ _ _ _ _ _ _ x0 x1 x2 _ Rn0 Rn1 Rn2).mono ?_; rintro e wn ⟨Az, nz, cz, rfl, Oz, hbn⟩; replace Tk := below_next (by first | exact Tk | exact Below.drew Tk) hbn rfl; rw [HMO1.out]; rw [HMO0.out] at Oz; have Rz := rd_of_own (R := RI) Oz (RI_ints HRB.out); clear Oz))
    all_goals (go_wp2_with fail; go_meet; exact ⟨_, _, _, rfl, rfl, by first | exact Rz | exact Rz.drew stab_RI, by first | exact Tk | exact Below.drew Tk⟩)
  case rest =>
    obtain ⟨Aw, nw, cw, rfl, rfl, Rw, hb4⟩ := hcut
    obtain ⟨w4, HWC⟩ : ∃ wq : World, wq = wc := ⟨_, rfl⟩
    subst HWC
    have s4 : w3.heap.size ≤ w4.heap.size := hb4.size
    replace T0 := below_next T0 hb4 rfl
    replace Tq := below_next Tq hb4 rfl
    replace r0 := r0.next stab_RVI hb4
    replace r1 := r1.next stab_RVI hb4
    replace r2 := r2.next stab_RI hb4
    replace P0 := P0.next hb4
    replace P1 := P1.next hb4
    clear hb4 Tk
    clear kP0 kP1
    have Tw := Below.refl w4.heap.size w4
    have cP0 := P0.c0
    have cP1 := P1.c0
    go_wp2_with fail
    refine (toPoset_any _ _ _ _ _ r0 hm0 HM0.out).mono ?_
    rintro e w5 ⟨g5, rfl, how5, hb5⟩
    have s5 : w4.heap.size ≤ w5.heap.size := hb5.size
    replace T0 := below_next T0 hb5 rfl
    replace Tq := below_next Tq hb5 rfl
    replace Tw := below_next Tw hb5 rfl
    replace r0 := r0.next stab_RVI hb5
    replace r1 := r1.next stab_RVI hb5
    replace r2 := r2.next stab_RI hb5
    replace P0 := P0.next hb5
    replace P1 := P1.next hb5
    clear cP0 cP1
    clear hb5
    have Rx0 := how5.rd (R := RI) HB0.out
    obtain ⟨vsx0, Ox0, Ix0⟩ := how5.names
    obtain ⟨w6, HW6⟩ : ∃ wb, Hid (wb = w5.alloc (.cells #[.slice (some ⟨g5, 0, none⟩) n0 n0] 29)) := ⟨_, rfl⟩
    have hb6 : Below w5.heap.size w5 w6 := by rw [HW6.out]; exact below_box _ _
    have X0 : Blk w6 w5.heap.size 29 #[.slice (some ⟨g5, 0, none⟩) n0 n0] := by rw [HW6.out]; exact Blk.new _ _ _
    have s6 : w5.heap.size ≤ w6.heap.size := hb6.size
    replace T0 := below_next T0 hb6 rfl
    replace Tq := below_next Tq hb6 rfl
    replace Tw := below_next Tw hb6 rfl
    replace r0 := r0.next stab_RVI hb6
    replace r1 := r1.next stab_RVI hb6
    replace r2 := r2.next stab_RI hb6
    replace Ox0 := Ox0.next hb6
    replace Rx0 := Rx0.next stab_RVI hb6
    replace P0 := P0.next hb6
    replace P1 := P1.next hb6
    have ltX0 := X0.lt
    clear hb6
    have cP0 := P0.c0
    try rw [HW6.out] at cP0
    have cP1 := P1.c0
    try rw [HW6.out] at cP1
    have cX0 := X0.c0
    try rw [HW6.out] at cX0
    go_wp2_with fail
    rw [← HW6.out]
    refine (toPoset_any _ _ _ _ _ r1 hm1 HM1.out).mono ?_
    rintro e w7 ⟨g7, rfl, how7, hb7⟩
    have s7 : w6.heap.size ≤ w7.heap.size := hb7.size
    replace T0 := below_next T0 hb7 rfl
    replace Tq := below_next Tq hb7 rfl
    replace Tw := below_next Tw hb7 rfl
    replace r0 := r0.next stab_RVI hb7
    replace r1 := r1.next stab_RVI hb7
    replace r2 := r2.next stab_RI hb7
    replace Ox0 := Ox0.next hb7
    replace Rx0 := Rx0.next stab_RVI hb7
    replace P0 := P0.next hb7
    replace P1 := P1.next hb7
    replace X0 := X0.next hb7
    clear cP0 cP1 cX0
    clear hb7
    have Rx1 := how7.rd (R := RI) HB1.out
    obtain ⟨vsx1, Ox1, Ix1⟩ := how7.names
    obtain ⟨w8, HW8⟩ : ∃ wb, Hid (wb = w7.alloc (.cells #[.slice (some ⟨g7, 0, none⟩) n1 n1] 29)) := ⟨_, rfl⟩
    have hb8 : Below w7.heap.size w7 w8 := by rw [HW8.out]; exact below_box _ _
    have X1 : Blk w8 w7.heap.size 29 #[.slice (some ⟨g7, 0, none⟩) n1 n1] := by rw [HW8.out]; exact Blk.new _ _ _
    have s8 : w7.heap.size ≤ w8.heap.size := hb8.size
    replace T0 := below_next T0 hb8 rfl
    replace Tq := below_next Tq hb8 rfl
    replace Tw := below_next Tw hb8 rfl
    replace r0 := r0.next stab_RVI hb8
    replace r1 := r1.next stab_RVI hb8
    replace r2 := r2.next stab_RI hb8
    replace Ox0 := Ox0.next hb8
    replace Rx0 := Rx0.next stab_RVI hb8
    replace Ox1 := Ox1.next hb8
    replace Rx1 := Rx1.next stab_RVI hb8
    replace P0 := P0.next hb8
    replace P1 := P1.next hb8
    replace X0 := X0.next hb8
    have ltX1 := X1.lt
    clear hb8
    have cP0 := P0.c0
    try rw [HW8.out] at cP0
    have cP1 := P1.c0
    try rw [HW8.out] at cP1
    have cX0 := X0.c0
    try rw [HW8.out] at cX0
    have cX1 := X1.c0
    try rw [HW8.out] at cX1
    go_wp2_with fail
    rw [← HW8.out]
    refine (toIntS_any _ _ _ _ _ r2 hm2).mono ?_
    rintro e w9 ⟨g9, rfl, -, how9, hb9⟩
    have s9 : w8.heap.size ≤ w9.heap.size := hb9.size
    replace T0 := below_next T0 hb9 rfl
    replace Tq := below_next Tq hb9 rfl
    replace Tw := below_next Tw hb9 rfl
    replace r0 := r0.next stab_RVI hb9
    replace r1 := r1.next stab_RVI hb9
    replace r2 := r2.next stab_RI hb9
    replace Ox0 := Ox0.next hb9
    replace Rx0 := Rx0.next stab_RVI hb9
    replace Ox1 := Ox1.next hb9
    replace Rx1 := Rx1.next stab_RVI hb9
    replace P0 := P0.next hb9
    replace P1 := P1.next hb9
    replace X0 := X0.next hb9
    replace X1 := X1.next hb9
    clear cP0 cP1 cX0 cX1
    clear hb9
    have Rx2 := rd_of_own (R := RI) how9 (RI_ints HB2.out)
    have Ox2 := how9
    have Ix2 := own_hi how9
    clear how9
    have cP0 := P0.c0
    have cP1 := P1.c0
    have cX0 := X0.c0
    have cX1 := X1.c0
    go_wp2_with fail
    refine (implUp_any _ _ _ _ _ _ _ _ _ x0 x1 x2 w9 Rx0 Rx1 Rx2).mono ?_
    rintro e w10 ⟨Ag, ng, cg, rfl, Og, hb10⟩
    rw [HMO1.out]
    have s10 : w9.heap.size ≤ w10.heap.size := hb10.size
    replace T0 := below_next T0 hb10 rfl
    replace Tq := below_next Tq hb10 rfl
    replace Tw := below_next Tw hb10 rfl
    replace r0 := r0.next stab_RVI hb10
    replace r1 := r1.next stab_RVI hb10
    replace r2 := r2.next stab_RI hb10
    replace Ox0 := Ox0.next hb10
    replace Rx0 := Rx0.next stab_RVI hb10
    replace Ox1 := Ox1.next hb10
    replace Rx1 := Rx1.next stab_RVI hb10
    replace Ox2 := own_next Ox2 hb10
    replace Rx2 := Rx2.next stab_RI hb10
    replace P0 := P0.next hb10
    replace P1 := P1.next hb10
    replace X0 := X0.next hb10
    replace X1 := X1.next hb10
    clear cP0 cP1 cX0 cX1
    clear hb10
    rw [HMO0.out] at Og
    have hng : ng ≤ 1048576 := by have h1 := Og.1; have h2 := HRL.out; simp [ints] at h1; omega
    have Ig := own_hi Og
    have cP0 := P0.c0
    have cP1 := P1.c0
    have cX0 := X0.c0
    have cX1 := X1.c0
    go_wp2_with fail
    refine (bl_of_quiet (eqIntS_any _ _ _ _ _ _ _ _ _ (rd_of_own (R := RI) Og (RI_ints HRB.out)) (Rw.next stab_RI Tw))).mono ?_
    rintro e w11 ⟨rfl, hb11⟩
    rw [HR.out]
    have s11 : w10.heap.size ≤ w11.heap.size := hb11.size
    replace T0 := below_next T0 hb11 rfl
    replace Tq := below_next Tq hb11 rfl
    replace Tw := below_next Tw hb11 rfl
    replace r0 := r0.next stab_RVI hb11
    replace r1 := r1.next stab_RVI hb11
    replace r2 := r2.next stab_RI hb11
    replace Ox0 := Ox0.next hb11
    replace Rx0 := Rx0.next stab_RVI hb11
    replace Ox1 := Ox1.next hb11
    replace Rx1 := Rx1.next stab_RVI hb11
    replace Ox2 := own_next Ox2 hb11
    replace Rx2 := Rx2.next stab_RI hb11
    replace Og := own_next Og hb11
    replace P0 := P0.next hb11
    replace P1 := P1.next hb11
    replace X0 := X0.next hb11
    replace X1 := X1.next hb11
    clear cP0 cP1 cX0 cX1
    clear hb11
    have cP0 := P0.c0
    have cP1 := P1.c0
    have cX0 := X0.c0
    have cX1 := X1.c0
    go_upto_region 17 with fail
    clear cP0 cP1 cX0 cX1
    have kP0 := P0.c0
    have kP1 := P1.c0
    have kX0 := X0.c0
    have kX1 := X1.c0
    have Tk : Below w11.heap.size w11 w11 := Below.refl _ _
    go_region_held3 (fun w' => w'.cell? ⟨w.heap.size, 0, none⟩ = some (.slice A0 n0 c0) ∧ w'.cell? ⟨w.heap.size + 1, 0, none⟩ = some (.slice A1 n1 c1) ∧ w'.cell? ⟨w5.heap.size, 0, none⟩ = some (.slice (some ⟨g5, 0, none⟩) n0 n0) ∧ w'.cell? ⟨w7.heap.size, 0, none⟩ = some (.slice (some ⟨g7, 0, none⟩) n1 n1)) (first | go_keep | exact ⟨keepc Tk kP0, keepc Tk kP1, keepc Tk kX0, keepc Tk kX1⟩) (first | (go_at_call 17; refine (toPoset_any A0 n0 c0 x0 _ (r0.next stab_RVI (by first | exact Tk | exact Below.drew Tk)) hm0 HM0.out).mono ?_; rintro e wn ⟨gn, rfl, how, hbn⟩; have Ry := how.rd (R := RI) HB0.out; clear how; replace Tk := below_next (by first | exact Tk | exact Below.drew Tk) hbn rfl) | (go_at_call 20; refine (eqPoset_any _ _ _ _ _ _ _ _ _ (Rx0.next stab_RVI Tk) Ry).mono ?_; rintro e w13 ⟨rfl, hbn⟩; replace Tk := below_next Tk hbn rfl; rw [HE0.out]))
    have hb13 := Tk
    have s13 : w11.heap.size ≤ w13.heap.size := hb13.size
    replace T0 := below_next T0 hb13 rfl
    replace Tq := below_next Tq hb13 rfl
    replace Tw := below_next Tw hb13 rfl
    replace r0 := r0.next stab_RVI hb13
    replace r1 := r1.next stab_RVI hb13
    replace r2 := r2.next stab_RI hb13
    replace Ox0 := Ox0.next hb13
    replace Rx0 := Rx0.next stab_RVI hb13
    replace Ox1 := Ox1.next hb13
    replace Rx1 := Rx1.next stab_RVI hb13
    replace Ox2 := own_next Ox2 hb13
    replace Rx2 := Rx2.next stab_RI hb13
    replace Og := own_next Og hb13
    replace P0 := P0.next hb13
    replace P1 := P1.next hb13
    replace X0 := X0.next hb13
    replace X1 := X1.next hb13
    clear hb13 Tk Ry hbn
    clear kP0 kP1 kX0 kX1
    have cP0 := P0.c0
    have cP1 := P1.c0
    have cX0 := X0.c0
    have cX1 := X1.c0
    go_upto_region 19 with fail
    clear cP0 cP1 cX0 cX1
    have kP0 := P0.c0
    have kP1 := P1.c0
    have kX0 := X0.c0
    have kX1 := X1.c0
    have Tk : Below w13.heap.size w13 w13 := Below.refl _ _
    go_region_held3 (fun w' => w'.cell? ⟨w.heap.size, 0, none⟩ = some (.slice A0 n0 c0) ∧ w'.cell? ⟨w.heap.size + 1, 0, none⟩ = some (.slice A1 n1 c1) ∧ w'.cell? ⟨w5.heap.size, 0, none⟩ = some (.slice (some ⟨g5, 0, none⟩) n0 n0) ∧ w'.cell? ⟨w7.heap.size, 0, none⟩ = some (.slice (some ⟨g7, 0, none⟩) n1 n1)) (first | go_keep | exact ⟨keepc Tk kP0, keepc Tk kP1, keepc Tk kX0, keepc Tk kX1⟩) (first | (go_at_call 17; refine (toPoset_any A1 n1 c1 x1 _ (r1.next stab_RVI (by first | exact Tk | exact Below.drew Tk)) hm1 HM1.out).mono ?_; rintro e wn ⟨gn, rfl, how, hbn⟩; have Ry := how.rd (R := RI) HB1.out; clear how; replace Tk := below_next (by first | exact Tk | exact Below.drew Tk) hbn rfl) | (go_at_call 20; refine (eqPoset_any _ _ _ _ _ _ _ _ _ (Rx1.next stab_RVI Tk) Ry).mono ?_; rintro e w15 ⟨rfl, hbn⟩; replace Tk := below_next Tk hbn rfl; rw [HE1.out]))
    have hb15 := Tk
    have s15 : w13.heap.size ≤ w15.heap.size := hb15.size
    replace T0 := below_next T0 hb15 rfl
    replace Tq := below_next Tq hb15 rfl
    replace Tw := below_next Tw hb15 rfl
    replace r0 := r0.next stab_RVI hb15
    replace r1 := r1.next stab_RVI hb15
    replace r2 := r2.next stab_RI hb15
    replace Ox0 := Ox0.next hb15
    replace Rx0 := Rx0.next stab_RVI hb15
    replace Ox1 := Ox1.next hb15
    replace Rx1 := Rx1.next stab_RVI hb15
    replace Ox2 := own_next Ox2 hb15
    replace Rx2 := Rx2.next stab_RI hb15
    replace Og := own_next Og hb15
    replace P0 := P0.next hb15
    replace P1 := P1.next hb15
    replace X0 := X0.next hb15
    replace X1 := X1.next hb15
    clear hb15 Tk Ry hbn
    clear kP0 kP1 kX0 kX1
    have cP0 := P0.c0
    have cP1 := P1.c0
    have cX0 := X0.c0
    have cX1 := X1.c0
    go_wp2_with fail
    refine (toIntS_any _ _ _ _ _ r2 hm2).mono ?_
    rintro e w16 ⟨g16, rfl, -, how16, hb16⟩
    have s16 : w15.heap.size ≤ w16.heap.size := hb16.size
    replace T0 := below_next T0 hb16 rfl
    replace Tq := below_next Tq hb16 rfl
    replace Tw := below_next Tw hb16 rfl
    replace r0 := r0.next stab_RVI hb16
    replace r1 := r1.next stab_RVI hb16
    replace r2 := r2.next stab_RI hb16
    replace Ox0 := Ox0.next hb16
    replace Rx0 := Rx0.next stab_RVI hb16
    replace Ox1 := Ox1.next hb16
    replace Rx1 := Rx1.next stab_RVI hb16
    replace Ox2 := own_next Ox2 hb16
    replace Rx2 := Rx2.next stab_RI hb16
    replace Og := own_next Og hb16
    replace P0 := P0.next hb16
    replace P1 := P1.next hb16
    replace X0 := X0.next hb16
    replace X1 := X1.next hb16
    clear cP0 cP1 cX0 cX1
    clear hb16
    have Ry := rd_of_own (R := RI) how16 (RI_ints HB2.out)
    clear how16
    have cP0 := P0.c0
    have cP1 := P1.c0
    have cX0 := X0.c0
    have cX1 := X1.c0
    go_wp2_with fail
    refine (bl_of_quiet (eqIntS_any _ _ _ _ _ _ _ _ _ Rx2 Ry)).mono ?_
    rintro e w17 ⟨rfl, hb17⟩
    rw [HE2.out]
    have s17 : w16.heap.size ≤ w17.heap.size := hb17.size
    replace T0 := below_next T0 hb17 rfl
    replace Tq := below_next Tq hb17 rfl
    replace Tw := below_next Tw hb17 rfl
    replace r0 := r0.next stab_RVI hb17
    replace r1 := r1.next stab_RVI hb17
    replace r2 := r2.next stab_RI hb17
    replace Ox0 := Ox0.next hb17
    replace Rx0 := Rx0.next stab_RVI hb17
    replace Ox1 := Ox1.next hb17
    replace Rx1 := Rx1.next stab_RVI hb17
    replace Ox2 := own_next Ox2 hb17
    replace Rx2 := Rx2.next stab_RI hb17
    replace Og := own_next Og hb17
    replace P0 := P0.next hb17
    replace P1 := P1.next hb17
    replace X0 := X0.next hb17
    replace X1 := X1.next hb17
    clear cP0 cP1 cX0 cX1
    clear hb17
    clear Ry
    clear Rx0
    clear Rx1
    clear Rx2
    have cP0 := P0.c0
    have cP1 := P1.c0
    have cX0 := X0.c0
    have cX1 := X1.c0
    go_wp2_with fail
    refine (markPoset_any _ _ _ _ _ (1) w4.heap.size w5.heap.size _ Ox0 Ix0 (by omega) (by omega)).mono ?_
    rintro e w18 ⟨rfl, -, hb18⟩
    have s18 : w17.heap.size ≤ w18.heap.size := hb18.size
    replace T0 := T0.trans (hb18.below (by omega) (by have := T0.size; omega))
    replace Tq := Tq.trans (hb18.below (by omega) (by have := Tq.size; omega))
    replace Tw := Tw.trans (hb18.below (by omega) (by have := Tw.size; omega))
    replace Ox1 := Ox1.kept hb18 (by omega)
    replace Ox2 := own_kept Ox2 hb18 (by omega)
    replace Og := own_kept Og hb18 (by omega)
    replace P0 := P0.chg hb18 (by omega)
    replace P1 := P1.chg hb18 (by omega)
    replace X0 := X0.chg hb18 (by omega)
    replace X1 := X1.chg hb18 (by omega)
    clear cP0 cP1 cX0 cX1
    clear hb18
    clear Ox0
    have cP0 := P0.c0
    have cP1 := P1.c0
    have cX0 := X0.c0
    have cX1 := X1.c0
    go_wp2_with fail
    refine (markPoset_any _ _ _ _ _ (1 + (total x0 : Int)) w6.heap.size w7.heap.size _ Ox1 Ix1 (by omega) (by omega)).mono ?_
    rintro e w19 ⟨rfl, -, hb19⟩
    have s19 : w18.heap.size ≤ w19.heap.size := hb19.size
    replace T0 := T0.trans (hb19.below (by omega) (by have := T0.size; omega))
    replace Tq := Tq.trans (hb19.below (by omega) (by have := Tq.size; omega))
    replace Tw := Tw.trans (hb19.below (by omega) (by have := Tw.size; omega))
    replace Ox2 := own_kept Ox2 hb19 (by omega)
    replace Og := own_kept Og hb19 (by omega)
    replace P0 := P0.chg hb19 (by omega)
    replace P1 := P1.chg hb19 (by omega)
    replace X0 := X0.chg hb19 (by omega)
    replace X1 := X1.chg hb19 (by omega)
    clear cP0 cP1 cX0 cX1
    clear hb19
    clear Ox1
    have cP0 := P0.c0
    have cP1 := P1.c0
    have cX0 := X0.c0
    have cX1 := X1.c0
    go_wp2_with fail
    refine (markIntSk_any _ _ _ _ (1 + (total x0 : Int) + (total x1 : Int)) w8.heap.size w9.heap.size _ Ox2 Ix2 (by omega) (by omega)).mono ?_
    rintro e w20 ⟨rfl, -, hb20⟩
    have s20 : w19.heap.size ≤ w20.heap.size := hb20.size
    replace T0 := T0.trans (hb20.below (by omega) (by have := T0.size; omega))
    replace Tq := Tq.trans (hb20.below (by omega) (by have := Tq.size; omega))
    replace Tw := Tw.trans (hb20.below (by omega) (by have := Tw.size; omega))
    replace Og := own_kept Og hb20 (by omega)
    replace P0 := P0.chg hb20 (by omega)
    replace P1 := P1.chg hb20 (by omega)
    replace X0 := X0.chg hb20 (by omega)
    replace X1 := X1.chg hb20 (by omega)
    clear cP0 cP1 cX0 cX1
    clear hb20
    clear Ox2
    have hk0 : ¬ (1 + (total x0 : Int) + (total x1 : Int) + (n2 : Int) < (0 : Int)) := by omega
    have cP0 := P0.c0
    have cP1 := P1.c0
    have cX0 := X0.c0
    have cX1 := X1.c0
    go_wp2_with fail
    refine (bl_of_quiet (eqIntS_any _ _ _ _ _ _ _ _ _ (rd_of_own (R := RI) Og (RI_ints HRB.out)) (Rw.next stab_RI Tw))).mono ?_
    rintro e w21 ⟨rfl, hb21⟩
    rw [HR.out]
    have s21 : w20.heap.size ≤ w21.heap.size := hb21.size
    replace T0 := below_next T0 hb21 rfl
    replace Tq := below_next Tq hb21 rfl
    replace Tw := below_next Tw hb21 rfl
    replace Og := own_next Og hb21
    replace P0 := P0.next hb21
    replace P1 := P1.next hb21
    replace X0 := X0.next hb21
    replace X1 := X1.next hb21
    clear cP0 cP1 cX0 cX1
    clear hb21
    have cP0 := P0.c0
    have cP1 := P1.c0
    have cX0 := X0.c0
    have cX1 := X1.c0
    go_wp2_with fail
    refine (markIntSk_any _ _ _ _ 1 w9.heap.size w10.heap.size _ Og Ig (by omega) (by omega)).mono ?_
    rintro e w22 ⟨rfl, Om, hb22⟩
    have s22 : w21.heap.size ≤ w22.heap.size := hb22.size
    replace T0 := T0.trans (hb22.below (by omega) (by have := T0.size; omega))
    replace Tq := Tq.trans (hb22.below (by omega) (by have := Tq.size; omega))
    replace Tw := Tw.trans (hb22.below (by omega) (by have := Tw.size; omega))
    replace P0 := P0.chg hb22 (by omega)
    replace P1 := P1.chg hb22 (by omega)
    replace X0 := X0.chg hb22 (by omega)
    replace X1 := X1.chg hb22 (by omega)
    clear cP0 cP1 cX0 cX1
    clear hb22
    clear Og
    have Hnb := Lib.hid (nums_bounds (n := ng) (k := 1) (by omega) (by omega))
    have hq0 : ¬ (1 + (ng : Int) < 0) := by omega
    have cP0 := P0.c0
    have cP1 := P1.c0
    have cX0 := X0.c0
    have cX1 := X1.c0
    go_wp2_with fail
    refine (bl_of_same (heldIntS_any _ _ _ _ _ (rd_of_own (R := RI) Om (RI_ints Hnb.out)) (by omega) (by omega))).mono ?_
    rintro e w23 ⟨rfl, hb23⟩
    have s23 : w22.heap.size ≤ w23.heap.size := hb23.size
    replace T0 := below_next T0 hb23 rfl
    replace Tq := below_next Tq hb23 rfl
    replace Tw := below_next Tw hb23 rfl
    replace Om := own_next Om hb23
    replace P0 := P0.next hb23
    replace P1 := P1.next hb23
    replace X0 := X0.next hb23
    replace X1 := X1.next hb23
    clear cP0 cP1 cX0 cX1
    clear hb23
    replace r0 := q0.next stab_RVI Tq
    replace r1 := q1.next stab_RVI Tq
    replace r2 := q2.next stab_RI Tq
    have cP0 := P0.c0
    have cP1 := P1.c0
    have cX0 := X0.c0
    have cX1 := X1.c0
    go_upto_region 37 with fail
    clear cP0 cP1 cX0 cX1
    have kP0 := P0.c0
    have kP1 := P1.c0
    have kX0 := X0.c0
    have kX1 := X1.c0
    have Tk : Below w23.heap.size w23 w23 := Below.refl _ _
    go_cut [18, 19] (fun v18 v19 wx => ∃ (Ah : Option Addr) (nh ch : Nat), v18 = .slice Ah nh ch ∧ v19 = .bool mo1 ∧ RdL RI wx Ah nh mo0 ∧ Below w23.heap.size w23 wx)
    case first =>
      go_region_held3 (fun w' => w'.cell? ⟨w.heap.size, 0, none⟩ = some (.slice A0 n0 c0) ∧ w'.cell? ⟨w.heap.size + 1, 0, none⟩ = some (.slice A1 n1 c1) ∧ w'.cell? ⟨w5.heap.size, 0, none⟩ = some (.slice (some ⟨g5, 0, none⟩) n0 n0) ∧ w'.cell? ⟨w7.heap.size, 0, none⟩ = some (.slice (some ⟨g7, 0, none⟩) n1 n1)) (first | go_keep | exact ⟨keepc Tk kP0, keepc Tk kP1, keepc Tk kX0, keepc Tk kX1⟩) (first | (go_at_call 17; refine (toPoset_any A0 n0 c0 x0 _ (r0.next stab_RVI (by first | exact Tk | exact Below.drew Tk)) hm0 HM0.out).mono ?_; rintro e wn ⟨gn, rfl, how, hbn⟩; have Rn0 := how.rd (R := RI) HB0.out; clear how; replace Tk := below_next (by first | exact Tk | exact Below.drew Tk) hbn rfl; (try replace Rn1 := Rn1.next stab_RVI hbn); (try replace Rn2 := Rn2.next stab_RI hbn)) | (go_at_call 17; refine (toPoset_any A1 n1 c1 x1 _ (r1.next stab_RVI (by first | exact Tk | exact Below.drew Tk)) hm1 HM1.out).mono ?_; rintro e wn ⟨gn, rfl, how, hbn⟩; have Rn1 := how.rd (R := RI) HB1.out; clear how; replace Tk := below_next (by first | exact Tk | exact Below.drew Tk) hbn rfl; (try replace Rn0 := Rn0.next stab_RVI hbn); (try replace Rn2 := Rn2.next stab_RI hbn)) | (go_at_call 18; refine (toIntS_any A2 n2 c2 x2 _ (r2.next stab_RI (by first | exact Tk | exact Below.drew Tk)) hm2).mono ?_; rintro e wn ⟨gn, rfl, -, how, hbn⟩; have Rn2 := rd_of_own (R := RI) how (RI_ints HB2.out); clear how; replace Tk := below_next (by first | exact Tk | exact Below.drew Tk) hbn rfl; (try replace Rn0 := Rn0.next stab_RVI hbn); (try replace Rn1 := Rn1.next stab_RVI hbn)) | (go_at_call 28; refine (implUp_any _ _ _ _ _ _ _ _ _ x0 x1 x2 _ Rn0 Rn1 Rn2).mono ?_; rintro e wn ⟨Az, nz, cz, rfl, Oz, hbn⟩; replace Tk := below_next (by first | exact Tk | exact Below.drew Tk) hbn rfl; rw [HMO1.out]; rw [HMO0.out] at Oz; have Rz := rd_of_own (R := RI) Oz (RI_ints HRB.out); clear Oz))
      all_goals (go_wp2_with fail; go_meet; exact ⟨_, _, _, rfl, rfl, by first | exact Rz | exact Rz.drew stab_RI, by first | exact Tk | exact Below.drew Tk⟩)
    case rest =>
      obtain ⟨Ah, nh, ch, rfl, rfl, Rh, hb24⟩ := hcut
      obtain ⟨w24, HWC⟩ : ∃ wq : World, wq = wc := ⟨_, rfl⟩
      subst HWC
      have s24 : w23.heap.size ≤ w24.heap.size := hb24.size
      replace T0 := below_next T0 hb24 rfl
      replace Tq := below_next Tq hb24 rfl
      replace Tw := below_next Tw hb24 rfl
      replace Om := own_next Om hb24
      replace r0 := r0.next stab_RVI hb24
      replace r1 := r1.next stab_RVI hb24
      replace r2 := r2.next stab_RI hb24
      replace P0 := P0.next hb24
      replace P1 := P1.next hb24
      replace X0 := X0.next hb24
      replace X1 := X1.next hb24
      clear hb24 Tk
      clear kP0 kP1 kX0 kX1
      have Th := Below.refl w24.heap.size w24
      have cP0 := P0.c0
      have cP1 := P1.c0
      have cX0 := X0.c0
      have cX1 := X1.c0
      go_wp2_with fail
      refine (bl_of_quiet (eqIntS_any _ _ _ _ _ _ _ _ _ Rh (Rw.next stab_RI Tw))).mono ?_
      rintro e w25 ⟨rfl, hb25⟩
      rw [HR.out]
      have s25 : w24.heap.size ≤ w25.heap.size := hb25.size
      replace T0 := below_next T0 hb25 rfl
      replace Tq := below_next Tq hb25 rfl
      replace Tw := below_next Tw hb25 rfl
      replace Om := own_next Om hb25
      replace r0 := r0.next stab_RVI hb25
      replace r1 := r1.next stab_RVI hb25
      replace r2 := r2.next stab_RI hb25
      replace P0 := P0.next hb25
      replace P1 := P1.next hb25
      replace X0 := X0.next hb25
      replace X1 := X1.next hb25
      clear cP0 cP1 cX0 cX1
      clear hb25
      have cP0 := P0.c0
      have cP1 := P1.c0
      have cX0 := X0.c0
      have cX1 := X1.c0
      go_wp2_with fail
      refine (bl_of_same (heldIntS_any _ _ _ _ _ (rd_of_own (R := RI) Om (RI_ints Hnb.out)) (by omega) (by omega))).mono ?_
      rintro e w26 ⟨rfl, hb26⟩
      have s26 : w25.heap.size ≤ w26.heap.size := hb26.size
      replace T0 := below_next T0 hb26 rfl
      replace Tq := below_next Tq hb26 rfl
      replace Tw := below_next Tw hb26 rfl
      replace Om := own_next Om hb26
      replace r0 := r0.next stab_RVI hb26
      replace r1 := r1.next stab_RVI hb26
      replace r2 := r2.next stab_RI hb26
      replace P0 := P0.next hb26
      replace P1 := P1.next hb26
      replace X0 := X0.next hb26
      replace X1 := X1.next hb26
      clear cP0 cP1 cX0 cX1
      clear hb26
      go_wp2_with fail
      go_ret
      exact ⟨rfl, T0⟩
end Go.Proofs.Ytfcjhmaggefhaaa
