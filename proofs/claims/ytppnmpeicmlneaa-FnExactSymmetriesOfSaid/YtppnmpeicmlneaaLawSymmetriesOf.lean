
/- The walk of the law FnExactSymmetriesOf. Printed by genlaw3.py. -/
import Derived.Test.YtppnmpeicmlneaaSO
import Derived.Deep.RegionHeld3
import Derived.Deep.DeepCutAuto
namespace Go.Proofs.Ytppnmpeicmlneaa
open Go.RowKit

set_option linter.unusedVariables false in
set_option maxRecDepth 100000 in
set_option maxHeartbeats 16000000 in
theorem lawSymmetriesOf (cs0 : List Value) (x0 : AlgebraM) (w : World) (h0 : shAlgebra.rd w cs0 x0) :
    Calls Try.prog 12 #[.agg cs0.toArray] w (Bl w (.bool true)) := by
  have hh0 := h0
  obtain ⟨Aa0Ops, na0Ops, ca0Ops, rfl, qa0Size, qa0Ops⟩ := rdAlgebra hh0
  clear hh0
  have T0 : Below w.heap.size w w := Below.refl _ _
  obtain ⟨w1, HW1', hb1, hsz1, P0⟩ := boxes1 w #[.int .i64 x0.1, .slice Aa0Ops na0Ops ca0Ops] 52
  have HW1 := Lib.hid HW1'
  clear HW1'
  have zw1 : w.heap.size ≤ w1.heap.size := hb1.size
  replace T0 := below_next T0 hb1 rfl
  clear hb1
  have L0 : (0 : Int) ≤ 1048576 ∧ (1048576 : Int) ≤ 1048576 := by omega
  go_enter Try.func12, Try.ntmps12
  have cP0_0 := P0.cell 0
  have cP0_1 := P0.cell 1
  simp only [List.getElem?_toArray, List.getElem?_cons_zero, List.getElem?_cons_succ] at cP0_0 cP0_1
  rw [HW1.out] at cP0_0
  rw [HW1.out] at cP0_1
  go_wp2_with fail
  rw [← HW1.out]
  clear cP0_0 cP0_1
  refine (szAlgebra_any [.int .i64 x0.1, .slice Aa0Ops na0Ops ca0Ops] x0 1048576 _ (shAlgebra.stab h0 T0.block) L0.1 L0.2).mono ?_
  rintro e w2 ⟨rfl, hb2⟩
  have zw2 : w1.heap.size ≤ w2.heap.size := hb2.size
  replace T0 := below_next T0 hb2 rfl
  replace P0 := P0.next hb2
  clear hb2
  obtain ⟨l0, HL0⟩ : ∃ l, Hid (szR (shAlgebra.cnt x0) 1048576 = l) := ⟨_, rfl⟩
  have bd0 := szR_bd (shAlgebra.cnt x0) (left := 1048576) L0.1
  rw [HL0.out] at bd0 ⊢
  by_cases z0 : l0 < 0
  · go_wp2_with fail
    go_ret
    exact ⟨rfl, T0⟩
  have hn0 : (shAlgebra.cnt x0) ≤ 1048576 := by have := szR_ok (a := (shAlgebra.cnt x0)) (left := 1048576) (by rw [HL0.out]; exact z0); omega
  have M0 : 0 ≤ l0 ∧ l0 ≤ 1048576 := by omega
  clear bd0
  obtain ⟨mo0, HMO0⟩ : ∃ b, Hid (soM x0 = b) := ⟨_, rfl⟩
  obtain ⟨mo1, HMO1⟩ : ∃ b, Hid (smallB x0 = b) := ⟨_, rfl⟩
  have hbb1 := bne_self mo1
  have cP0_0 := P0.cell 0
  have cP0_1 := P0.cell 1
  simp only [List.getElem?_toArray, List.getElem?_cons_zero, List.getElem?_cons_succ] at cP0_0 cP0_1
  go_wp2_with fail
  clear cP0_0 cP0_1
  refine (toAlgebra_any [.int .i64 x0.1, .slice Aa0Ops na0Ops ca0Ops] x0 _ (shAlgebra.stab h0 T0.block) hn0).mono ?_
  rintro e w3 ⟨csn0, bln0, rfl, On0, In0, hb3⟩
  have zw3 : w2.heap.size ≤ w3.heap.size := hb3.size
  replace T0 := below_next T0 hb3 rfl
  replace P0 := P0.next hb3
  clear hb3
  obtain ⟨An0Ops, nn0Ops, cn0Ops, rfl, -, -⟩ := rdAlgebra (shAlgebra.ord On0)
  have cP0_0 := P0.cell 0
  have cP0_1 := P0.cell 1
  simp only [List.getElem?_toArray, List.getElem?_cons_zero, List.getElem?_cons_succ] at cP0_0 cP0_1
  go_wp2_with fail
  clear cP0_0 cP0_1
  refine (specSO_any [.int .i64 x0.1, .slice An0Ops nn0Ops cn0Ops] x0 _ (shAlgebra.ord On0)).mono ?_
  rintro e w4 ⟨Aw, cw, rfl, Rw, hb4⟩
  rw [HMO1.out]
  have zw4 : w3.heap.size ≤ w4.heap.size := hb4.size
  replace T0 := below_next T0 hb4 rfl
  replace On0 := Sh.onext On0 hb4
  replace P0 := P0.next hb4
  clear hb4
  clear On0 In0
  rw [HMO0.out] at Rw ⊢
  have Tw : Below w4.heap.size w4 w4 := Below.refl _ _
  have HRB : Hid (∀ xs ∈ mo0, ∀ y ∈ xs, ∀ wz : World, RI wz (.int .i64 y) y) := by show ∀ xs ∈ mo0, ∀ y ∈ xs, ∀ wz : World, RI wz (.int .i64 y) y; rw [← HMO0.out]; exact soM_R
  have cP0_0 := P0.cell 0
  have cP0_1 := P0.cell 1
  simp only [List.getElem?_toArray, List.getElem?_cons_zero, List.getElem?_cons_succ] at cP0_0 cP0_1
  go_wp2_with fail
  clear cP0_0 cP0_1
  refine (toAlgebra_any [.int .i64 x0.1, .slice Aa0Ops na0Ops ca0Ops] x0 _ (shAlgebra.stab h0 T0.block) hn0).mono ?_
  rintro e w5 ⟨csx0, blx0, rfl, Ox0, Ix0, hb5⟩
  have zw5 : w4.heap.size ≤ w5.heap.size := hb5.size
  replace T0 := below_next T0 hb5 rfl
  replace Tw := below_next Tw hb5 rfl
  replace P0 := P0.next hb5
  clear hb5
  obtain ⟨Ax0Ops, nx0Ops, cx0Ops, rfl, -, -⟩ := rdAlgebra (shAlgebra.ord Ox0)
  obtain ⟨w6, HW6⟩ : ∃ wb, Hid (wb = w5.alloc (.cells #[.int .i64 x0.1, .slice Ax0Ops nx0Ops cx0Ops] 41)) := ⟨_, rfl⟩
  have hb6 : Below w5.heap.size w5 w6 := by rw [HW6.out]; exact below_box _ _
  have X0 : Blk w6 w5.heap.size 41 #[.int .i64 x0.1, .slice Ax0Ops nx0Ops cx0Ops] := by rw [HW6.out]; exact Blk.new _ _ _
  have yw6 : w5.heap.size < w6.heap.size := X0.lt
  have zw6 : w5.heap.size ≤ w6.heap.size := hb6.size
  replace T0 := below_next T0 hb6 rfl
  replace Tw := below_next Tw hb6 rfl
  replace Ox0 := Sh.onext Ox0 hb6
  replace P0 := P0.next hb6
  clear hb6
  have cP0_0 := P0.cell 0
  have cP0_1 := P0.cell 1
  have cX0_0 := X0.cell 0
  have cX0_1 := X0.cell 1
  simp only [List.getElem?_toArray, List.getElem?_cons_zero, List.getElem?_cons_succ] at cP0_0 cP0_1 cX0_0 cX0_1
  rw [HW6.out] at cP0_0
  rw [HW6.out] at cP0_1
  rw [HW6.out] at cX0_0
  rw [HW6.out] at cX0_1
  go_wp2_with fail
  rw [← HW6.out]
  clear cP0_0 cP0_1 cX0_0 cX0_1
  refine (implSO_any [.int .i64 x0.1, .slice Ax0Ops nx0Ops cx0Ops] x0 _ (shAlgebra.ord Ox0)).mono ?_
  rintro e w7 ⟨Ag, cg, vsg, rfl, Og, Ig, hb7⟩
  rw [HMO1.out]
  have zw7 : w6.heap.size ≤ w7.heap.size := hb7.size
  replace T0 := below_next T0 hb7 rfl
  replace Tw := below_next Tw hb7 rfl
  replace Ox0 := Sh.onext Ox0 hb7
  replace P0 := P0.next hb7
  replace X0 := X0.next hb7
  clear hb7
  rw [HMO0.out] at Og ⊢
  have cP0_0 := P0.cell 0
  have cP0_1 := P0.cell 1
  have cX0_0 := X0.cell 0
  have cX0_1 := X0.cell 1
  simp only [List.getElem?_toArray, List.getElem?_cons_zero, List.getElem?_cons_succ] at cP0_0 cP0_1 cX0_0 cX0_1
  go_wp2_with fail
  clear cP0_0 cP0_1 cX0_0 cX0_1
  refine (bl_of_quiet (eqIntSS_any _ _ _ _ _ _ mo0 mo0 _ (Og.own.rd (R := RI) fun xs hx y hy => HRB.out xs hx y hy _) (Rw.next stab_RVI Tw))).mono ?_
  rintro e w8 ⟨rfl, hb8⟩
  rw [eqLL_self]
  have zw8 : w7.heap.size ≤ w8.heap.size := hb8.size
  replace T0 := below_next T0 hb8 rfl
  replace Tw := below_next Tw hb8 rfl
  replace Ox0 := Sh.onext Ox0 hb8
  replace Og := Og.next hb8
  replace P0 := P0.next hb8
  replace X0 := X0.next hb8
  clear hb8
  have g0 := (shAlgebra.stab h0 T0.block)
  have Rx0 := shAlgebra.ord Ox0
  have cP0_0 := P0.cell 0
  have cP0_1 := P0.cell 1
  have cX0_0 := X0.cell 0
  have cX0_1 := X0.cell 1
  simp only [List.getElem?_toArray, List.getElem?_cons_zero, List.getElem?_cons_succ] at cP0_0 cP0_1 cX0_0 cX0_1
  go_upto_region 10 with fail
  clear cP0_0 cP0_1 cX0_0 cX0_1
  have cP0_0 := P0.cell 0
  have cP0_1 := P0.cell 1
  have cX0_0 := X0.cell 0
  have cX0_1 := X0.cell 1
  simp only [List.getElem?_toArray, List.getElem?_cons_zero, List.getElem?_cons_succ] at cP0_0 cP0_1 cX0_0 cX0_1
  have Tk : Below w8.heap.size w8 w8 := Below.refl _ _
  go_region_held3 (fun w' => w'.cell? ⟨w.heap.size, 0, none⟩ = some (.int .i64 x0.1) ∧ w'.cell? ⟨w.heap.size, 1, none⟩ = some (.slice Aa0Ops na0Ops ca0Ops) ∧ w'.cell? ⟨w5.heap.size, 0, none⟩ = some (.int .i64 x0.1) ∧ w'.cell? ⟨w5.heap.size, 1, none⟩ = some (.slice Ax0Ops nx0Ops cx0Ops)) (first | go_keep | exact ⟨keepc Tk cP0_0, keepc Tk cP0_1, keepc Tk cX0_0, keepc Tk cX0_1⟩) (first | (go_at_call 27; refine (toAlgebra_any [.int .i64 x0.1, .slice Aa0Ops na0Ops ca0Ops] x0 _ (shAlgebra.stab g0 (by first | exact Tk.block | exact (Below.drew Tk).block)) hn0).mono ?_; rintro e wn ⟨csn0, bn0, rfl, On, In, hbn⟩; have Rn0 := shAlgebra.ord On; clear On In; replace Tk := below_next (by first | exact Tk | exact Below.drew Tk) hbn rfl) | (go_at_call 30; refine (eqAlgebra_any [.int .i64 x0.1, .slice Ax0Ops nx0Ops cx0Ops] csn0 x0 x0 _ (shAlgebra.stab Rx0 (by first | exact Tk.block | exact (Below.drew Tk).block)) (by first | exact Rn0 | exact shAlgebra.stab Rn0 (below_drewN (Below.refl _ _) 1).block)).mono ?_; rintro e w9 ⟨rfl, hbn⟩; replace Tk := below_next (by first | exact Tk | exact Below.drew Tk) hbn rfl; rw [eqC_self]))
  have hb9 := Tk
  have zw9 : w8.heap.size ≤ w9.heap.size := hb9.size
  replace T0 := below_next T0 hb9 rfl
  replace Tw := below_next Tw hb9 rfl
  replace Ox0 := Sh.onext Ox0 hb9
  replace Og := Og.next hb9
  replace P0 := P0.next hb9
  replace X0 := X0.next hb9
  clear hb9 Tk cP0_0 cP0_1 cX0_0 cX0_1
  clear g0 Rx0
  try clear Rn0 hbn
  have k0_0 : (0 : Int) ≤ 1 := by omega
  have hm0 : msAlgebra x0 ≤ 4194304 := mcle_stAlgebra hn0
  have cP0_0 := P0.cell 0
  have cP0_1 := P0.cell 1
  have cX0_0 := X0.cell 0
  have cX0_1 := X0.cell 1
  simp only [List.getElem?_toArray, List.getElem?_cons_zero, List.getElem?_cons_succ] at cP0_0 cP0_1 cX0_0 cX0_1
  go_wp2_with fail
  clear cP0_0 cP0_1 cX0_0 cX0_1
  refine (markAlgebra_any [.int .i64 x0.1, .slice Ax0Ops nx0Ops cx0Ops] x0 blx0 (1) _ Ox0 Ix0.1 (by omega) (by omega)).mono ?_
  rintro e w10 ⟨rfl, -, hb10⟩
  have hg10 := hb10.chg (lo := w4.heap.size) (hi := w5.heap.size) Ix0.2
  have zw10 : w9.heap.size ≤ w10.heap.size := hg10.size
  replace T0 := T0.trans (hg10.below (by omega) (by have := T0.size; omega))
  replace Tw := Tw.trans (hg10.below (by omega) (by have := Tw.size; omega))
  replace Og := Og.kept hg10 (by omega)
  replace P0 := P0.chg' hg10 (by omega)
  replace X0 := X0.chg' hg10 (by omega)
  clear hb10 hg10
  clear Ox0
  have hk0 : ¬ (1 + ((msAlgebra x0 : Nat) : Int) < (0 : Int)) := by omega
  have cP0_0 := P0.cell 0
  have cP0_1 := P0.cell 1
  have cX0_0 := X0.cell 0
  have cX0_1 := X0.cell 1
  simp only [List.getElem?_toArray, List.getElem?_cons_zero, List.getElem?_cons_succ] at cP0_0 cP0_1 cX0_0 cX0_1
  go_wp2_with fail
  clear cP0_0 cP0_1 cX0_0 cX0_1
  refine (bl_of_quiet (eqIntSS_any _ _ _ _ _ _ mo0 mo0 _ (Og.own.rd (R := RI) fun xs hx y hy => HRB.out xs hx y hy _) (Rw.next stab_RVI Tw))).mono ?_
  rintro e w11 ⟨rfl, hb11⟩
  rw [eqLL_self]
  have zw11 : w10.heap.size ≤ w11.heap.size := hb11.size
  replace T0 := below_next T0 hb11 rfl
  replace Tw := below_next Tw hb11 rfl
  replace Og := Og.next hb11
  replace P0 := P0.next hb11
  replace X0 := X0.next hb11
  clear hb11
  have hmr : total mo0 ≤ 4194304 := by rw [← HMO0.out]; exact soM_total
  have h1t : (0 : Int) ≤ 1 := by omega
  have h2t : (1 : Int) + total mo0 ≤ 4611686018427387904 := by omega
  have cP0_0 := P0.cell 0
  have cP0_1 := P0.cell 1
  have cX0_0 := X0.cell 0
  have cX0_1 := X0.cell 1
  simp only [List.getElem?_toArray, List.getElem?_cons_zero, List.getElem?_cons_succ] at cP0_0 cP0_1 cX0_0 cX0_1
  go_wp2_with fail
  clear cP0_0 cP0_1 cX0_0 cX0_1
  refine (markIntSS_any _ _ _ _ mo0 1 w6.heap.size w7.heap.size _ Og Ig (by omega) (by omega)).mono ?_
  rintro e w12 ⟨rfl, Om, hc12⟩
  have zw12 : w11.heap.size ≤ w12.heap.size := hc12.size
  replace T0 := T0.trans (hc12.below (by omega) (by have := T0.size; omega))
  replace Tw := Tw.trans (hc12.below (by omega) (by have := Tw.size; omega))
  replace P0 := P0.chg' hc12 (by omega)
  replace X0 := X0.chg' hc12 (by omega)
  clear hc12 Og
  have hq0 : ¬ (1 + ((total mo0 : Nat) : Int) < 0) := by omega
  have hqq : ((1 + ((total mo0 : Nat) : Int)) != (1 + ((total mo0 : Nat) : Int))) = false := by simp
  have cP0_0 := P0.cell 0
  have cP0_1 := P0.cell 1
  have cX0_0 := X0.cell 0
  have cX0_1 := X0.cell 1
  simp only [List.getElem?_toArray, List.getElem?_cons_zero, List.getElem?_cons_succ] at cP0_0 cP0_1 cX0_0 cX0_1
  go_wp2_with fail
  clear cP0_0 cP0_1 cX0_0 cX0_1
  refine (bl_of_same2 (heldIntSS_any _ _ _ mo0 1 _ (Om.own.rd (R := RI) (numss_bounds2 h1t h2t)) (by omega) (by omega))).mono ?_
  rintro e w13 ⟨rfl, hb13⟩
  have zw13 : w12.heap.size ≤ w13.heap.size := hb13.size
  replace T0 := below_next T0 hb13 rfl
  replace Tw := below_next Tw hb13 rfl
  replace Om := Om.next hb13
  replace P0 := P0.next hb13
  replace X0 := X0.next hb13
  clear hb13
  have cP0_0 := P0.cell 0
  have cP0_1 := P0.cell 1
  have cX0_0 := X0.cell 0
  have cX0_1 := X0.cell 1
  simp only [List.getElem?_toArray, List.getElem?_cons_zero, List.getElem?_cons_succ] at cP0_0 cP0_1 cX0_0 cX0_1
  go_wp2_with fail
  clear cP0_0 cP0_1 cX0_0 cX0_1
  refine (toAlgebra_any [.int .i64 x0.1, .slice Aa0Ops na0Ops ca0Ops] x0 _ (shAlgebra.stab h0 T0.block) hn0).mono ?_
  rintro e w14 ⟨csh0, blh0, rfl, Oh0, Ih0, hb14⟩
  have zw14 : w13.heap.size ≤ w14.heap.size := hb14.size
  replace T0 := below_next T0 hb14 rfl
  replace Tw := below_next Tw hb14 rfl
  replace Om := Om.next hb14
  replace P0 := P0.next hb14
  replace X0 := X0.next hb14
  clear hb14
  obtain ⟨Ah0Ops, nh0Ops, ch0Ops, rfl, -, -⟩ := rdAlgebra (shAlgebra.ord Oh0)
  have cP0_0 := P0.cell 0
  have cP0_1 := P0.cell 1
  have cX0_0 := X0.cell 0
  have cX0_1 := X0.cell 1
  simp only [List.getElem?_toArray, List.getElem?_cons_zero, List.getElem?_cons_succ] at cP0_0 cP0_1 cX0_0 cX0_1
  go_wp2_with fail
  clear cP0_0 cP0_1 cX0_0 cX0_1
  refine (implSO_any [.int .i64 x0.1, .slice Ah0Ops nh0Ops ch0Ops] x0 _ (shAlgebra.ord Oh0)).mono ?_
  rintro e w15 ⟨Ah, ch, vsh, rfl, Oh, Ih, hb15⟩
  rw [HMO1.out]
  have zw15 : w14.heap.size ≤ w15.heap.size := hb15.size
  replace T0 := below_next T0 hb15 rfl
  replace Tw := below_next Tw hb15 rfl
  replace Om := Om.next hb15
  replace Oh0 := Sh.onext Oh0 hb15
  replace P0 := P0.next hb15
  replace X0 := X0.next hb15
  clear hb15
  rw [HMO0.out] at Oh ⊢
  clear Oh0 Ih0
  have cP0_0 := P0.cell 0
  have cP0_1 := P0.cell 1
  have cX0_0 := X0.cell 0
  have cX0_1 := X0.cell 1
  simp only [List.getElem?_toArray, List.getElem?_cons_zero, List.getElem?_cons_succ] at cP0_0 cP0_1 cX0_0 cX0_1
  go_wp2_with fail
  clear cP0_0 cP0_1 cX0_0 cX0_1
  refine (bl_of_quiet (eqIntSS_any _ _ _ _ _ _ mo0 mo0 _ (Oh.own.rd (R := RI) fun xs hx y hy => HRB.out xs hx y hy _) (Rw.next stab_RVI Tw))).mono ?_
  rintro e w16 ⟨rfl, hb16⟩
  rw [eqLL_self]
  have zw16 : w15.heap.size ≤ w16.heap.size := hb16.size
  replace T0 := below_next T0 hb16 rfl
  replace Tw := below_next Tw hb16 rfl
  replace Om := Om.next hb16
  replace Oh := Oh.next hb16
  replace P0 := P0.next hb16
  replace X0 := X0.next hb16
  clear hb16
  have cP0_0 := P0.cell 0
  have cP0_1 := P0.cell 1
  have cX0_0 := X0.cell 0
  have cX0_1 := X0.cell 1
  simp only [List.getElem?_toArray, List.getElem?_cons_zero, List.getElem?_cons_succ] at cP0_0 cP0_1 cX0_0 cX0_1
  go_wp2_with fail
  clear cP0_0 cP0_1 cX0_0 cX0_1
  refine (bl_of_same2 (heldIntSS_any _ _ _ mo0 1 _ (Om.own.rd (R := RI) (numss_bounds2 h1t h2t)) (by omega) (by omega))).mono ?_
  rintro e w17 ⟨rfl, hb17⟩
  have zw17 : w16.heap.size ≤ w17.heap.size := hb17.size
  replace T0 := below_next T0 hb17 rfl
  replace Tw := below_next Tw hb17 rfl
  replace Om := Om.next hb17
  replace Oh := Oh.next hb17
  replace P0 := P0.next hb17
  replace X0 := X0.next hb17
  clear hb17
  have cP0_0 := P0.cell 0
  have cP0_1 := P0.cell 1
  have cX0_0 := X0.cell 0
  have cX0_1 := X0.cell 1
  simp only [List.getElem?_toArray, List.getElem?_cons_zero, List.getElem?_cons_succ] at cP0_0 cP0_1 cX0_0 cX0_1
  go_wp2_with fail
  clear cP0_0 cP0_1 cX0_0 cX0_1
  go_ret
  exact ⟨rfl, T0⟩
end Go.Proofs.Ytppnmpeicmlneaa
