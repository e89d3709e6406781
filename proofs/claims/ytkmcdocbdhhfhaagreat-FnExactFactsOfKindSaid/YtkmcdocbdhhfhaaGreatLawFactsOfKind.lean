
/- The walk of the law FnExactFactsOfKind. Printed by genlaw3.py. -/
import Derived.Test.YtkmcdocbdhhfhaaGreatFkind
import Derived.Test.YtkmcdocbdhhfhaaGreatKFact
import Derived.Deep.RegionHeld3
import Derived.Deep.DeepCutAuto
namespace Go.Proofs.YtkmcdocbdhhfhaaGreat
open Go.RowKit

set_option linter.unusedVariables false in
set_option maxRecDepth 100000 in
set_option maxHeartbeats 16000000 in
theorem lawFactsOfKind (cs0 : List Value) (x0 : LabM) (x1 : Int) (w : World) (h0 : shLab.rd w cs0 x0) (h1 : InR x1) :
    Calls Tryz.prog 5 #[.agg cs0.toArray, .int .i64 x1] w (Bl w (.bool true)) := by
  have hh0 := h0
  obtain ⟨Aa0BaseOps, na0BaseOps, ca0BaseOps, Aa0Facts, na0Facts, ca0Facts, rfl, qa0BaseSize, qa0BaseOps, qa0Facts, qa0Refused⟩ := rdLab hh0
  clear hh0
  have T0 : Below w.heap.size w w := Below.refl _ _
  obtain ⟨w1, HW1', hb1, hsz1, P0⟩ := boxes1 w #[.bool x0.1, .int .i64 x0.2.1.1, .slice Aa0BaseOps na0BaseOps ca0BaseOps, .slice Aa0Facts na0Facts ca0Facts, .int .i64 x0.2.2.2] 27
  have HW1 := Lib.hid HW1'
  clear HW1'
  have zw1 : w.heap.size ≤ w1.heap.size := hb1.size
  replace T0 := below_next T0 hb1 rfl
  clear hb1
  have L0 : (0 : Int) ≤ 1048576 ∧ (1048576 : Int) ≤ 1048576 := by omega
  go_enter Tryz.func5, Tryz.ntmps5
  have cP0_0 := P0.cell 0
  have cP0_1 := P0.cell 1
  have cP0_2 := P0.cell 2
  have cP0_3 := P0.cell 3
  have cP0_4 := P0.cell 4
  simp only [List.getElem?_toArray, List.getElem?_cons_zero, List.getElem?_cons_succ] at cP0_0 cP0_1 cP0_2 cP0_3 cP0_4
  rw [HW1.out] at cP0_0
  rw [HW1.out] at cP0_1
  rw [HW1.out] at cP0_2
  rw [HW1.out] at cP0_3
  rw [HW1.out] at cP0_4
  go_wp2_with fail
  rw [← HW1.out]
  clear cP0_0 cP0_1 cP0_2 cP0_3 cP0_4
  refine (szLab_any [.bool x0.1, .int .i64 x0.2.1.1, .slice Aa0BaseOps na0BaseOps ca0BaseOps, .slice Aa0Facts na0Facts ca0Facts, .int .i64 x0.2.2.2] x0 1048576 _ (shLab.stab h0 T0.block) L0.1 L0.2).mono ?_
  rintro e w2 ⟨rfl, hb2⟩
  have zw2 : w1.heap.size ≤ w2.heap.size := hb2.size
  replace T0 := below_next T0 hb2 rfl
  replace P0 := P0.next hb2
  clear hb2
  obtain ⟨l0, HL0⟩ : ∃ l, Hid (szR (shLab.cnt x0) 1048576 = l) := ⟨_, rfl⟩
  have bd0 := szR_bd (shLab.cnt x0) (left := 1048576) L0.1
  rw [HL0.out] at bd0 ⊢
  by_cases z0 : l0 < 0
  · go_wp2_with fail
    go_ret
    exact ⟨rfl, T0⟩
  have hn0 : (shLab.cnt x0) ≤ 1048576 := by have := szR_ok (a := (shLab.cnt x0)) (left := 1048576) (by rw [HL0.out]; exact z0); omega
  have M0 : 0 ≤ l0 ∧ l0 ≤ 1048576 := by omega
  clear bd0
  obtain ⟨mo0, HMO0⟩ : ∃ b, Hid (fkM x0 x1 = b) := ⟨_, rfl⟩
  obtain ⟨mo1, HMO1⟩ : ∃ b, Hid (fkOk x0 x1 = b) := ⟨_, rfl⟩
  have hbb1 := bne_self mo1
  have cP0_0 := P0.cell 0
  have cP0_1 := P0.cell 1
  have cP0_2 := P0.cell 2
  have cP0_3 := P0.cell 3
  have cP0_4 := P0.cell 4
  simp only [List.getElem?_toArray, List.getElem?_cons_zero, List.getElem?_cons_succ] at cP0_0 cP0_1 cP0_2 cP0_3 cP0_4
  go_wp2_with fail
  clear cP0_0 cP0_1 cP0_2 cP0_3 cP0_4
  refine (toLab_any [.bool x0.1, .int .i64 x0.2.1.1, .slice Aa0BaseOps na0BaseOps ca0BaseOps, .slice Aa0Facts na0Facts ca0Facts, .int .i64 x0.2.2.2] x0 _ (shLab.stab h0 T0.block) hn0).mono ?_
  rintro e w3 ⟨csn0, bln0, rfl, On0, In0, hb3⟩
  have zw3 : w2.heap.size ≤ w3.heap.size := hb3.size
  replace T0 := below_next T0 hb3 rfl
  replace P0 := P0.next hb3
  clear hb3
  obtain ⟨An0BaseOps, nn0BaseOps, cn0BaseOps, An0Facts, nn0Facts, cn0Facts, rfl, -, -, -, -⟩ := rdLab (shLab.ord On0)
  have cP0_0 := P0.cell 0
  have cP0_1 := P0.cell 1
  have cP0_2 := P0.cell 2
  have cP0_3 := P0.cell 3
  have cP0_4 := P0.cell 4
  simp only [List.getElem?_toArray, List.getElem?_cons_zero, List.getElem?_cons_succ] at cP0_0 cP0_1 cP0_2 cP0_3 cP0_4
  go_wp2_with fail
  clear cP0_0 cP0_1 cP0_2 cP0_3 cP0_4
  refine ((specFK_any [.bool x0.1, .int .i64 x0.2.1.1, .slice An0BaseOps nn0BaseOps cn0BaseOps, .slice An0Facts nn0Facts cn0Facts, .int .i64 x0.2.2.2] x0 x1 _ (shLab.ord On0)).mono fun _ _ => OwV.rd).mono ?_
  rintro e w4 ⟨vw, rfl, Rw, hb4⟩
  rw [HMO1.out]
  have zw4 : w3.heap.size ≤ w4.heap.size := hb4.size
  replace T0 := below_next T0 hb4 rfl
  replace On0 := Sh.onext On0 hb4
  replace P0 := P0.next hb4
  clear hb4
  clear On0 In0
  rw [HMO0.out] at Rw
  have Tw : Below w4.heap.size w4 w4 := Below.refl _ _
  have cP0_0 := P0.cell 0
  have cP0_1 := P0.cell 1
  have cP0_2 := P0.cell 2
  have cP0_3 := P0.cell 3
  have cP0_4 := P0.cell 4
  simp only [List.getElem?_toArray, List.getElem?_cons_zero, List.getElem?_cons_succ] at cP0_0 cP0_1 cP0_2 cP0_3 cP0_4
  go_wp2_with fail
  clear cP0_0 cP0_1 cP0_2 cP0_3 cP0_4
  refine (toLab_any [.bool x0.1, .int .i64 x0.2.1.1, .slice Aa0BaseOps na0BaseOps ca0BaseOps, .slice Aa0Facts na0Facts ca0Facts, .int .i64 x0.2.2.2] x0 _ (shLab.stab h0 T0.block) hn0).mono ?_
  rintro e w5 ⟨csx0, blx0, rfl, Ox0, Ix0, hb5⟩
  have zw5 : w4.heap.size ≤ w5.heap.size := hb5.size
  replace T0 := below_next T0 hb5 rfl
  replace Tw := below_next Tw hb5 rfl
  replace P0 := P0.next hb5
  clear hb5
  obtain ⟨Ax0BaseOps, nx0BaseOps, cx0BaseOps, Ax0Facts, nx0Facts, cx0Facts, rfl, -, -, -, -⟩ := rdLab (shLab.ord Ox0)
  obtain ⟨w6, HW6⟩ : ∃ wb, Hid (wb = w5.alloc (.cells #[.bool x0.1, .int .i64 x0.2.1.1, .slice Ax0BaseOps nx0BaseOps cx0BaseOps, .slice Ax0Facts nx0Facts cx0Facts, .int .i64 x0.2.2.2] 35)) := ⟨_, rfl⟩
  have hb6 : Below w5.heap.size w5 w6 := by rw [HW6.out]; exact below_box _ _
  have X0 : Blk w6 w5.heap.size 35 #[.bool x0.1, .int .i64 x0.2.1.1, .slice Ax0BaseOps nx0BaseOps cx0BaseOps, .slice Ax0Facts nx0Facts cx0Facts, .int .i64 x0.2.2.2] := by rw [HW6.out]; exact Blk.new _ _ _
  have yw6 : w5.heap.size < w6.heap.size := X0.lt
  have zw6 : w5.heap.size ≤ w6.heap.size := hb6.size
  replace T0 := below_next T0 hb6 rfl
  replace Tw := below_next Tw hb6 rfl
  replace Ox0 := Sh.onext Ox0 hb6
  replace P0 := P0.next hb6
  clear hb6
  have cP0_0 := P0.cell 0
  have cP0_1 := P0.cell 1
  have cP0_2 := P0.cell 2
  have cP0_3 := P0.cell 3
  have cP0_4 := P0.cell 4
  have cX0_0 := X0.cell 0
  have cX0_1 := X0.cell 1
  have cX0_2 := X0.cell 2
  have cX0_3 := X0.cell 3
  have cX0_4 := X0.cell 4
  simp only [List.getElem?_toArray, List.getElem?_cons_zero, List.getElem?_cons_succ] at cP0_0 cP0_1 cP0_2 cP0_3 cP0_4 cX0_0 cX0_1 cX0_2 cX0_3 cX0_4
  rw [HW6.out] at cP0_0
  rw [HW6.out] at cP0_1
  rw [HW6.out] at cP0_2
  rw [HW6.out] at cP0_3
  rw [HW6.out] at cP0_4
  rw [HW6.out] at cX0_0
  rw [HW6.out] at cX0_1
  rw [HW6.out] at cX0_2
  rw [HW6.out] at cX0_3
  rw [HW6.out] at cX0_4
  go_wp2_with fail
  rw [← HW6.out]
  clear cP0_0 cP0_1 cP0_2 cP0_3 cP0_4 cX0_0 cX0_1 cX0_2 cX0_3 cX0_4
  refine (implFK_any [.bool x0.1, .int .i64 x0.2.1.1, .slice Ax0BaseOps nx0BaseOps cx0BaseOps, .slice Ax0Facts nx0Facts cx0Facts, .int .i64 x0.2.2.2] x0 x1 _ (shLab.ord Ox0) (by first | exact capLab Oh0 | exact capLab Ox0)).mono ?_
  rintro e w7 ⟨vg, blg, rfl, Og, Ig, hb7⟩
  rw [HMO1.out]
  have zw7 : w6.heap.size ≤ w7.heap.size := hb7.size
  replace T0 := below_next T0 hb7 rfl
  replace Tw := below_next Tw hb7 rfl
  replace Ox0 := Sh.onext Ox0 hb7
  replace P0 := P0.next hb7
  replace X0 := X0.next hb7
  clear hb7
  rw [HMO0.out] at Og
  have cP0_0 := P0.cell 0
  have cP0_1 := P0.cell 1
  have cP0_2 := P0.cell 2
  have cP0_3 := P0.cell 3
  have cP0_4 := P0.cell 4
  have cX0_0 := X0.cell 0
  have cX0_1 := X0.cell 1
  have cX0_2 := X0.cell 2
  have cX0_3 := X0.cell 3
  have cX0_4 := X0.cell 4
  simp only [List.getElem?_toArray, List.getElem?_cons_zero, List.getElem?_cons_succ] at cP0_0 cP0_1 cP0_2 cP0_3 cP0_4 cX0_0 cX0_1 cX0_2 cX0_3 cX0_4
  go_wp2_with fail
  clear cP0_0 cP0_1 cP0_2 cP0_3 cP0_4 cX0_0 cX0_1 cX0_2 cX0_3 cX0_4
  refine (eqIl_any vg vw mo0 mo0 _ ((Sh.il 3).ord Og) ((Sh.il 3).stab Rw Tw.block)).mono ?_
  rintro e w8 ⟨rfl, hb8⟩
  rw [eqC_self]
  have zw8 : w7.heap.size ≤ w8.heap.size := hb8.size
  replace T0 := below_next T0 hb8 rfl
  replace Tw := below_next Tw hb8 rfl
  replace Ox0 := Sh.onext Ox0 hb8
  replace Og := Sh.onext Og hb8
  replace P0 := P0.next hb8
  replace X0 := X0.next hb8
  clear hb8
  have g0 := (shLab.stab h0 T0.block)
  have Rx0 := shLab.ord Ox0
  have cP0_0 := P0.cell 0
  have cP0_1 := P0.cell 1
  have cP0_2 := P0.cell 2
  have cP0_3 := P0.cell 3
  have cP0_4 := P0.cell 4
  have cX0_0 := X0.cell 0
  have cX0_1 := X0.cell 1
  have cX0_2 := X0.cell 2
  have cX0_3 := X0.cell 3
  have cX0_4 := X0.cell 4
  simp only [List.getElem?_toArray, List.getElem?_cons_zero, List.getElem?_cons_succ] at cP0_0 cP0_1 cP0_2 cP0_3 cP0_4 cX0_0 cX0_1 cX0_2 cX0_3 cX0_4
  go_upto_region 10 with fail
  clear cP0_0 cP0_1 cP0_2 cP0_3 cP0_4 cX0_0 cX0_1 cX0_2 cX0_3 cX0_4
  have cP0_0 := P0.cell 0
  have cP0_1 := P0.cell 1
  have cP0_2 := P0.cell 2
  have cP0_3 := P0.cell 3
  have cP0_4 := P0.cell 4
  have cX0_0 := X0.cell 0
  have cX0_1 := X0.cell 1
  have cX0_2 := X0.cell 2
  have cX0_3 := X0.cell 3
  have cX0_4 := X0.cell 4
  simp only [List.getElem?_toArray, List.getElem?_cons_zero, List.getElem?_cons_succ] at cP0_0 cP0_1 cP0_2 cP0_3 cP0_4 cX0_0 cX0_1 cX0_2 cX0_3 cX0_4
  have Tk : Below w8.heap.size w8 w8 := Below.refl _ _
  go_region_held3 (fun w' => w'.cell? ⟨w.heap.size, 0, none⟩ = some (.bool x0.1) ∧ w'.cell? ⟨w.heap.size, 1, none⟩ = some (.int .i64 x0.2.1.1) ∧ w'.cell? ⟨w.heap.size, 2, none⟩ = some (.slice Aa0BaseOps na0BaseOps ca0BaseOps) ∧ w'.cell? ⟨w.heap.size, 3, none⟩ = some (.slice Aa0Facts na0Facts ca0Facts) ∧ w'.cell? ⟨w.heap.size, 4, none⟩ = some (.int .i64 x0.2.2.2) ∧ w'.cell? ⟨w5.heap.size, 0, none⟩ = some (.bool x0.1) ∧ w'.cell? ⟨w5.heap.size, 1, none⟩ = some (.int .i64 x0.2.1.1) ∧ w'.cell? ⟨w5.heap.size, 2, none⟩ = some (.slice Ax0BaseOps nx0BaseOps cx0BaseOps) ∧ w'.cell? ⟨w5.heap.size, 3, none⟩ = some (.slice Ax0Facts nx0Facts cx0Facts) ∧ w'.cell? ⟨w5.heap.size, 4, none⟩ = some (.int .i64 x0.2.2.2)) (first | go_keep | exact ⟨keepc Tk cP0_0, keepc Tk cP0_1, keepc Tk cP0_2, keepc Tk cP0_3, keepc Tk cP0_4, keepc Tk cX0_0, keepc Tk cX0_1, keepc Tk cX0_2, keepc Tk cX0_3, keepc Tk cX0_4⟩) (first | (go_at_call 9; refine (toLab_any [.bool x0.1, .int .i64 x0.2.1.1, .slice Aa0BaseOps na0BaseOps ca0BaseOps, .slice Aa0Facts na0Facts ca0Facts, .int .i64 x0.2.2.2] x0 _ (shLab.stab g0 (by first | exact Tk.block | exact (Below.drew Tk).block)) hn0).mono ?_; rintro e wn ⟨csn0, bn0, rfl, On, In, hbn⟩; have Rn0 := shLab.ord On; clear On In; replace Tk := below_next (by first | exact Tk | exact Below.drew Tk) hbn rfl) | (go_at_call 11; refine (eqLab_any [.bool x0.1, .int .i64 x0.2.1.1, .slice Ax0BaseOps nx0BaseOps cx0BaseOps, .slice Ax0Facts nx0Facts cx0Facts, .int .i64 x0.2.2.2] csn0 x0 x0 _ (shLab.stab Rx0 (by first | exact Tk.block | exact (Below.drew Tk).block)) (by first | exact Rn0 | exact shLab.stab Rn0 (below_drewN (Below.refl _ _) 1).block)).mono ?_; rintro e w9 ⟨rfl, hbn⟩; replace Tk := below_next (by first | exact Tk | exact Below.drew Tk) hbn rfl; rw [eqC_self]))
  have hb9 := Tk
  have zw9 : w8.heap.size ≤ w9.heap.size := hb9.size
  replace T0 := below_next T0 hb9 rfl
  replace Tw := below_next Tw hb9 rfl
  replace Ox0 := Sh.onext Ox0 hb9
  replace Og := Sh.onext Og hb9
  replace P0 := P0.next hb9
  replace X0 := X0.next hb9
  clear hb9 Tk cP0_0 cP0_1 cP0_2 cP0_3 cP0_4 cX0_0 cX0_1 cX0_2 cX0_3 cX0_4
  clear g0 Rx0
  try clear Rn0 hbn
  have k0_0 : (0 : Int) ≤ 1 := by omega
  have hm0 : msLab x0 ≤ 4194304 := mcle_stLab hn0
  have cP0_0 := P0.cell 0
  have cP0_1 := P0.cell 1
  have cP0_2 := P0.cell 2
  have cP0_3 := P0.cell 3
  have cP0_4 := P0.cell 4
  have cX0_0 := X0.cell 0
  have cX0_1 := X0.cell 1
  have cX0_2 := X0.cell 2
  have cX0_3 := X0.cell 3
  have cX0_4 := X0.cell 4
  simp only [List.getElem?_toArray, List.getElem?_cons_zero, List.getElem?_cons_succ] at cP0_0 cP0_1 cP0_2 cP0_3 cP0_4 cX0_0 cX0_1 cX0_2 cX0_3 cX0_4
  go_wp2_with fail
  clear cP0_0 cP0_1 cP0_2 cP0_3 cP0_4 cX0_0 cX0_1 cX0_2 cX0_3 cX0_4
  refine (markLab_any [.bool x0.1, .int .i64 x0.2.1.1, .slice Ax0BaseOps nx0BaseOps cx0BaseOps, .slice Ax0Facts nx0Facts cx0Facts, .int .i64 x0.2.2.2] x0 blx0 (1) _ Ox0 Ix0.1 (by omega) (by omega)).mono ?_
  rintro e w10 ⟨rfl, -, hb10⟩
  have hg10 := hb10.chg (lo := w4.heap.size) (hi := w5.heap.size) Ix0.2
  have zw10 : w9.heap.size ≤ w10.heap.size := hg10.size
  replace T0 := T0.trans (hg10.below (by omega) (by have := T0.size; omega))
  replace Tw := Tw.trans (hg10.below (by omega) (by have := Tw.size; omega))
  replace Og := Sh.okept Og Ig hg10 (by omega)
  replace P0 := P0.chg' hg10 (by omega)
  replace X0 := X0.chg' hg10 (by omega)
  clear hb10 hg10
  clear Ox0
  have hk0 : ¬ (1 + ((msLab x0 : Nat) : Int) < (0 : Int)) := by omega
  have cP0_0 := P0.cell 0
  have cP0_1 := P0.cell 1
  have cP0_2 := P0.cell 2
  have cP0_3 := P0.cell 3
  have cP0_4 := P0.cell 4
  have cX0_0 := X0.cell 0
  have cX0_1 := X0.cell 1
  have cX0_2 := X0.cell 2
  have cX0_3 := X0.cell 3
  have cX0_4 := X0.cell 4
  simp only [List.getElem?_toArray, List.getElem?_cons_zero, List.getElem?_cons_succ] at cP0_0 cP0_1 cP0_2 cP0_3 cP0_4 cX0_0 cX0_1 cX0_2 cX0_3 cX0_4
  go_wp2_with fail
  clear cP0_0 cP0_1 cP0_2 cP0_3 cP0_4 cX0_0 cX0_1 cX0_2 cX0_3 cX0_4
  refine (eqIl_any vg vw mo0 mo0 _ ((Sh.il 3).ord Og) ((Sh.il 3).stab Rw Tw.block)).mono ?_
  rintro e w11 ⟨rfl, hb11⟩
  rw [eqC_self]
  have zw11 : w10.heap.size ≤ w11.heap.size := hb11.size
  replace T0 := below_next T0 hb11 rfl
  replace Tw := below_next Tw hb11 rfl
  replace Og := Sh.onext Og hb11
  replace P0 := P0.next hb11
  replace X0 := X0.next hb11
  clear hb11
  have hmr : mo0.length ≤ 4194304 := by rw [← HMO0.out]; exact fkM_len hn0
  have cP0_0 := P0.cell 0
  have cP0_1 := P0.cell 1
  have cP0_2 := P0.cell 2
  have cP0_3 := P0.cell 3
  have cP0_4 := P0.cell 4
  have cX0_0 := X0.cell 0
  have cX0_1 := X0.cell 1
  have cX0_2 := X0.cell 2
  have cX0_3 := X0.cell 3
  have cX0_4 := X0.cell 4
  simp only [List.getElem?_toArray, List.getElem?_cons_zero, List.getElem?_cons_succ] at cP0_0 cP0_1 cP0_2 cP0_3 cP0_4 cX0_0 cX0_1 cX0_2 cX0_3 cX0_4
  go_wp2_with fail
  clear cP0_0 cP0_1 cP0_2 cP0_3 cP0_4 cX0_0 cX0_1 cX0_2 cX0_3 cX0_4
  refine (markIl_any vg mo0 blg 1 _ Og (by omega) (by omega)).mono ?_
  rintro e w12 ⟨rfl, Om, hb12⟩
  have hg12 := hb12.chg (lo := w6.heap.size) (hi := w7.heap.size) Ig.2
  have zw12 : w11.heap.size ≤ w12.heap.size := hg12.size
  replace T0 := T0.trans (hg12.below (by omega) (by have := T0.size; omega))
  replace Tw := Tw.trans (hg12.below (by omega) (by have := Tw.size; omega))
  replace P0 := P0.chg' hg12 (by omega)
  replace X0 := X0.chg' hg12 (by omega)
  clear hb12 hg12
  clear Og
  have hq0 : ¬ (1 + ((mo0.length : Nat) : Int) < 0) := by omega
  have hqq : ((1 + ((mo0.length : Nat) : Int)) != (1 + ((mo0.length : Nat) : Int))) = false := by simp
  have cP0_0 := P0.cell 0
  have cP0_1 := P0.cell 1
  have cP0_2 := P0.cell 2
  have cP0_3 := P0.cell 3
  have cP0_4 := P0.cell 4
  have cX0_0 := X0.cell 0
  have cX0_1 := X0.cell 1
  have cX0_2 := X0.cell 2
  have cX0_3 := X0.cell 3
  have cX0_4 := X0.cell 4
  simp only [List.getElem?_toArray, List.getElem?_cons_zero, List.getElem?_cons_succ] at cP0_0 cP0_1 cP0_2 cP0_3 cP0_4 cX0_0 cX0_1 cX0_2 cX0_3 cX0_4
  go_wp2_with fail
  clear cP0_0 cP0_1 cP0_2 cP0_3 cP0_4 cX0_0 cX0_1 cX0_2 cX0_3 cX0_4
  refine (heldIv_any vg mo0 1 _ ((Sh.il 3).ord Om) (by omega) (by omega)).mono ?_
  rintro e w13 ⟨rfl, hb13⟩
  have zw13 : w12.heap.size ≤ w13.heap.size := hb13.size
  replace T0 := below_next T0 hb13 rfl
  replace Tw := below_next Tw hb13 rfl
  replace Om := Sh.onext Om hb13
  replace P0 := P0.next hb13
  replace X0 := X0.next hb13
  clear hb13
  have cP0_0 := P0.cell 0
  have cP0_1 := P0.cell 1
  have cP0_2 := P0.cell 2
  have cP0_3 := P0.cell 3
  have cP0_4 := P0.cell 4
  have cX0_0 := X0.cell 0
  have cX0_1 := X0.cell 1
  have cX0_2 := X0.cell 2
  have cX0_3 := X0.cell 3
  have cX0_4 := X0.cell 4
  simp only [List.getElem?_toArray, List.getElem?_cons_zero, List.getElem?_cons_succ] at cP0_0 cP0_1 cP0_2 cP0_3 cP0_4 cX0_0 cX0_1 cX0_2 cX0_3 cX0_4
  go_wp2_with fail
  clear cP0_0 cP0_1 cP0_2 cP0_3 cP0_4 cX0_0 cX0_1 cX0_2 cX0_3 cX0_4
  refine (toLab_any [.bool x0.1, .int .i64 x0.2.1.1, .slice Aa0BaseOps na0BaseOps ca0BaseOps, .slice Aa0Facts na0Facts ca0Facts, .int .i64 x0.2.2.2] x0 _ (shLab.stab h0 T0.block) hn0).mono ?_
  rintro e w14 ⟨csh0, blh0, rfl, Oh0, Ih0, hb14⟩
  have zw14 : w13.heap.size ≤ w14.heap.size := hb14.size
  replace T0 := below_next T0 hb14 rfl
  replace Tw := below_next Tw hb14 rfl
  replace Om := Sh.onext Om hb14
  replace P0 := P0.next hb14
  replace X0 := X0.next hb14
  clear hb14
  obtain ⟨Ah0BaseOps, nh0BaseOps, ch0BaseOps, Ah0Facts, nh0Facts, ch0Facts, rfl, -, -, -, -⟩ := rdLab (shLab.ord Oh0)
  have cP0_0 := P0.cell 0
  have cP0_1 := P0.cell 1
  have cP0_2 := P0.cell 2
  have cP0_3 := P0.cell 3
  have cP0_4 := P0.cell 4
  have cX0_0 := X0.cell 0
  have cX0_1 := X0.cell 1
  have cX0_2 := X0.cell 2
  have cX0_3 := X0.cell 3
  have cX0_4 := X0.cell 4
  simp only [List.getElem?_toArray, List.getElem?_cons_zero, List.getElem?_cons_succ] at cP0_0 cP0_1 cP0_2 cP0_3 cP0_4 cX0_0 cX0_1 cX0_2 cX0_3 cX0_4
  go_wp2_with fail
  clear cP0_0 cP0_1 cP0_2 cP0_3 cP0_4 cX0_0 cX0_1 cX0_2 cX0_3 cX0_4
  refine (implFK_any [.bool x0.1, .int .i64 x0.2.1.1, .slice Ah0BaseOps nh0BaseOps ch0BaseOps, .slice Ah0Facts nh0Facts ch0Facts, .int .i64 x0.2.2.2] x0 x1 _ (shLab.ord Oh0) (by first | exact capLab Oh0 | exact capLab Ox0)).mono ?_
  rintro e w15 ⟨vh, blh, rfl, Oh, Ih, hb15⟩
  rw [HMO1.out]
  have zw15 : w14.heap.size ≤ w15.heap.size := hb15.size
  replace T0 := below_next T0 hb15 rfl
  replace Tw := below_next Tw hb15 rfl
  replace Om := Sh.onext Om hb15
  replace Oh0 := Sh.onext Oh0 hb15
  replace P0 := P0.next hb15
  replace X0 := X0.next hb15
  clear hb15
  rw [HMO0.out] at Oh
  clear Oh0 Ih0
  have cP0_0 := P0.cell 0
  have cP0_1 := P0.cell 1
  have cP0_2 := P0.cell 2
  have cP0_3 := P0.cell 3
  have cP0_4 := P0.cell 4
  have cX0_0 := X0.cell 0
  have cX0_1 := X0.cell 1
  have cX0_2 := X0.cell 2
  have cX0_3 := X0.cell 3
  have cX0_4 := X0.cell 4
  simp only [List.getElem?_toArray, List.getElem?_cons_zero, List.getElem?_cons_succ] at cP0_0 cP0_1 cP0_2 cP0_3 cP0_4 cX0_0 cX0_1 cX0_2 cX0_3 cX0_4
  go_wp2_with fail
  clear cP0_0 cP0_1 cP0_2 cP0_3 cP0_4 cX0_0 cX0_1 cX0_2 cX0_3 cX0_4
  refine (eqIl_any vh vw mo0 mo0 _ ((Sh.il 3).ord Oh) ((Sh.il 3).stab Rw Tw.block)).mono ?_
  rintro e w16 ⟨rfl, hb16⟩
  rw [eqC_self]
  have zw16 : w15.heap.size ≤ w16.heap.size := hb16.size
  replace T0 := below_next T0 hb16 rfl
  replace Tw := below_next Tw hb16 rfl
  replace Om := Sh.onext Om hb16
  replace Oh := Sh.onext Oh hb16
  replace P0 := P0.next hb16
  replace X0 := X0.next hb16
  clear hb16
  have cP0_0 := P0.cell 0
  have cP0_1 := P0.cell 1
  have cP0_2 := P0.cell 2
  have cP0_3 := P0.cell 3
  have cP0_4 := P0.cell 4
  have cX0_0 := X0.cell 0
  have cX0_1 := X0.cell 1
  have cX0_2 := X0.cell 2
  have cX0_3 := X0.cell 3
  have cX0_4 := X0.cell 4
  simp only [List.getElem?_toArray, List.getElem?_cons_zero, List.getElem?_cons_succ] at cP0_0 cP0_1 cP0_2 cP0_3 cP0_4 cX0_0 cX0_1 cX0_2 cX0_3 cX0_4
  go_wp2_with fail
  clear cP0_0 cP0_1 cP0_2 cP0_3 cP0_4 cX0_0 cX0_1 cX0_2 cX0_3 cX0_4
  refine (heldIv_any vg mo0 1 _ ((Sh.il 3).ord Om) (by omega) (by omega)).mono ?_
  rintro e w17 ⟨rfl, hb17⟩
  have zw17 : w16.heap.size ≤ w17.heap.size := hb17.size
  replace T0 := below_next T0 hb17 rfl
  replace Tw := below_next Tw hb17 rfl
  replace Om := Sh.onext Om hb17
  replace Oh := Sh.onext Oh hb17
  replace P0 := P0.next hb17
  replace X0 := X0.next hb17
  clear hb17
  have cP0_0 := P0.cell 0
  have cP0_1 := P0.cell 1
  have cP0_2 := P0.cell 2
  have cP0_3 := P0.cell 3
  have cP0_4 := P0.cell 4
  have cX0_0 := X0.cell 0
  have cX0_1 := X0.cell 1
  have cX0_2 := X0.cell 2
  have cX0_3 := X0.cell 3
  have cX0_4 := X0.cell 4
  simp only [List.getElem?_toArray, List.getElem?_cons_zero, List.getElem?_cons_succ] at cP0_0 cP0_1 cP0_2 cP0_3 cP0_4 cX0_0 cX0_1 cX0_2 cX0_3 cX0_4
  go_wp2_with fail
  clear cP0_0 cP0_1 cP0_2 cP0_3 cP0_4 cX0_0 cX0_1 cX0_2 cX0_3 cX0_4
  go_ret
  exact ⟨rfl, T0⟩
end Go.Proofs.YtkmcdocbdhhfhaaGreat
