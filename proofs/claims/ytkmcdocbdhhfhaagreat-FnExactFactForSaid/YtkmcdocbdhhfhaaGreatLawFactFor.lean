
/- The walk of the law FnExactFactFor. Printed by genlaw3.py. -/
import Derived.Test.YtkmcdocbdhhfhaaGreatLabW
import Derived.Deep.RegionHeld3
import Derived.Deep.DeepCutAuto
namespace Go.Proofs.YtkmcdocbdhhfhaaGreat
open Go.RowKit

set_option linter.unusedVariables false in
set_option maxRecDepth 100000 in
set_option maxHeartbeats 16000000 in
theorem lawFactFor (cs0 : List Value) (x0 : LabM) (cs1 : List Value) (x1 : FactM) (w : World) (h0 : shLab.rd w cs0 x0) (h1 : shFact.rd w cs1 x1) :
    Calls Tryz.prog 4 #[.agg cs0.toArray, .agg cs1.toArray] w (Bl w (.bool true)) := by
  have hh0 := h0
  obtain ⟨Aa0BaseOps, na0BaseOps, ca0BaseOps, Aa0Facts, na0Facts, ca0Facts, rfl, qa0BaseSize, qa0BaseOps, qa0Facts, qa0Refused⟩ := rdLab hh0
  clear hh0
  have hh1 := h1
  obtain ⟨Aa1EqLeft, na1EqLeft, ca1EqLeft, Aa1EqRight, na1EqRight, ca1EqRight, Aa1List, na1List, ca1List, rfl, qa1Kind, qa1EqLeft, qa1EqRight, qa1List⟩ := rdFact hh1
  clear hh1
  have T0 : Below w.heap.size w w := Below.refl _ _
  obtain ⟨w1, HW1', hb1, hsz1, P0, P1⟩ := boxes2 w #[.bool x0.1, .int .i64 x0.2.1.1, .slice Aa0BaseOps na0BaseOps ca0BaseOps, .slice Aa0Facts na0Facts ca0Facts, .int .i64 x0.2.2.2] #[.int .i64 x1.1, .slice Aa1EqLeft na1EqLeft ca1EqLeft, .slice Aa1EqRight na1EqRight ca1EqRight, .slice Aa1List na1List ca1List] 27 43
  have HW1 := Lib.hid HW1'
  clear HW1'
  have zw1 : w.heap.size ≤ w1.heap.size := hb1.size
  replace T0 := below_next T0 hb1 rfl
  clear hb1
  have L0 : (0 : Int) ≤ 1048576 ∧ (1048576 : Int) ≤ 1048576 := by omega
  go_enter Tryz.func4, Tryz.ntmps4
  have cP0_0 := P0.cell 0
  have cP0_1 := P0.cell 1
  have cP0_2 := P0.cell 2
  have cP0_3 := P0.cell 3
  have cP0_4 := P0.cell 4
  have cP1_0 := P1.cell 0
  have cP1_1 := P1.cell 1
  have cP1_2 := P1.cell 2
  have cP1_3 := P1.cell 3
  simp only [List.getElem?_toArray, List.getElem?_cons_zero, List.getElem?_cons_succ] at cP0_0 cP0_1 cP0_2 cP0_3 cP0_4 cP1_0 cP1_1 cP1_2 cP1_3
  rw [HW1.out] at cP0_0
  rw [HW1.out] at cP0_1
  rw [HW1.out] at cP0_2
  rw [HW1.out] at cP0_3
  rw [HW1.out] at cP0_4
  rw [HW1.out] at cP1_0
  rw [HW1.out] at cP1_1
  rw [HW1.out] at cP1_2
  rw [HW1.out] at cP1_3
  go_wp2_with fail
  rw [← HW1.out]
  clear cP0_0 cP0_1 cP0_2 cP0_3 cP0_4 cP1_0 cP1_1 cP1_2 cP1_3
  refine (szLab_any [.bool x0.1, .int .i64 x0.2.1.1, .slice Aa0BaseOps na0BaseOps ca0BaseOps, .slice Aa0Facts na0Facts ca0Facts, .int .i64 x0.2.2.2] x0 1048576 _ (shLab.stab h0 T0.block) L0.1 L0.2).mono ?_
  rintro e w2 ⟨rfl, hb2⟩
  have zw2 : w1.heap.size ≤ w2.heap.size := hb2.size
  replace T0 := below_next T0 hb2 rfl
  replace P0 := P0.next hb2
  replace P1 := P1.next hb2
  clear hb2
  obtain ⟨l0, HL0⟩ : ∃ l, Hid (szR (shLab.cnt x0) 1048576 = l) := ⟨_, rfl⟩
  have bd0 := szR_bd (shLab.cnt x0) (left := 1048576) L0.1
  rw [HL0.out] at bd0 ⊢
  by_cases z0 : l0 < 0
  · go_wp2_with fail
    go_ret
    exact ⟨rfl, T0⟩
  have hn0 : (shLab.cnt x0) ≤ 1048576 := by have := szR_ok (a := (shLab.cnt x0)) (left := 1048576) (by rw [HL0.out]; exact z0); omega
  have M0 : 0 ≤ l0 ∧ l0 ≤ 1048576 := by omega
  clear bd0
  have cP0_0 := P0.cell 0
  have cP0_1 := P0.cell 1
  have cP0_2 := P0.cell 2
  have cP0_3 := P0.cell 3
  have cP0_4 := P0.cell 4
  have cP1_0 := P1.cell 0
  have cP1_1 := P1.cell 1
  have cP1_2 := P1.cell 2
  have cP1_3 := P1.cell 3
  simp only [List.getElem?_toArray, List.getElem?_cons_zero, List.getElem?_cons_succ] at cP0_0 cP0_1 cP0_2 cP0_3 cP0_4 cP1_0 cP1_1 cP1_2 cP1_3
  go_wp2_with fail
  clear cP0_0 cP0_1 cP0_2 cP0_3 cP0_4 cP1_0 cP1_1 cP1_2 cP1_3
  refine (szFact_any [.int .i64 x1.1, .slice Aa1EqLeft na1EqLeft ca1EqLeft, .slice Aa1EqRight na1EqRight ca1EqRight, .slice Aa1List na1List ca1List] x1 l0 _ (shFact.stab h1 T0.block) M0.1 M0.2).mono ?_
  rintro e w3 ⟨rfl, hb3⟩
  have zw3 : w2.heap.size ≤ w3.heap.size := hb3.size
  replace T0 := below_next T0 hb3 rfl
  replace P0 := P0.next hb3
  replace P1 := P1.next hb3
  clear hb3
  obtain ⟨l1, HL1⟩ : ∃ l, Hid (szR (shFact.cnt x1) l0 = l) := ⟨_, rfl⟩
  have bd1 := szR_bd (shFact.cnt x1) (left := l0) M0.1
  rw [HL1.out] at bd1 ⊢
  by_cases z1 : l1 < 0
  · go_wp2_with fail
    go_ret
    exact ⟨rfl, T0⟩
  have hn1 : (shFact.cnt x1) ≤ 1048576 := by have := szR_ok (a := (shFact.cnt x1)) (left := l0) (by rw [HL1.out]; exact z1); omega
  have M1 : 0 ≤ l1 ∧ l1 ≤ 1048576 := by omega
  clear bd1
  obtain ⟨mo0, HMO0⟩ : ∃ b, Hid ((ffM x0 x1).1 = b) := ⟨_, rfl⟩
  have hbb0 : (mo0 != mo0) = false := by simp
  obtain ⟨mo1, HMO1⟩ : ∃ b, Hid ((ffM x0 x1).2 = b) := ⟨_, rfl⟩
  have hbb1 := bne_self mo1
  have g0 := (shLab.stab h0 T0.block)
  have g1 := (shFact.stab h1 T0.block)
  have cP0_0 := P0.cell 0
  have cP0_1 := P0.cell 1
  have cP0_2 := P0.cell 2
  have cP0_3 := P0.cell 3
  have cP0_4 := P0.cell 4
  have cP1_0 := P1.cell 0
  have cP1_1 := P1.cell 1
  have cP1_2 := P1.cell 2
  have cP1_3 := P1.cell 3
  simp only [List.getElem?_toArray, List.getElem?_cons_zero, List.getElem?_cons_succ] at cP0_0 cP0_1 cP0_2 cP0_3 cP0_4 cP1_0 cP1_1 cP1_2 cP1_3
  go_upto_region 8 with fail
  clear cP0_0 cP0_1 cP0_2 cP0_3 cP0_4 cP1_0 cP1_1 cP1_2 cP1_3
  have cP0_0 := P0.cell 0
  have cP0_1 := P0.cell 1
  have cP0_2 := P0.cell 2
  have cP0_3 := P0.cell 3
  have cP0_4 := P0.cell 4
  have cP1_0 := P1.cell 0
  have cP1_1 := P1.cell 1
  have cP1_2 := P1.cell 2
  have cP1_3 := P1.cell 3
  simp only [List.getElem?_toArray, List.getElem?_cons_zero, List.getElem?_cons_succ] at cP0_0 cP0_1 cP0_2 cP0_3 cP0_4 cP1_0 cP1_1 cP1_2 cP1_3
  have Tk : Below w3.heap.size w3 w3 := Below.refl _ _
  go_cut [6, 7] (fun u6 u7 wx => u6 = .int .i64 mo0 ∧ u7 = .bool mo1 ∧ Below w3.heap.size w3 wx)
  case first =>
    go_region_held3 (fun w' => w'.cell? ⟨w.heap.size, 0, none⟩ = some (.bool x0.1) ∧ w'.cell? ⟨w.heap.size, 1, none⟩ = some (.int .i64 x0.2.1.1) ∧ w'.cell? ⟨w.heap.size, 2, none⟩ = some (.slice Aa0BaseOps na0BaseOps ca0BaseOps) ∧ w'.cell? ⟨w.heap.size, 3, none⟩ = some (.slice Aa0Facts na0Facts ca0Facts) ∧ w'.cell? ⟨w.heap.size, 4, none⟩ = some (.int .i64 x0.2.2.2) ∧ w'.cell? ⟨(w.heap.size + 1), 0, none⟩ = some (.int .i64 x1.1) ∧ w'.cell? ⟨(w.heap.size + 1), 1, none⟩ = some (.slice Aa1EqLeft na1EqLeft ca1EqLeft) ∧ w'.cell? ⟨(w.heap.size + 1), 2, none⟩ = some (.slice Aa1EqRight na1EqRight ca1EqRight) ∧ w'.cell? ⟨(w.heap.size + 1), 3, none⟩ = some (.slice Aa1List na1List ca1List)) (first | go_keep | exact ⟨keepc Tk cP0_0, keepc Tk cP0_1, keepc Tk cP0_2, keepc Tk cP0_3, keepc Tk cP0_4, keepc Tk cP1_0, keepc Tk cP1_1, keepc Tk cP1_2, keepc Tk cP1_3⟩) (first | (go_at_call 9; refine (toLab_any [.bool x0.1, .int .i64 x0.2.1.1, .slice Aa0BaseOps na0BaseOps ca0BaseOps, .slice Aa0Facts na0Facts ca0Facts, .int .i64 x0.2.2.2] x0 _ (shLab.stab g0 (by first | exact Tk.block | exact (Below.drew Tk).block)) hn0).mono ?_; rintro e wn ⟨csn0, bn0, rfl, On, In, hbn⟩; have Rn0 := shLab.ord On; clear On In; replace Tk := below_next (by first | exact Tk | exact Below.drew Tk) hbn rfl; (try replace Rn1 := shFact.stab Rn1 hbn.block)) | (go_at_call 14; refine (toFact_any [.int .i64 x1.1, .slice Aa1EqLeft na1EqLeft ca1EqLeft, .slice Aa1EqRight na1EqRight ca1EqRight, .slice Aa1List na1List ca1List] x1 _ (shFact.stab g1 (by first | exact Tk.block | exact (Below.drew Tk).block)) hn1).mono ?_; rintro e wn ⟨csn1, bn1, rfl, On, In, hbn⟩; have Rn1 := shFact.ord On; clear On In; replace Tk := below_next (by first | exact Tk | exact Below.drew Tk) hbn rfl; (try replace Rn0 := shLab.stab Rn0 hbn.block)) | (go_at_call 13; refine (specFF_any csn0 csn1 x0 x1 _ Rn0 Rn1).mono ?_; rintro e wn ⟨rfl, hbn⟩; replace Tk := below_next (by first | exact Tk | exact Below.drew Tk) hbn rfl; rw [HMO0.out, HMO1.out]))
    all_goals (go_wp2_with fail; go_meet; exact ⟨rfl, rfl, Tk⟩)
  case rest =>
    obtain ⟨rfl, rfl, hb4⟩ := hcut
    obtain ⟨w4, HWC⟩ : ∃ wq : World, wq = wc := ⟨_, rfl⟩
    subst HWC
    have zw4 : w3.heap.size ≤ w4.heap.size := hb4.size
    replace T0 := below_next T0 hb4 rfl
    replace P0 := P0.next hb4
    replace P1 := P1.next hb4
    clear hb4 Tk cP0_0 cP0_1 cP0_2 cP0_3 cP0_4 cP1_0 cP1_1 cP1_2 cP1_3
    clear g0
    clear g1
    have cP0_0 := P0.cell 0
    have cP0_1 := P0.cell 1
    have cP0_2 := P0.cell 2
    have cP0_3 := P0.cell 3
    have cP0_4 := P0.cell 4
    have cP1_0 := P1.cell 0
    have cP1_1 := P1.cell 1
    have cP1_2 := P1.cell 2
    have cP1_3 := P1.cell 3
    simp only [List.getElem?_toArray, List.getElem?_cons_zero, List.getElem?_cons_succ] at cP0_0 cP0_1 cP0_2 cP0_3 cP0_4 cP1_0 cP1_1 cP1_2 cP1_3
    go_wp2_with fail
    clear cP0_0 cP0_1 cP0_2 cP0_3 cP0_4 cP1_0 cP1_1 cP1_2 cP1_3
    refine (toLab_any [.bool x0.1, .int .i64 x0.2.1.1, .slice Aa0BaseOps na0BaseOps ca0BaseOps, .slice Aa0Facts na0Facts ca0Facts, .int .i64 x0.2.2.2] x0 _ (shLab.stab h0 T0.block) hn0).mono ?_
    rintro e w5 ⟨csx0, blx0, rfl, Ox0, Ix0, hb5⟩
    have zw5 : w4.heap.size ≤ w5.heap.size := hb5.size
    replace T0 := below_next T0 hb5 rfl
    replace P0 := P0.next hb5
    replace P1 := P1.next hb5
    clear hb5
    obtain ⟨Ax0BaseOps, nx0BaseOps, cx0BaseOps, Ax0Facts, nx0Facts, cx0Facts, rfl, -, -, -, -⟩ := rdLab (shLab.ord Ox0)
    obtain ⟨w6, HW6⟩ : ∃ wb, Hid (wb = w5.alloc (.cells #[.bool x0.1, .int .i64 x0.2.1.1, .slice Ax0BaseOps nx0BaseOps cx0BaseOps, .slice Ax0Facts nx0Facts cx0Facts, .int .i64 x0.2.2.2] 35)) := ⟨_, rfl⟩
    have hb6 : Below w5.heap.size w5 w6 := by rw [HW6.out]; exact below_box _ _
    have X0 : Blk w6 w5.heap.size 35 #[.bool x0.1, .int .i64 x0.2.1.1, .slice Ax0BaseOps nx0BaseOps cx0BaseOps, .slice Ax0Facts nx0Facts cx0Facts, .int .i64 x0.2.2.2] := by rw [HW6.out]; exact Blk.new _ _ _
    have yw6 : w5.heap.size < w6.heap.size := X0.lt
    have zw6 : w5.heap.size ≤ w6.heap.size := hb6.size
    replace T0 := below_next T0 hb6 rfl
    replace Ox0 := Sh.onext Ox0 hb6
    replace P0 := P0.next hb6
    replace P1 := P1.next hb6
    clear hb6
    have cP0_0 := P0.cell 0
    have cP0_1 := P0.cell 1
    have cP0_2 := P0.cell 2
    have cP0_3 := P0.cell 3
    have cP0_4 := P0.cell 4
    have cP1_0 := P1.cell 0
    have cP1_1 := P1.cell 1
    have cP1_2 := P1.cell 2
    have cP1_3 := P1.cell 3
    have cX0_0 := X0.cell 0
    have cX0_1 := X0.cell 1
    have cX0_2 := X0.cell 2
    have cX0_3 := X0.cell 3
    have cX0_4 := X0.cell 4
    simp only [List.getElem?_toArray, List.getElem?_cons_zero, List.getElem?_cons_succ] at cP0_0 cP0_1 cP0_2 cP0_3 cP0_4 cP1_0 cP1_1 cP1_2 cP1_3 cX0_0 cX0_1 cX0_2 cX0_3 cX0_4
    rw [HW6.out] at cP0_0
    rw [HW6.out] at cP0_1
    rw [HW6.out] at cP0_2
    rw [HW6.out] at cP0_3
    rw [HW6.out] at cP0_4
    rw [HW6.out] at cP1_0
    rw [HW6.out] at cP1_1
    rw [HW6.out] at cP1_2
    rw [HW6.out] at cP1_3
    rw [HW6.out] at cX0_0
    rw [HW6.out] at cX0_1
    rw [HW6.out] at cX0_2
    rw [HW6.out] at cX0_3
    rw [HW6.out] at cX0_4
    go_wp2_with fail
    rw [← HW6.out]
    clear cP0_0 cP0_1 cP0_2 cP0_3 cP0_4 cP1_0 cP1_1 cP1_2 cP1_3 cX0_0 cX0_1 cX0_2 cX0_3 cX0_4
    refine (toFact_any [.int .i64 x1.1, .slice Aa1EqLeft na1EqLeft ca1EqLeft, .slice Aa1EqRight na1EqRight ca1EqRight, .slice Aa1List na1List ca1List] x1 _ (shFact.stab h1 T0.block) hn1).mono ?_
    rintro e w7 ⟨csx1, blx1, rfl, Ox1, Ix1, hb7⟩
    have zw7 : w6.heap.size ≤ w7.heap.size := hb7.size
    replace T0 := below_next T0 hb7 rfl
    replace Ox0 := Sh.onext Ox0 hb7
    replace P0 := P0.next hb7
    replace P1 := P1.next hb7
    replace X0 := X0.next hb7
    clear hb7
    obtain ⟨Ax1EqLeft, nx1EqLeft, cx1EqLeft, Ax1EqRight, nx1EqRight, cx1EqRight, Ax1List, nx1List, cx1List, rfl, -, -, -, -⟩ := rdFact (shFact.ord Ox1)
    obtain ⟨w8, HW8⟩ : ∃ wb, Hid (wb = w7.alloc (.cells #[.int .i64 x1.1, .slice Ax1EqLeft nx1EqLeft cx1EqLeft, .slice Ax1EqRight nx1EqRight cx1EqRight, .slice Ax1List nx1List cx1List] 49)) := ⟨_, rfl⟩
    have hb8 : Below w7.heap.size w7 w8 := by rw [HW8.out]; exact below_box _ _
    have X1 : Blk w8 w7.heap.size 49 #[.int .i64 x1.1, .slice Ax1EqLeft nx1EqLeft cx1EqLeft, .slice Ax1EqRight nx1EqRight cx1EqRight, .slice Ax1List nx1List cx1List] := by rw [HW8.out]; exact Blk.new _ _ _
    have yw8 : w7.heap.size < w8.heap.size := X1.lt
    have zw8 : w7.heap.size ≤ w8.heap.size := hb8.size
    replace T0 := below_next T0 hb8 rfl
    replace Ox0 := Sh.onext Ox0 hb8
    replace Ox1 := Sh.onext Ox1 hb8
    replace P0 := P0.next hb8
    replace P1 := P1.next hb8
    replace X0 := X0.next hb8
    clear hb8
    have cP0_0 := P0.cell 0
    have cP0_1 := P0.cell 1
    have cP0_2 := P0.cell 2
    have cP0_3 := P0.cell 3
    have cP0_4 := P0.cell 4
    have cP1_0 := P1.cell 0
    have cP1_1 := P1.cell 1
    have cP1_2 := P1.cell 2
    have cP1_3 := P1.cell 3
    have cX0_0 := X0.cell 0
    have cX0_1 := X0.cell 1
    have cX0_2 := X0.cell 2
    have cX0_3 := X0.cell 3
    have cX0_4 := X0.cell 4
    have cX1_0 := X1.cell 0
    have cX1_1 := X1.cell 1
    have cX1_2 := X1.cell 2
    have cX1_3 := X1.cell 3
    simp only [List.getElem?_toArray, List.getElem?_cons_zero, List.getElem?_cons_succ] at cP0_0 cP0_1 cP0_2 cP0_3 cP0_4 cP1_0 cP1_1 cP1_2 cP1_3 cX0_0 cX0_1 cX0_2 cX0_3 cX0_4 cX1_0 cX1_1 cX1_2 cX1_3
    rw [HW8.out] at cP0_0
    rw [HW8.out] at cP0_1
    rw [HW8.out] at cP0_2
    rw [HW8.out] at cP0_3
    rw [HW8.out] at cP0_4
    rw [HW8.out] at cP1_0
    rw [HW8.out] at cP1_1
    rw [HW8.out] at cP1_2
    rw [HW8.out] at cP1_3
    rw [HW8.out] at cX0_0
    rw [HW8.out] at cX0_1
    rw [HW8.out] at cX0_2
    rw [HW8.out] at cX0_3
    rw [HW8.out] at cX0_4
    rw [HW8.out] at cX1_0
    rw [HW8.out] at cX1_1
    rw [HW8.out] at cX1_2
    rw [HW8.out] at cX1_3
    go_wp2_with fail
    rw [← HW8.out]
    clear cP0_0 cP0_1 cP0_2 cP0_3 cP0_4 cP1_0 cP1_1 cP1_2 cP1_3 cX0_0 cX0_1 cX0_2 cX0_3 cX0_4 cX1_0 cX1_1 cX1_2 cX1_3
    refine (implFF_any [.bool x0.1, .int .i64 x0.2.1.1, .slice Ax0BaseOps nx0BaseOps cx0BaseOps, .slice Ax0Facts nx0Facts cx0Facts, .int .i64 x0.2.2.2] [.int .i64 x1.1, .slice Ax1EqLeft nx1EqLeft cx1EqLeft, .slice Ax1EqRight nx1EqRight cx1EqRight, .slice Ax1List nx1List cx1List] x0 x1 _ (shLab.ord Ox0) (capLab Ox0) (shFact.ord Ox1)).mono ?_
    rintro e w9 ⟨rfl, hb9⟩
    rw [HMO0.out, HMO1.out]
    have zw9 : w8.heap.size ≤ w9.heap.size := hb9.size
    replace T0 := below_next T0 hb9 rfl
    replace Ox0 := Sh.onext Ox0 hb9
    replace Ox1 := Sh.onext Ox1 hb9
    replace P0 := P0.next hb9
    replace P1 := P1.next hb9
    replace X0 := X0.next hb9
    replace X1 := X1.next hb9
    clear hb9
    have g0 := (shLab.stab h0 T0.block)
    have Rx0 := shLab.ord Ox0
    have cP0_0 := P0.cell 0
    have cP0_1 := P0.cell 1
    have cP0_2 := P0.cell 2
    have cP0_3 := P0.cell 3
    have cP0_4 := P0.cell 4
    have cP1_0 := P1.cell 0
    have cP1_1 := P1.cell 1
    have cP1_2 := P1.cell 2
    have cP1_3 := P1.cell 3
    have cX0_0 := X0.cell 0
    have cX0_1 := X0.cell 1
    have cX0_2 := X0.cell 2
    have cX0_3 := X0.cell 3
    have cX0_4 := X0.cell 4
    have cX1_0 := X1.cell 0
    have cX1_1 := X1.cell 1
    have cX1_2 := X1.cell 2
    have cX1_3 := X1.cell 3
    simp only [List.getElem?_toArray, List.getElem?_cons_zero, List.getElem?_cons_succ] at cP0_0 cP0_1 cP0_2 cP0_3 cP0_4 cP1_0 cP1_1 cP1_2 cP1_3 cX0_0 cX0_1 cX0_2 cX0_3 cX0_4 cX1_0 cX1_1 cX1_2 cX1_3
    go_upto_region 14 with fail
    clear cP0_0 cP0_1 cP0_2 cP0_3 cP0_4 cP1_0 cP1_1 cP1_2 cP1_3 cX0_0 cX0_1 cX0_2 cX0_3 cX0_4 cX1_0 cX1_1 cX1_2 cX1_3
    have cP0_0 := P0.cell 0
    have cP0_1 := P0.cell 1
    have cP0_2 := P0.cell 2
    have cP0_3 := P0.cell 3
    have cP0_4 := P0.cell 4
    have cP1_0 := P1.cell 0
    have cP1_1 := P1.cell 1
    have cP1_2 := P1.cell 2
    have cP1_3 := P1.cell 3
    have cX0_0 := X0.cell 0
    have cX0_1 := X0.cell 1
    have cX0_2 := X0.cell 2
    have cX0_3 := X0.cell 3
    have cX0_4 := X0.cell 4
    have cX1_0 := X1.cell 0
    have cX1_1 := X1.cell 1
    have cX1_2 := X1.cell 2
    have cX1_3 := X1.cell 3
    simp only [List.getElem?_toArray, List.getElem?_cons_zero, List.getElem?_cons_succ] at cP0_0 cP0_1 cP0_2 cP0_3 cP0_4 cP1_0 cP1_1 cP1_2 cP1_3 cX0_0 cX0_1 cX0_2 cX0_3 cX0_4 cX1_0 cX1_1 cX1_2 cX1_3
    have Tk : Below w9.heap.size w9 w9 := Below.refl _ _
    go_region_held3 (fun w' => w'.cell? ⟨w.heap.size, 0, none⟩ = some (.bool x0.1) ∧ w'.cell? ⟨w.heap.size, 1, none⟩ = some (.int .i64 x0.2.1.1) ∧ w'.cell? ⟨w.heap.size, 2, none⟩ = some (.slice Aa0BaseOps na0BaseOps ca0BaseOps) ∧ w'.cell? ⟨w.heap.size, 3, none⟩ = some (.slice Aa0Facts na0Facts ca0Facts) ∧ w'.cell? ⟨w.heap.size, 4, none⟩ = some (.int .i64 x0.2.2.2) ∧ w'.cell? ⟨(w.heap.size + 1), 0, none⟩ = some (.int .i64 x1.1) ∧ w'.cell? ⟨(w.heap.size + 1), 1, none⟩ = some (.slice Aa1EqLeft na1EqLeft ca1EqLeft) ∧ w'.cell? ⟨(w.heap.size + 1), 2, none⟩ = some (.slice Aa1EqRight na1EqRight ca1EqRight) ∧ w'.cell? ⟨(w.heap.size + 1), 3, none⟩ = some (.slice Aa1List na1List ca1List) ∧ w'.cell? ⟨w5.heap.size, 0, none⟩ = some (.bool x0.1) ∧ w'.cell? ⟨w5.heap.size, 1, none⟩ = some (.int .i64 x0.2.1.1) ∧ w'.cell? ⟨w5.heap.size, 2, none⟩ = some (.slice Ax0BaseOps nx0BaseOps cx0BaseOps) ∧ w'.cell? ⟨w5.heap.size, 3, none⟩ = some (.slice Ax0Facts nx0Facts cx0Facts) ∧ w'.cell? ⟨w5.heap.size, 4, none⟩ = some (.int .i64 x0.2.2.2) ∧ w'.cell? ⟨w7.heap.size, 0, none⟩ = some (.int .i64 x1.1) ∧ w'.cell? ⟨w7.heap.size, 1, none⟩ = some (.slice Ax1EqLeft nx1EqLeft cx1EqLeft) ∧ w'.cell? ⟨w7.heap.size, 2, none⟩ = some (.slice Ax1EqRight nx1EqRight cx1EqRight) ∧ w'.cell? ⟨w7.heap.size, 3, none⟩ = some (.slice Ax1List nx1List cx1List)) (first | go_keep | exact ⟨keepc Tk cP0_0, keepc Tk cP0_1, keepc Tk cP0_2, keepc Tk cP0_3, keepc Tk cP0_4, keepc Tk cP1_0, keepc Tk cP1_1, keepc Tk cP1_2, keepc Tk cP1_3, keepc Tk cX0_0, keepc Tk cX0_1, keepc Tk cX0_2, keepc Tk cX0_3, keepc Tk cX0_4, keepc Tk cX1_0, keepc Tk cX1_1, keepc Tk cX1_2, keepc Tk cX1_3⟩) (first | (go_at_call 9; refine (toLab_any [.bool x0.1, .int .i64 x0.2.1.1, .slice Aa0BaseOps na0BaseOps ca0BaseOps, .slice Aa0Facts na0Facts ca0Facts, .int .i64 x0.2.2.2] x0 _ (shLab.stab g0 (by first | exact Tk.block | exact (Below.drew Tk).block)) hn0).mono ?_; rintro e wn ⟨csn0, bn0, rfl, On, In, hbn⟩; have Rn0 := shLab.ord On; clear On In; replace Tk := below_next (by first | exact Tk | exact Below.drew Tk) hbn rfl) | (go_at_call 11; refine (eqLab_any [.bool x0.1, .int .i64 x0.2.1.1, .slice Ax0BaseOps nx0BaseOps cx0BaseOps, .slice Ax0Facts nx0Facts cx0Facts, .int .i64 x0.2.2.2] csn0 x0 x0 _ (shLab.stab Rx0 (by first | exact Tk.block | exact (Below.drew Tk).block)) (by first | exact Rn0 | exact shLab.stab Rn0 (below_drewN (Below.refl _ _) 1).block)).mono ?_; rintro e w10 ⟨rfl, hbn⟩; replace Tk := below_next (by first | exact Tk | exact Below.drew Tk) hbn rfl; rw [eqC_self]))
    have hb10 := Tk
    have zw10 : w9.heap.size ≤ w10.heap.size := hb10.size
    replace T0 := below_next T0 hb10 rfl
    replace Ox0 := Sh.onext Ox0 hb10
    replace Ox1 := Sh.onext Ox1 hb10
    replace P0 := P0.next hb10
    replace P1 := P1.next hb10
    replace X0 := X0.next hb10
    replace X1 := X1.next hb10
    clear hb10 Tk cP0_0 cP0_1 cP0_2 cP0_3 cP0_4 cP1_0 cP1_1 cP1_2 cP1_3 cX0_0 cX0_1 cX0_2 cX0_3 cX0_4 cX1_0 cX1_1 cX1_2 cX1_3
    clear g0 Rx0
    try clear Rn0 hbn
    have g1 := (shFact.stab h1 T0.block)
    have Rx1 := shFact.ord Ox1
    have cP0_0 := P0.cell 0
    have cP0_1 := P0.cell 1
    have cP0_2 := P0.cell 2
    have cP0_3 := P0.cell 3
    have cP0_4 := P0.cell 4
    have cP1_0 := P1.cell 0
    have cP1_1 := P1.cell 1
    have cP1_2 := P1.cell 2
    have cP1_3 := P1.cell 3
    have cX0_0 := X0.cell 0
    have cX0_1 := X0.cell 1
    have cX0_2 := X0.cell 2
    have cX0_3 := X0.cell 3
    have cX0_4 := X0.cell 4
    have cX1_0 := X1.cell 0
    have cX1_1 := X1.cell 1
    have cX1_2 := X1.cell 2
    have cX1_3 := X1.cell 3
    simp only [List.getElem?_toArray, List.getElem?_cons_zero, List.getElem?_cons_succ] at cP0_0 cP0_1 cP0_2 cP0_3 cP0_4 cP1_0 cP1_1 cP1_2 cP1_3 cX0_0 cX0_1 cX0_2 cX0_3 cX0_4 cX1_0 cX1_1 cX1_2 cX1_3
    go_upto_region 16 with fail
    clear cP0_0 cP0_1 cP0_2 cP0_3 cP0_4 cP1_0 cP1_1 cP1_2 cP1_3 cX0_0 cX0_1 cX0_2 cX0_3 cX0_4 cX1_0 cX1_1 cX1_2 cX1_3
    have cP0_0 := P0.cell 0
    have cP0_1 := P0.cell 1
    have cP0_2 := P0.cell 2
    have cP0_3 := P0.cell 3
    have cP0_4 := P0.cell 4
    have cP1_0 := P1.cell 0
    have cP1_1 := P1.cell 1
    have cP1_2 := P1.cell 2
    have cP1_3 := P1.cell 3
    have cX0_0 := X0.cell 0
    have cX0_1 := X0.cell 1
    have cX0_2 := X0.cell 2
    have cX0_3 := X0.cell 3
    have cX0_4 := X0.cell 4
    have cX1_0 := X1.cell 0
    have cX1_1 := X1.cell 1
    have cX1_2 := X1.cell 2
    have cX1_3 := X1.cell 3
    simp only [List.getElem?_toArray, List.getElem?_cons_zero, List.getElem?_cons_succ] at cP0_0 cP0_1 cP0_2 cP0_3 cP0_4 cP1_0 cP1_1 cP1_2 cP1_3 cX0_0 cX0_1 cX0_2 cX0_3 cX0_4 cX1_0 cX1_1 cX1_2 cX1_3
    have Tk : Below w10.heap.size w10 w10 := Below.refl _ _
    go_region_held3 (fun w' => w'.cell? ⟨w.heap.size, 0, none⟩ = some (.bool x0.1) ∧ w'.cell? ⟨w.heap.size, 1, none⟩ = some (.int .i64 x0.2.1.1) ∧ w'.cell? ⟨w.heap.size, 2, none⟩ = some (.slice Aa0BaseOps na0BaseOps ca0BaseOps) ∧ w'.cell? ⟨w.heap.size, 3, none⟩ = some (.slice Aa0Facts na0Facts ca0Facts) ∧ w'.cell? ⟨w.heap.size, 4, none⟩ = some (.int .i64 x0.2.2.2) ∧ w'.cell? ⟨(w.heap.size + 1), 0, none⟩ = some (.int .i64 x1.1) ∧ w'.cell? ⟨(w.heap.size + 1), 1, none⟩ = some (.slice Aa1EqLeft na1EqLeft ca1EqLeft) ∧ w'.cell? ⟨(w.heap.size + 1), 2, none⟩ = some (.slice Aa1EqRight na1EqRight ca1EqRight) ∧ w'.cell? ⟨(w.heap.size + 1), 3, none⟩ = some (.slice Aa1List na1List ca1List) ∧ w'.cell? ⟨w5.heap.size, 0, none⟩ = some (.bool x0.1) ∧ w'.cell? ⟨w5.heap.size, 1, none⟩ = some (.int .i64 x0.2.1.1) ∧ w'.cell? ⟨w5.heap.size, 2, none⟩ = some (.slice Ax0BaseOps nx0BaseOps cx0BaseOps) ∧ w'.cell? ⟨w5.heap.size, 3, none⟩ = some (.slice Ax0Facts nx0Facts cx0Facts) ∧ w'.cell? ⟨w5.heap.size, 4, none⟩ = some (.int .i64 x0.2.2.2) ∧ w'.cell? ⟨w7.heap.size, 0, none⟩ = some (.int .i64 x1.1) ∧ w'.cell? ⟨w7.heap.size, 1, none⟩ = some (.slice Ax1EqLeft nx1EqLeft cx1EqLeft) ∧ w'.cell? ⟨w7.heap.size, 2, none⟩ = some (.slice Ax1EqRight nx1EqRight cx1EqRight) ∧ w'.cell? ⟨w7.heap.size, 3, none⟩ = some (.slice Ax1List nx1List cx1List)) (first | go_keep | exact ⟨keepc Tk cP0_0, keepc Tk cP0_1, keepc Tk cP0_2, keepc Tk cP0_3, keepc Tk cP0_4, keepc Tk cP1_0, keepc Tk cP1_1, keepc Tk cP1_2, keepc Tk cP1_3, keepc Tk cX0_0, keepc Tk cX0_1, keepc Tk cX0_2, keepc Tk cX0_3, keepc Tk cX0_4, keepc Tk cX1_0, keepc Tk cX1_1, keepc Tk cX1_2, keepc Tk cX1_3⟩) (first | (go_at_call 14; refine (toFact_any [.int .i64 x1.1, .slice Aa1EqLeft na1EqLeft ca1EqLeft, .slice Aa1EqRight na1EqRight ca1EqRight, .slice Aa1List na1List ca1List] x1 _ (shFact.stab g1 (by first | exact Tk.block | exact (Below.drew Tk).block)) hn1).mono ?_; rintro e wn ⟨csn1, bn1, rfl, On, In, hbn⟩; have Rn1 := shFact.ord On; clear On In; replace Tk := below_next (by first | exact Tk | exact Below.drew Tk) hbn rfl) | (go_at_call 16; refine (eqFact_any [.int .i64 x1.1, .slice Ax1EqLeft nx1EqLeft cx1EqLeft, .slice Ax1EqRight nx1EqRight cx1EqRight, .slice Ax1List nx1List cx1List] csn1 x1 x1 _ (shFact.stab Rx1 (by first | exact Tk.block | exact (Below.drew Tk).block)) (by first | exact Rn1 | exact shFact.stab Rn1 (below_drewN (Below.refl _ _) 1).block)).mono ?_; rintro e w11 ⟨rfl, hbn⟩; replace Tk := below_next (by first | exact Tk | exact Below.drew Tk) hbn rfl; rw [eqC_self]))
    have hb11 := Tk
    have zw11 : w10.heap.size ≤ w11.heap.size := hb11.size
    replace T0 := below_next T0 hb11 rfl
    replace Ox0 := Sh.onext Ox0 hb11
    replace Ox1 := Sh.onext Ox1 hb11
    replace P0 := P0.next hb11
    replace P1 := P1.next hb11
    replace X0 := X0.next hb11
    replace X1 := X1.next hb11
    clear hb11 Tk cP0_0 cP0_1 cP0_2 cP0_3 cP0_4 cP1_0 cP1_1 cP1_2 cP1_3 cX0_0 cX0_1 cX0_2 cX0_3 cX0_4 cX1_0 cX1_1 cX1_2 cX1_3
    clear g1 Rx1
    try clear Rn1 hbn
    have cP0_0 := P0.cell 0
    have cP0_1 := P0.cell 1
    have cP0_2 := P0.cell 2
    have cP0_3 := P0.cell 3
    have cP0_4 := P0.cell 4
    have cP1_0 := P1.cell 0
    have cP1_1 := P1.cell 1
    have cP1_2 := P1.cell 2
    have cP1_3 := P1.cell 3
    have cX0_0 := X0.cell 0
    have cX0_1 := X0.cell 1
    have cX0_2 := X0.cell 2
    have cX0_3 := X0.cell 3
    have cX0_4 := X0.cell 4
    have cX1_0 := X1.cell 0
    have cX1_1 := X1.cell 1
    have cX1_2 := X1.cell 2
    have cX1_3 := X1.cell 3
    simp only [List.getElem?_toArray, List.getElem?_cons_zero, List.getElem?_cons_succ] at cP0_0 cP0_1 cP0_2 cP0_3 cP0_4 cP1_0 cP1_1 cP1_2 cP1_3 cX0_0 cX0_1 cX0_2 cX0_3 cX0_4 cX1_0 cX1_1 cX1_2 cX1_3
    go_wp2_with fail
    clear cP0_0 cP0_1 cP0_2 cP0_3 cP0_4 cP1_0 cP1_1 cP1_2 cP1_3 cX0_0 cX0_1 cX0_2 cX0_3 cX0_4 cX1_0 cX1_1 cX1_2 cX1_3
    go_ret
    exact ⟨rfl, T0⟩
end Go.Proofs.YtkmcdocbdhhfhaaGreat
