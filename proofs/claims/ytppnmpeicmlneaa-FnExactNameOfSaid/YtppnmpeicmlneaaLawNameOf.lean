
/- The walk of the law FnExactNameOf. Printed by genlaw3.py. -/
import Derived.Test.YtppnmpeicmlneaaNameOf
import Derived.Deep.RegionHeld3
import Derived.Deep.DeepCutAuto
namespace Go.Proofs.Ytppnmpeicmlneaa
open Go.RowKit

set_option linter.unusedVariables false in
set_option maxRecDepth 100000 in
set_option maxHeartbeats 16000000 in
theorem lawNameOf (v0 : Value) (x0 : List EntryM) (cs1 : List Value) (x1 : AlgebraM) (w : World) (h0 : (Sh.rows shEntry 117).rd w [v0] x0) (h1 : shAlgebra.rd w cs1 x1) :
    Calls Try.prog 14 #[v0, .agg cs1.toArray] w (Bl w (.bool true)) := by
  have hh1 := h1
  obtain ⟨Aa1Ops, na1Ops, ca1Ops, rfl, qa1Size, qa1Ops⟩ := rdAlgebra hh1
  clear hh1
  have T0 : Below w.heap.size w w := Below.refl _ _
  obtain ⟨w1, HW1', hb1, hsz1, P1⟩ := boxes1 w #[.int .i64 x1.1, .slice Aa1Ops na1Ops ca1Ops] 52
  have HW1 := Lib.hid HW1'
  clear HW1'
  have zw1 : w.heap.size ≤ w1.heap.size := hb1.size
  replace T0 := below_next T0 hb1 rfl
  clear hb1
  have L0 : (0 : Int) ≤ 1048576 ∧ (1048576 : Int) ≤ 1048576 := by omega
  go_enter Try.func14, Try.ntmps14
  have cP1_0 := P1.cell 0
  have cP1_1 := P1.cell 1
  simp only [List.getElem?_toArray, List.getElem?_cons_zero, List.getElem?_cons_succ] at cP1_0 cP1_1
  rw [HW1.out] at cP1_0
  rw [HW1.out] at cP1_1
  go_wp2_with fail
  rw [← HW1.out]
  clear cP1_0 cP1_1
  refine (szEntrySv_any v0 x0 1048576 _ ((Sh.rows shEntry 117).stab h0 T0.block) L0.1 L0.2).mono ?_
  rintro e w2 ⟨rfl, hb2⟩
  have zw2 : w1.heap.size ≤ w2.heap.size := hb2.size
  replace T0 := below_next T0 hb2 rfl
  replace P1 := P1.next hb2
  clear hb2
  obtain ⟨l0, HL0⟩ : ∃ l, Hid (szR ((Sh.rows shEntry 117).cnt x0) 1048576 = l) := ⟨_, rfl⟩
  have bd0 := szR_bd ((Sh.rows shEntry 117).cnt x0) (left := 1048576) L0.1
  rw [HL0.out] at bd0 ⊢
  by_cases z0 : l0 < 0
  · go_wp2_with fail
    go_ret
    exact ⟨rfl, T0⟩
  have hn0 : ((Sh.rows shEntry 117).cnt x0) ≤ 1048576 := by have := szR_ok (a := ((Sh.rows shEntry 117).cnt x0)) (left := 1048576) (by rw [HL0.out]; exact z0); omega
  have M0 : 0 ≤ l0 ∧ l0 ≤ 1048576 := by omega
  clear bd0
  have cP1_0 := P1.cell 0
  have cP1_1 := P1.cell 1
  simp only [List.getElem?_toArray, List.getElem?_cons_zero, List.getElem?_cons_succ] at cP1_0 cP1_1
  go_wp2_with fail
  clear cP1_0 cP1_1
  refine (szAlgebra_any [.int .i64 x1.1, .slice Aa1Ops na1Ops ca1Ops] x1 l0 _ (shAlgebra.stab h1 T0.block) M0.1 M0.2).mono ?_
  rintro e w3 ⟨rfl, hb3⟩
  have zw3 : w2.heap.size ≤ w3.heap.size := hb3.size
  replace T0 := below_next T0 hb3 rfl
  replace P1 := P1.next hb3
  clear hb3
  obtain ⟨l1, HL1⟩ : ∃ l, Hid (szR (shAlgebra.cnt x1) l0 = l) := ⟨_, rfl⟩
  have bd1 := szR_bd (shAlgebra.cnt x1) (left := l0) M0.1
  rw [HL1.out] at bd1 ⊢
  by_cases z1 : l1 < 0
  · go_wp2_with fail
    go_ret
    exact ⟨rfl, T0⟩
  have hn1 : (shAlgebra.cnt x1) ≤ 1048576 := by have := szR_ok (a := (shAlgebra.cnt x1)) (left := l0) (by rw [HL1.out]; exact z1); omega
  have M1 : 0 ≤ l1 ∧ l1 ≤ 1048576 := by omega
  clear bd1
  obtain ⟨mo0, HMO0⟩ : ∃ b, Hid ((noP x0 x1).1 = b) := ⟨_, rfl⟩
  have hbb0 : (mo0.toList == mo0.toList) = true := by simp
  have hbc0 : (mo0.toList != mo0.toList) = false := by simp
  obtain ⟨mo1, HMO1⟩ : ∃ b, Hid ((noP x0 x1).2 = b) := ⟨_, rfl⟩
  have hbb1 := bne_self mo1
  have g0 := ((Sh.rows shEntry 117).stab h0 T0.block)
  have g1 := (shAlgebra.stab h1 T0.block)
  have cP1_0 := P1.cell 0
  have cP1_1 := P1.cell 1
  simp only [List.getElem?_toArray, List.getElem?_cons_zero, List.getElem?_cons_succ] at cP1_0 cP1_1
  go_upto_region 8 with fail
  clear cP1_0 cP1_1
  have cP1_0 := P1.cell 0
  have cP1_1 := P1.cell 1
  simp only [List.getElem?_toArray, List.getElem?_cons_zero, List.getElem?_cons_succ] at cP1_0 cP1_1
  have Tk : Below w3.heap.size w3 w3 := Below.refl _ _
  go_cut [6, 7] (fun u6 u7 wx => u6 = .string mo0 ∧ u7 = .bool mo1 ∧ Below w3.heap.size w3 wx)
  case first =>
    go_region_held3 (fun w' => w'.cell? ⟨w.heap.size, 0, none⟩ = some (.int .i64 x1.1) ∧ w'.cell? ⟨w.heap.size, 1, none⟩ = some (.slice Aa1Ops na1Ops ca1Ops)) (first | go_keep | exact ⟨keepc Tk cP1_0, keepc Tk cP1_1⟩) (first | (go_at_call 54; refine (toEntrySv_any v0 x0 _ ((Sh.rows shEntry 117).stab g0 (by first | exact Tk.block | exact (Below.drew Tk).block)) hn0).mono ?_; rintro e wn ⟨vn0, bn0, rfl, On, In, hbn⟩; have Rn0 := (Sh.rows shEntry 117).ord On; clear On In; replace Tk := below_next (by first | exact Tk | exact Below.drew Tk) hbn rfl; (try replace Rn1 := shAlgebra.stab Rn1 hbn.block)) | (go_at_call 27; refine (toAlgebra_any [.int .i64 x1.1, .slice Aa1Ops na1Ops ca1Ops] x1 _ (shAlgebra.stab g1 (by first | exact Tk.block | exact (Below.drew Tk).block)) hn1).mono ?_; rintro e wn ⟨csn1, bn1, rfl, On, In, hbn⟩; have Rn1 := shAlgebra.ord On; clear On In; replace Tk := below_next (by first | exact Tk | exact Below.drew Tk) hbn rfl; (try replace Rn0 := (Sh.rows shEntry 117).stab Rn0 hbn.block)) | (go_at_call 57; refine (specNameOfv_any vn0 x0 csn1 x1 _ Rn0 Rn1).mono ?_; rintro e wn ⟨rfl, hbn⟩; replace Tk := below_next (by first | exact Tk | exact Below.drew Tk) hbn rfl; rw [HMO0.out, HMO1.out]))
    all_goals (go_wp2_with fail; go_meet; exact ⟨rfl, rfl, Tk⟩)
  case rest =>
    obtain ⟨rfl, rfl, hb4⟩ := hcut
    obtain ⟨w4, HWC⟩ : ∃ wq : World, wq = wc := ⟨_, rfl⟩
    subst HWC
    have zw4 : w3.heap.size ≤ w4.heap.size := hb4.size
    replace T0 := below_next T0 hb4 rfl
    replace P1 := P1.next hb4
    clear hb4 Tk cP1_0 cP1_1
    clear g0
    clear g1
    have cP1_0 := P1.cell 0
    have cP1_1 := P1.cell 1
    simp only [List.getElem?_toArray, List.getElem?_cons_zero, List.getElem?_cons_succ] at cP1_0 cP1_1
    go_wp2_with fail
    clear cP1_0 cP1_1
    refine (toEntrySv_any v0 x0 _ ((Sh.rows shEntry 117).stab h0 T0.block) hn0).mono ?_
    rintro e w5 ⟨vx0, blx0, rfl, Ox0, Ix0, hb5⟩
    have zw5 : w4.heap.size ≤ w5.heap.size := hb5.size
    replace T0 := below_next T0 hb5 rfl
    replace P1 := P1.next hb5
    clear hb5
    have cP1_0 := P1.cell 0
    have cP1_1 := P1.cell 1
    simp only [List.getElem?_toArray, List.getElem?_cons_zero, List.getElem?_cons_succ] at cP1_0 cP1_1
    go_wp2_with fail
    clear cP1_0 cP1_1
    refine (toAlgebra_any [.int .i64 x1.1, .slice Aa1Ops na1Ops ca1Ops] x1 _ (shAlgebra.stab h1 T0.block) hn1).mono ?_
    rintro e w6 ⟨csx1, blx1, rfl, Ox1, Ix1, hb6⟩
    have zw6 : w5.heap.size ≤ w6.heap.size := hb6.size
    replace T0 := below_next T0 hb6 rfl
    replace Ox0 := Sh.onext Ox0 hb6
    replace P1 := P1.next hb6
    clear hb6
    obtain ⟨Ax1Ops, nx1Ops, cx1Ops, rfl, -, -⟩ := rdAlgebra (shAlgebra.ord Ox1)
    obtain ⟨w7, HW7⟩ : ∃ wb, Hid (wb = w6.alloc (.cells #[.int .i64 x1.1, .slice Ax1Ops nx1Ops cx1Ops] 41)) := ⟨_, rfl⟩
    have hb7 : Below w6.heap.size w6 w7 := by rw [HW7.out]; exact below_box _ _
    have X1 : Blk w7 w6.heap.size 41 #[.int .i64 x1.1, .slice Ax1Ops nx1Ops cx1Ops] := by rw [HW7.out]; exact Blk.new _ _ _
    have yw7 : w6.heap.size < w7.heap.size := X1.lt
    have zw7 : w6.heap.size ≤ w7.heap.size := hb7.size
    replace T0 := below_next T0 hb7 rfl
    replace Ox0 := Sh.onext Ox0 hb7
    replace Ox1 := Sh.onext Ox1 hb7
    replace P1 := P1.next hb7
    clear hb7
    have cP1_0 := P1.cell 0
    have cP1_1 := P1.cell 1
    have cX1_0 := X1.cell 0
    have cX1_1 := X1.cell 1
    simp only [List.getElem?_toArray, List.getElem?_cons_zero, List.getElem?_cons_succ] at cP1_0 cP1_1 cX1_0 cX1_1
    rw [HW7.out] at cP1_0
    rw [HW7.out] at cP1_1
    rw [HW7.out] at cX1_0
    rw [HW7.out] at cX1_1
    go_wp2_with fail
    rw [← HW7.out]
    clear cP1_0 cP1_1 cX1_0 cX1_1
    refine (implNameOfv_any vx0 x0 [.int .i64 x1.1, .slice Ax1Ops nx1Ops cx1Ops] x1 _ ((Sh.rows shEntry 117).ord Ox0) (shAlgebra.ord Ox1)).mono ?_
    rintro e w8 ⟨rfl, hb8⟩
    rw [HMO0.out, HMO1.out]
    have zw8 : w7.heap.size ≤ w8.heap.size := hb8.size
    replace T0 := below_next T0 hb8 rfl
    replace Ox0 := Sh.onext Ox0 hb8
    replace Ox1 := Sh.onext Ox1 hb8
    replace P1 := P1.next hb8
    replace X1 := X1.next hb8
    clear hb8
    have cP1_0 := P1.cell 0
    have cP1_1 := P1.cell 1
    have cX1_0 := X1.cell 0
    have cX1_1 := X1.cell 1
    simp only [List.getElem?_toArray, List.getElem?_cons_zero, List.getElem?_cons_succ] at cP1_0 cP1_1 cX1_0 cX1_1
    go_wp2_with fail
    clear cP1_0 cP1_1 cX1_0 cX1_1
    refine (toEntrySv_any v0 x0 _ ((Sh.rows shEntry 117).stab h0 T0.block) hn0).mono ?_
    rintro e w9 ⟨vy0, bly0, rfl, Oy0, Iy0, hb9⟩
    have zw9 : w8.heap.size ≤ w9.heap.size := hb9.size
    replace T0 := below_next T0 hb9 rfl
    replace Ox0 := Sh.onext Ox0 hb9
    replace Ox1 := Sh.onext Ox1 hb9
    replace P1 := P1.next hb9
    replace X1 := X1.next hb9
    clear hb9
    have cP1_0 := P1.cell 0
    have cP1_1 := P1.cell 1
    have cX1_0 := X1.cell 0
    have cX1_1 := X1.cell 1
    simp only [List.getElem?_toArray, List.getElem?_cons_zero, List.getElem?_cons_succ] at cP1_0 cP1_1 cX1_0 cX1_1
    go_wp2_with fail
    clear cP1_0 cP1_1 cX1_0 cX1_1
    refine (eqEntrySv_any vx0 vy0 x0 x0 _ ((Sh.rows shEntry 117).ord Ox0) ((Sh.rows shEntry 117).ord Oy0)).mono ?_
    rintro e w10 ⟨rfl, hb10⟩
    rw [eqC_self]
    have zw10 : w9.heap.size ≤ w10.heap.size := hb10.size
    replace T0 := below_next T0 hb10 rfl
    replace Ox0 := Sh.onext Ox0 hb10
    replace Ox1 := Sh.onext Ox1 hb10
    replace Oy0 := Sh.onext Oy0 hb10
    replace P1 := P1.next hb10
    replace X1 := X1.next hb10
    clear hb10
    clear Oy0 Iy0
    have g1 := (shAlgebra.stab h1 T0.block)
    have Rx1 := shAlgebra.ord Ox1
    have cP1_0 := P1.cell 0
    have cP1_1 := P1.cell 1
    have cX1_0 := X1.cell 0
    have cX1_1 := X1.cell 1
    simp only [List.getElem?_toArray, List.getElem?_cons_zero, List.getElem?_cons_succ] at cP1_0 cP1_1 cX1_0 cX1_1
    go_upto_region 16 with fail
    clear cP1_0 cP1_1 cX1_0 cX1_1
    have cP1_0 := P1.cell 0
    have cP1_1 := P1.cell 1
    have cX1_0 := X1.cell 0
    have cX1_1 := X1.cell 1
    simp only [List.getElem?_toArray, List.getElem?_cons_zero, List.getElem?_cons_succ] at cP1_0 cP1_1 cX1_0 cX1_1
    have Tk : Below w10.heap.size w10 w10 := Below.refl _ _
    go_region_held3 (fun w' => w'.cell? ⟨w.heap.size, 0, none⟩ = some (.int .i64 x1.1) ∧ w'.cell? ⟨w.heap.size, 1, none⟩ = some (.slice Aa1Ops na1Ops ca1Ops) ∧ w'.cell? ⟨w6.heap.size, 0, none⟩ = some (.int .i64 x1.1) ∧ w'.cell? ⟨w6.heap.size, 1, none⟩ = some (.slice Ax1Ops nx1Ops cx1Ops)) (first | go_keep | exact ⟨keepc Tk cP1_0, keepc Tk cP1_1, keepc Tk cX1_0, keepc Tk cX1_1⟩) (first | (go_at_call 27; refine (toAlgebra_any [.int .i64 x1.1, .slice Aa1Ops na1Ops ca1Ops] x1 _ (shAlgebra.stab g1 (by first | exact Tk.block | exact (Below.drew Tk).block)) hn1).mono ?_; rintro e wn ⟨csn1, bn1, rfl, On, In, hbn⟩; have Rn1 := shAlgebra.ord On; clear On In; replace Tk := below_next (by first | exact Tk | exact Below.drew Tk) hbn rfl) | (go_at_call 30; refine (eqAlgebra_any [.int .i64 x1.1, .slice Ax1Ops nx1Ops cx1Ops] csn1 x1 x1 _ (shAlgebra.stab Rx1 (by first | exact Tk.block | exact (Below.drew Tk).block)) (by first | exact Rn1 | exact shAlgebra.stab Rn1 (below_drewN (Below.refl _ _) 1).block)).mono ?_; rintro e w11 ⟨rfl, hbn⟩; replace Tk := below_next (by first | exact Tk | exact Below.drew Tk) hbn rfl; rw [eqC_self]))
    have hb11 := Tk
    have zw11 : w10.heap.size ≤ w11.heap.size := hb11.size
    replace T0 := below_next T0 hb11 rfl
    replace Ox0 := Sh.onext Ox0 hb11
    replace Ox1 := Sh.onext Ox1 hb11
    replace P1 := P1.next hb11
    replace X1 := X1.next hb11
    clear hb11 Tk cP1_0 cP1_1 cX1_0 cX1_1
    clear g1 Rx1
    try clear Rn1 hbn
    have cP1_0 := P1.cell 0
    have cP1_1 := P1.cell 1
    have cX1_0 := X1.cell 0
    have cX1_1 := X1.cell 1
    simp only [List.getElem?_toArray, List.getElem?_cons_zero, List.getElem?_cons_succ] at cP1_0 cP1_1 cX1_0 cX1_1
    go_wp2_with fail
    clear cP1_0 cP1_1 cX1_0 cX1_1
    go_ret
    exact ⟨rfl, T0⟩
end Go.Proofs.Ytppnmpeicmlneaa
