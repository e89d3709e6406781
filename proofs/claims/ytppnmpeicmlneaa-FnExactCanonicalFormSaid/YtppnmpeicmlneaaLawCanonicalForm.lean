
/- The walk of the law FnExactCanonicalForm. Printed by genlaw3.py. -/
import Derived.Test.YtppnmpeicmlneaaCForm2
import Derived.Deep.RegionHeld3
import Derived.Deep.DeepCutAuto
namespace Go.Proofs.Ytppnmpeicmlneaa
open Go.RowKit

set_option linter.unusedVariables false in
set_option maxRecDepth 100000 in
set_option maxHeartbeats 16000000 in
theorem lawCanonicalForm (cs0 : List Value) (x0 : AlgebraM) (w : World) (h0 : shAlgebra.rd w cs0 x0) :
    Calls Try.prog 11 #[.agg cs0.toArray] w (Bl w (.bool true)) := by
  have hh0 := h0
  obtain ⟨Aa0Ops, na0Ops, ca0Ops, rfl, qa0Size, qa0Ops⟩ := rdAlgebra hh0
  clear hh0
  have T0 : Below w.heap.size w w := Below.refl _ _
  obtain ⟨w1, HW1', hb1, hsz1, P0⟩ := boxes1 w #[.int .i64 x0.1, .slice Aa0Ops na0Ops ca0Ops] 52
  have HW1 := Lib.hid HW1'
  clear HW1'
  have zw1 : w.heap.size ≤ w1.heap.size := hb1.size
  replace T0 := below_next T0 hb1 rfl
  clear hb1
  have L0 : (0 : Int) ≤ 1048576 ∧ (1048576 : Int) ≤ 1048576 := by omega
  go_enter Try.func11, Try.ntmps11
  have cP0_0 := P0.cell 0
  have cP0_1 := P0.cell 1
  simp only [List.getElem?_toArray, List.getElem?_cons_zero, List.getElem?_cons_succ] at cP0_0 cP0_1
  rw [HW1.out] at cP0_0
  rw [HW1.out] at cP0_1
  go_wp2_with fail
  rw [← HW1.out]
  clear cP0_0 cP0_1
  refine (szAlgebra_any [.int .i64 x0.1, .slice Aa0Ops na0Ops ca0Ops] x0 1048576 _ (shAlgebra.stab h0 T0.block) L0.1 L0.2).mono ?_
  rintro e w2 ⟨rfl, hb2⟩
  have zw2 : w1.heap.size ≤ w2.heap.size := hb2.size
  replace T0 := below_next T0 hb2 rfl
  replace P0 := P0.next hb2
  clear hb2
  obtain ⟨l0, HL0⟩ : ∃ l, Hid (szR (shAlgebra.cnt x0) 1048576 = l) := ⟨_, rfl⟩
  have bd0 := szR_bd (shAlgebra.cnt x0) (left := 1048576) L0.1
  rw [HL0.out] at bd0 ⊢
  by_cases z0 : l0 < 0
  · go_wp2_with fail
    go_ret
    exact ⟨rfl, T0⟩
  have hn0 : (shAlgebra.cnt x0) ≤ 1048576 := by have := szR_ok (a := (shAlgebra.cnt x0)) (left := 1048576) (by rw [HL0.out]; exact z0); omega
  have M0 : 0 ≤ l0 ∧ l0 ≤ 1048576 := by omega
  clear bd0
  obtain ⟨mo0, HMO0⟩ : ∃ b, Hid (cfM x0 = b) := ⟨_, rfl⟩
  obtain ⟨mo1, HMO1⟩ : ∃ b, Hid (smallB x0 = b) := ⟨_, rfl⟩
  have hbb1 := bne_self mo1
  have cP0_0 := P0.cell 0
  have cP0_1 := P0.cell 1
  simp only [List.getElem?_toArray, List.getElem?_cons_zero, List.getElem?_cons_succ] at cP0_0 cP0_1
  go_wp2_with fail
  clear cP0_0 cP0_1
  refine (toAlgebra_any [.int .i64 x0.1, .slice Aa0Ops na0Ops ca0Ops] x0 _ (shAlgebra.stab h0 T0.block) hn0).mono ?_
  rintro e w3 ⟨csn0, bln0, rfl, On0, In0, hb3⟩
  have zw3 : w2.heap.size ≤ w3.heap.size := hb3.size
  replace T0 := below_next T0 hb3 rfl
  replace P0 := P0.next hb3
  clear hb3
  obtain ⟨An0Ops, nn0Ops, cn0Ops, rfl, -, -⟩ := rdAlgebra (shAlgebra.ord On0)
  have cP0_0 := P0.cell 0
  have cP0_1 := P0.cell 1
  simp only [List.getElem?_toArray, List.getElem?_cons_zero, List.getElem?_cons_succ] at cP0_0 cP0_1
  go_wp2_with fail
  clear cP0_0 cP0_1
  refine (specCF_any [.int .i64 x0.1, .slice An0Ops nn0Ops cn0Ops] x0 _ (shAlgebra.ord On0)).mono ?_
  rintro e w4 ⟨csw, rfl, Rw, hb4⟩
  rw [HMO1.out]
  have zw4 : w3.heap.size ≤ w4.heap.size := hb4.size
  replace T0 := below_next T0 hb4 rfl
  replace On0 := Sh.onext On0 hb4
  replace P0 := P0.next hb4
  clear hb4
  clear On0 In0
  rw [HMO0.out] at Rw
  have Tw : Below w4.heap.size w4 w4 := Below.refl _ _
  have Rw' := Rw
  obtain ⟨AwOps, nwOps, cwOps, rfl, -, -⟩ := rdAlgebra Rw'
  clear Rw'
  obtain ⟨w5, HW5⟩ : ∃ wb, Hid (wb = w4.alloc (.cells #[.int .i64 mo0.1, .slice AwOps nwOps cwOps] 41)) := ⟨_, rfl⟩
  have hb5 : Below w4.heap.size w4 w5 := by rw [HW5.out]; exact below_box _ _
  have Bw : Blk w5 w4.heap.size 41 #[.int .i64 mo0.1, .slice AwOps nwOps cwOps] := by rw [HW5.out]; exact Blk.new _ _ _
  have yw5 : w4.heap.size < w5.heap.size := Bw.lt
  have zw5 : w4.heap.size ≤ w5.heap.size := hb5.size
  replace T0 := below_next T0 hb5 rfl
  replace Tw := below_next Tw hb5 rfl
  replace P0 := P0.next hb5
  clear hb5
  have cP0_0 := P0.cell 0
  have cP0_1 := P0.cell 1
  have cBw_0 := Bw.cell 0
  have cBw_1 := Bw.cell 1
  simp only [List.getElem?_toArray, List.getElem?_cons_zero, List.getElem?_cons_succ] at cP0_0 cP0_1 cBw_0 cBw_1
  rw [HW5.out] at cP0_0
  rw [HW5.out] at cP0_1
  rw [HW5.out] at cBw_0
  rw [HW5.out] at cBw_1
  go_wp2_with fail
  rw [← HW5.out]
  clear cP0_0 cP0_1 cBw_0 cBw_1
  refine (toAlgebra_any [.int .i64 x0.1, .slice Aa0Ops na0Ops ca0Ops] x0 _ (shAlgebra.stab h0 T0.block) hn0).mono ?_
  rintro e w6 ⟨csx0, blx0, rfl, Ox0, Ix0, hb6⟩
  have zw6 : w5.heap.size ≤ w6.heap.size := hb6.size
  replace T0 := below_next T0 hb6 rfl
  replace Tw := below_next Tw hb6 rfl
  replace P0 := P0.next hb6
  replace Bw := Bw.next hb6
  clear hb6
  obtain ⟨Ax0Ops, nx0Ops, cx0Ops, rfl, -, -⟩ := rdAlgebra (shAlgebra.ord Ox0)
  obtain ⟨w7, HW7⟩ : ∃ wb, Hid (wb = w6.alloc (.cells #[.int .i64 x0.1, .slice Ax0Ops nx0Ops cx0Ops] 41)) := ⟨_, rfl⟩
  have hb7 : Below w6.heap.size w6 w7 := by rw [HW7.out]; exact below_box _ _
  have X0 : Blk w7 w6.heap.size 41 #[.int .i64 x0.1, .slice Ax0Ops nx0Ops cx0Ops] := by rw [HW7.out]; exact Blk.new _ _ _
  have yw7 : w6.heap.size < w7.heap.size := X0.lt
  have zw7 : w6.heap.size ≤ w7.heap.size := hb7.size
  replace T0 := below_next T0 hb7 rfl
  replace Tw := below_next Tw hb7 rfl
  replace Ox0 := Sh.onext Ox0 hb7
  replace P0 := P0.next hb7
  replace Bw := Bw.next hb7
  clear hb7
  have cP0_0 := P0.cell 0
  have cP0_1 := P0.cell 1
  have cBw_0 := Bw.cell 0
  have cBw_1 := Bw.cell 1
  have cX0_0 := X0.cell 0
  have cX0_1 := X0.cell 1
  simp only [List.getElem?_toArray, List.getElem?_cons_zero, List.getElem?_cons_succ] at cP0_0 cP0_1 cBw_0 cBw_1 cX0_0 cX0_1
  rw [HW7.out] at cP0_0
  rw [HW7.out] at cP0_1
  rw [HW7.out] at cBw_0
  rw [HW7.out] at cBw_1
  rw [HW7.out] at cX0_0
  rw [HW7.out] at cX0_1
  go_wp2_with fail
  rw [← HW7.out]
  clear cP0_0 cP0_1 cBw_0 cBw_1 cX0_0 cX0_1
  refine (implCF_any [.int .i64 x0.1, .slice Ax0Ops nx0Ops cx0Ops] x0 _ (shAlgebra.ord Ox0)).mono ?_
  rintro e w8 ⟨csg, blg, rfl, Og, Ig, hb8⟩
  rw [HMO1.out]
  have zw8 : w7.heap.size ≤ w8.heap.size := hb8.size
  replace T0 := below_next T0 hb8 rfl
  replace Tw := below_next Tw hb8 rfl
  replace Ox0 := Sh.onext Ox0 hb8
  replace P0 := P0.next hb8
  replace Bw := Bw.next hb8
  replace X0 := X0.next hb8
  clear hb8
  rw [HMO0.out] at Og
  obtain ⟨AgOps, ngOps, cgOps, rfl, -, -⟩ := rdAlgebra (shAlgebra.ord Og)
  obtain ⟨w9, HW9⟩ : ∃ wb, Hid (wb = w8.alloc (.cells #[.int .i64 mo0.1, .slice AgOps ngOps cgOps] 41)) := ⟨_, rfl⟩
  have hb9 : Below w8.heap.size w8 w9 := by rw [HW9.out]; exact below_box _ _
  have Bg : Blk w9 w8.heap.size 41 #[.int .i64 mo0.1, .slice AgOps ngOps cgOps] := by rw [HW9.out]; exact Blk.new _ _ _
  have yw9 : w8.heap.size < w9.heap.size := Bg.lt
  have zw9 : w8.heap.size ≤ w9.heap.size := hb9.size
  replace T0 := below_next T0 hb9 rfl
  replace Tw := below_next Tw hb9 rfl
  replace Ox0 := Sh.onext Ox0 hb9
  replace Og := Sh.onext Og hb9
  replace P0 := P0.next hb9
  replace Bw := Bw.next hb9
  replace X0 := X0.next hb9
  clear hb9
  have cP0_0 := P0.cell 0
  have cP0_1 := P0.cell 1
  have cBw_0 := Bw.cell 0
  have cBw_1 := Bw.cell 1
  have cX0_0 := X0.cell 0
  have cX0_1 := X0.cell 1
  have cBg_0 := Bg.cell 0
  have cBg_1 := Bg.cell 1
  simp only [List.getElem?_toArray, List.getElem?_cons_zero, List.getElem?_cons_succ] at cP0_0 cP0_1 cBw_0 cBw_1 cX0_0 cX0_1 cBg_0 cBg_1
  rw [HW9.out] at cP0_0
  rw [HW9.out] at cP0_1
  rw [HW9.out] at cBw_0
  rw [HW9.out] at cBw_1
  rw [HW9.out] at cX0_0
  rw [HW9.out] at cX0_1
  rw [HW9.out] at cBg_0
  rw [HW9.out] at cBg_1
  go_wp2_with fail
  rw [← HW9.out]
  clear cP0_0 cP0_1 cBw_0 cBw_1 cX0_0 cX0_1 cBg_0 cBg_1
  refine (eqAlgebra_any [.int .i64 mo0.1, .slice AgOps ngOps cgOps] [.int .i64 mo0.1, .slice AwOps nwOps cwOps] mo0 mo0 _ (shAlgebra.ord Og) (shAlgebra.stab Rw Tw.block)).mono ?_
  rintro e w10 ⟨rfl, hb10⟩
  rw [eqC_self]
  have zw10 : w9.heap.size ≤ w10.heap.size := hb10.size
  replace T0 := below_next T0 hb10 rfl
  replace Tw := below_next Tw hb10 rfl
  replace Ox0 := Sh.onext Ox0 hb10
  replace Og := Sh.onext Og hb10
  replace P0 := P0.next hb10
  replace Bw := Bw.next hb10
  replace X0 := X0.next hb10
  replace Bg := Bg.next hb10
  clear hb10
  have g0 := (shAlgebra.stab h0 T0.block)
  have Rx0 := shAlgebra.ord Ox0
  have cP0_0 := P0.cell 0
  have cP0_1 := P0.cell 1
  have cBw_0 := Bw.cell 0
  have cBw_1 := Bw.cell 1
  have cX0_0 := X0.cell 0
  have cX0_1 := X0.cell 1
  have cBg_0 := Bg.cell 0
  have cBg_1 := Bg.cell 1
  simp only [List.getElem?_toArray, List.getElem?_cons_zero, List.getElem?_cons_succ] at cP0_0 cP0_1 cBw_0 cBw_1 cX0_0 cX0_1 cBg_0 cBg_1
  go_upto_region 10 with fail
  clear cP0_0 cP0_1 cBw_0 cBw_1 cX0_0 cX0_1 cBg_0 cBg_1
  have cP0_0 := P0.cell 0
  have cP0_1 := P0.cell 1
  have cBw_0 := Bw.cell 0
  have cBw_1 := Bw.cell 1
  have cX0_0 := X0.cell 0
  have cX0_1 := X0.cell 1
  have cBg_0 := Bg.cell 0
  have cBg_1 := Bg.cell 1
  simp only [List.getElem?_toArray, List.getElem?_cons_zero, List.getElem?_cons_succ] at cP0_0 cP0_1 cBw_0 cBw_1 cX0_0 cX0_1 cBg_0 cBg_1
  have Tk : Below w10.heap.size w10 w10 := Below.refl _ _
  go_region_held3 (fun w' => w'.cell? ⟨w.heap.size, 0, none⟩ = some (.int .i64 x0.1) ∧ w'.cell? ⟨w.heap.size, 1, none⟩ = some (.slice Aa0Ops na0Ops ca0Ops) ∧ w'.cell? ⟨w4.heap.size, 0, none⟩ = some (.int .i64 mo0.1) ∧ w'.cell? ⟨w4.heap.size, 1, none⟩ = some (.slice AwOps nwOps cwOps) ∧ w'.cell? ⟨w6.heap.size, 0, none⟩ = some (.int .i64 x0.1) ∧ w'.cell? ⟨w6.heap.size, 1, none⟩ = some (.slice Ax0Ops nx0Ops cx0Ops) ∧ w'.cell? ⟨w8.heap.size, 0, none⟩ = some (.int .i64 mo0.1) ∧ w'.cell? ⟨w8.heap.size, 1, none⟩ = some (.slice AgOps ngOps cgOps)) (first | go_keep | exact ⟨keepc Tk cP0_0, keepc Tk cP0_1, keepc Tk cBw_0, keepc Tk cBw_1, keepc Tk cX0_0, keepc Tk cX0_1, keepc Tk cBg_0, keepc Tk cBg_1⟩) (first | (go_at_call 27; refine (toAlgebra_any [.int .i64 x0.1, .slice Aa0Ops na0Ops ca0Ops] x0 _ (shAlgebra.stab g0 (by first | exact Tk.block | exact (Below.drew Tk).block)) hn0).mono ?_; rintro e wn ⟨csn0, bn0, rfl, On, In, hbn⟩; have Rn0 := shAlgebra.ord On; clear On In; replace Tk := below_next (by first | exact Tk | exact Below.drew Tk) hbn rfl) | (go_at_call 30; refine (eqAlgebra_any [.int .i64 x0.1, .slice Ax0Ops nx0Ops cx0Ops] csn0 x0 x0 _ (shAlgebra.stab Rx0 (by first | exact Tk.block | exact (Below.drew Tk).block)) (by first | exact Rn0 | exact shAlgebra.stab Rn0 (below_drewN (Below.refl _ _) 1).block)).mono ?_; rintro e w11 ⟨rfl, hbn⟩; replace Tk := below_next (by first | exact Tk | exact Below.drew Tk) hbn rfl; rw [eqC_self]))
  have hb11 := Tk
  have zw11 : w10.heap.size ≤ w11.heap.size := hb11.size
  replace T0 := below_next T0 hb11 rfl
  replace Tw := below_next Tw hb11 rfl
  replace Ox0 := Sh.onext Ox0 hb11
  replace Og := Sh.onext Og hb11
  replace P0 := P0.next hb11
  replace Bw := Bw.next hb11
  replace X0 := X0.next hb11
  replace Bg := Bg.next hb11
  clear hb11 Tk cP0_0 cP0_1 cBw_0 cBw_1 cX0_0 cX0_1 cBg_0 cBg_1
  clear g0 Rx0
  try clear Rn0 hbn
  have k0_0 : (0 : Int) ≤ 1 := by omega
  have hm0 : msAlgebra x0 ≤ 4194304 := mcle_stAlgebra hn0
  have cP0_0 := P0.cell 0
  have cP0_1 := P0.cell 1
  have cBw_0 := Bw.cell 0
  have cBw_1 := Bw.cell 1
  have cX0_0 := X0.cell 0
  have cX0_1 := X0.cell 1
  have cBg_0 := Bg.cell 0
  have cBg_1 := Bg.cell 1
  simp only [List.getElem?_toArray, List.getElem?_cons_zero, List.getElem?_cons_succ] at cP0_0 cP0_1 cBw_0 cBw_1 cX0_0 cX0_1 cBg_0 cBg_1
  go_wp2_with fail
  clear cP0_0 cP0_1 cBw_0 cBw_1 cX0_0 cX0_1 cBg_0 cBg_1
  refine (markAlgebra_any [.int .i64 x0.1, .slice Ax0Ops nx0Ops cx0Ops] x0 blx0 (1) _ Ox0 Ix0.1 (by omega) (by omega)).mono ?_
  rintro e w12 ⟨rfl, -, hb12⟩
  have hg12 := hb12.chg (lo := w5.heap.size) (hi := w6.heap.size) Ix0.2
  have zw12 : w11.heap.size ≤ w12.heap.size := hg12.size
  replace T0 := T0.trans (hg12.below (by omega) (by have := T0.size; omega))
  replace Tw := Tw.trans (hg12.below (by omega) (by have := Tw.size; omega))
  replace Og := Sh.okept Og Ig hg12 (by omega)
  replace P0 := P0.chg' hg12 (by omega)
  replace Bw := Bw.chg' hg12 (by omega)
  replace X0 := X0.chg' hg12 (by omega)
  replace Bg := Bg.chg' hg12 (by omega)
  clear hb12 hg12
  clear Ox0
  have hk0 : ¬ (1 + ((msAlgebra x0 : Nat) : Int) < (0 : Int)) := by omega
  have cP0_0 := P0.cell 0
  have cP0_1 := P0.cell 1
  have cBw_0 := Bw.cell 0
  have cBw_1 := Bw.cell 1
  have cX0_0 := X0.cell 0
  have cX0_1 := X0.cell 1
  have cBg_0 := Bg.cell 0
  have cBg_1 := Bg.cell 1
  simp only [List.getElem?_toArray, List.getElem?_cons_zero, List.getElem?_cons_succ] at cP0_0 cP0_1 cBw_0 cBw_1 cX0_0 cX0_1 cBg_0 cBg_1
  go_wp2_with fail
  clear cP0_0 cP0_1 cBw_0 cBw_1 cX0_0 cX0_1 cBg_0 cBg_1
  refine (eqAlgebra_any [.int .i64 mo0.1, .slice AgOps ngOps cgOps] [.int .i64 mo0.1, .slice AwOps nwOps cwOps] mo0 mo0 _ (shAlgebra.ord Og) (shAlgebra.stab Rw Tw.block)).mono ?_
  rintro e w13 ⟨rfl, hb13⟩
  rw [eqC_self]
  have zw13 : w12.heap.size ≤ w13.heap.size := hb13.size
  replace T0 := below_next T0 hb13 rfl
  replace Tw := below_next Tw hb13 rfl
  replace Og := Sh.onext Og hb13
  replace P0 := P0.next hb13
  replace Bw := Bw.next hb13
  replace X0 := X0.next hb13
  replace Bg := Bg.next hb13
  clear hb13
  have hmr : msAlgebra mo0 ≤ 4194304 := by rw [← HMO0.out]; exact mcle_stAlgebra cfM_cnt
  have cP0_0 := P0.cell 0
  have cP0_1 := P0.cell 1
  have cBw_0 := Bw.cell 0
  have cBw_1 := Bw.cell 1
  have cX0_0 := X0.cell 0
  have cX0_1 := X0.cell 1
  have cBg_0 := Bg.cell 0
  have cBg_1 := Bg.cell 1
  simp only [List.getElem?_toArray, List.getElem?_cons_zero, List.getElem?_cons_succ] at cP0_0 cP0_1 cBw_0 cBw_1 cX0_0 cX0_1 cBg_0 cBg_1
  go_wp2_with fail
  clear cP0_0 cP0_1 cBw_0 cBw_1 cX0_0 cX0_1 cBg_0 cBg_1
  refine (markAlgebra_any [.int .i64 mo0.1, .slice AgOps ngOps cgOps] mo0 blg 1 _ Og Ig.1 (by omega) (by omega)).mono ?_
  rintro e w14 ⟨rfl, Om, hb14⟩
  have hg14 := hb14.chg (lo := w7.heap.size) (hi := w8.heap.size) Ig.2
  have zw14 : w13.heap.size ≤ w14.heap.size := hg14.size
  replace T0 := T0.trans (hg14.below (by omega) (by have := T0.size; omega))
  replace Tw := Tw.trans (hg14.below (by omega) (by have := Tw.size; omega))
  replace P0 := P0.chg' hg14 (by omega)
  replace Bw := Bw.chg' hg14 (by omega)
  replace X0 := X0.chg' hg14 (by omega)
  replace Bg := Bg.chg' hg14 (by omega)
  clear hb14 hg14
  clear Og
  have hq0 : ¬ (1 + ((msAlgebra mo0 : Nat) : Int) < 0) := by omega
  have hqq : ((1 + ((msAlgebra mo0 : Nat) : Int)) != (1 + ((msAlgebra mo0 : Nat) : Int))) = false := by simp
  have cP0_0 := P0.cell 0
  have cP0_1 := P0.cell 1
  have cBw_0 := Bw.cell 0
  have cBw_1 := Bw.cell 1
  have cX0_0 := X0.cell 0
  have cX0_1 := X0.cell 1
  have cBg_0 := Bg.cell 0
  have cBg_1 := Bg.cell 1
  simp only [List.getElem?_toArray, List.getElem?_cons_zero, List.getElem?_cons_succ] at cP0_0 cP0_1 cBw_0 cBw_1 cX0_0 cX0_1 cBg_0 cBg_1
  go_wp2_with fail
  clear cP0_0 cP0_1 cBw_0 cBw_1 cX0_0 cX0_1 cBg_0 cBg_1
  refine (heldAlgebra_any [.int .i64 mo0.1, .slice AgOps ngOps cgOps] mo0 1 _ (shAlgebra.ord Om) (by omega) (by omega)).mono ?_
  rintro e w15 ⟨rfl, hb15⟩
  have zw15 : w14.heap.size ≤ w15.heap.size := hb15.size
  replace T0 := below_next T0 hb15 rfl
  replace Tw := below_next Tw hb15 rfl
  replace Om := Sh.onext Om hb15
  replace P0 := P0.next hb15
  replace Bw := Bw.next hb15
  replace X0 := X0.next hb15
  replace Bg := Bg.next hb15
  clear hb15
  have cP0_0 := P0.cell 0
  have cP0_1 := P0.cell 1
  have cBw_0 := Bw.cell 0
  have cBw_1 := Bw.cell 1
  have cX0_0 := X0.cell 0
  have cX0_1 := X0.cell 1
  have cBg_0 := Bg.cell 0
  have cBg_1 := Bg.cell 1
  simp only [List.getElem?_toArray, List.getElem?_cons_zero, List.getElem?_cons_succ] at cP0_0 cP0_1 cBw_0 cBw_1 cX0_0 cX0_1 cBg_0 cBg_1
  go_wp2_with fail
  clear cP0_0 cP0_1 cBw_0 cBw_1 cX0_0 cX0_1 cBg_0 cBg_1
  refine (toAlgebra_any [.int .i64 x0.1, .slice Aa0Ops na0Ops ca0Ops] x0 _ (shAlgebra.stab h0 T0.block) hn0).mono ?_
  rintro e w16 ⟨csh0, blh0, rfl, Oh0, Ih0, hb16⟩
  have zw16 : w15.heap.size ≤ w16.heap.size := hb16.size
  replace T0 := below_next T0 hb16 rfl
  replace Tw := below_next Tw hb16 rfl
  replace Om := Sh.onext Om hb16
  replace P0 := P0.next hb16
  replace Bw := Bw.next hb16
  replace X0 := X0.next hb16
  replace Bg := Bg.next hb16
  clear hb16
  obtain ⟨Ah0Ops, nh0Ops, ch0Ops, rfl, -, -⟩ := rdAlgebra (shAlgebra.ord Oh0)
  have cP0_0 := P0.cell 0
  have cP0_1 := P0.cell 1
  have cBw_0 := Bw.cell 0
  have cBw_1 := Bw.cell 1
  have cX0_0 := X0.cell 0
  have cX0_1 := X0.cell 1
  have cBg_0 := Bg.cell 0
  have cBg_1 := Bg.cell 1
  simp only [List.getElem?_toArray, List.getElem?_cons_zero, List.getElem?_cons_succ] at cP0_0 cP0_1 cBw_0 cBw_1 cX0_0 cX0_1 cBg_0 cBg_1
  go_wp2_with fail
  clear cP0_0 cP0_1 cBw_0 cBw_1 cX0_0 cX0_1 cBg_0 cBg_1
  refine (implCF_any [.int .i64 x0.1, .slice Ah0Ops nh0Ops ch0Ops] x0 _ (shAlgebra.ord Oh0)).mono ?_
  rintro e w17 ⟨csh, blh, rfl, Oh, Ih, hb17⟩
  rw [HMO1.out]
  have zw17 : w16.heap.size ≤ w17.heap.size := hb17.size
  replace T0 := below_next T0 hb17 rfl
  replace Tw := below_next Tw hb17 rfl
  replace Om := Sh.onext Om hb17
  replace Oh0 := Sh.onext Oh0 hb17
  replace P0 := P0.next hb17
  replace Bw := Bw.next hb17
  replace X0 := X0.next hb17
  replace Bg := Bg.next hb17
  clear hb17
  rw [HMO0.out] at Oh
  obtain ⟨AhOps, nhOps, chOps, rfl, -, -⟩ := rdAlgebra (shAlgebra.ord Oh)
  obtain ⟨w18, HW18⟩ : ∃ wb, Hid (wb = w17.alloc (.cells #[.int .i64 mo0.1, .slice AhOps nhOps chOps] 41)) := ⟨_, rfl⟩
  have hb18 : Below w17.heap.size w17 w18 := by rw [HW18.out]; exact below_box _ _
  have Bh : Blk w18 w17.heap.size 41 #[.int .i64 mo0.1, .slice AhOps nhOps chOps] := by rw [HW18.out]; exact Blk.new _ _ _
  have yw18 : w17.heap.size < w18.heap.size := Bh.lt
  have zw18 : w17.heap.size ≤ w18.heap.size := hb18.size
  replace T0 := below_next T0 hb18 rfl
  replace Tw := below_next Tw hb18 rfl
  replace Om := Sh.onext Om hb18
  replace Oh0 := Sh.onext Oh0 hb18
  replace Oh := Sh.onext Oh hb18
  replace P0 := P0.next hb18
  replace Bw := Bw.next hb18
  replace X0 := X0.next hb18
  replace Bg := Bg.next hb18
  clear hb18
  clear Oh0 Ih0
  have cP0_0 := P0.cell 0
  have cP0_1 := P0.cell 1
  have cBw_0 := Bw.cell 0
  have cBw_1 := Bw.cell 1
  have cX0_0 := X0.cell 0
  have cX0_1 := X0.cell 1
  have cBg_0 := Bg.cell 0
  have cBg_1 := Bg.cell 1
  have cBh_0 := Bh.cell 0
  have cBh_1 := Bh.cell 1
  simp only [List.getElem?_toArray, List.getElem?_cons_zero, List.getElem?_cons_succ] at cP0_0 cP0_1 cBw_0 cBw_1 cX0_0 cX0_1 cBg_0 cBg_1 cBh_0 cBh_1
  rw [HW18.out] at cP0_0
  rw [HW18.out] at cP0_1
  rw [HW18.out] at cBw_0
  rw [HW18.out] at cBw_1
  rw [HW18.out] at cX0_0
  rw [HW18.out] at cX0_1
  rw [HW18.out] at cBg_0
  rw [HW18.out] at cBg_1
  rw [HW18.out] at cBh_0
  rw [HW18.out] at cBh_1
  go_wp2_with fail
  rw [← HW18.out]
  clear cP0_0 cP0_1 cBw_0 cBw_1 cX0_0 cX0_1 cBg_0 cBg_1 cBh_0 cBh_1
  refine (eqAlgebra_any [.int .i64 mo0.1, .slice AhOps nhOps chOps] [.int .i64 mo0.1, .slice AwOps nwOps cwOps] mo0 mo0 _ (shAlgebra.ord Oh) (shAlgebra.stab Rw Tw.block)).mono ?_
  rintro e w19 ⟨rfl, hb19⟩
  rw [eqC_self]
  have zw19 : w18.heap.size ≤ w19.heap.size := hb19.size
  replace T0 := below_next T0 hb19 rfl
  replace Tw := below_next Tw hb19 rfl
  replace Om := Sh.onext Om hb19
  replace Oh := Sh.onext Oh hb19
  replace P0 := P0.next hb19
  replace Bw := Bw.next hb19
  replace X0 := X0.next hb19
  replace Bg := Bg.next hb19
  replace Bh := Bh.next hb19
  clear hb19
  have cP0_0 := P0.cell 0
  have cP0_1 := P0.cell 1
  have cBw_0 := Bw.cell 0
  have cBw_1 := Bw.cell 1
  have cX0_0 := X0.cell 0
  have cX0_1 := X0.cell 1
  have cBg_0 := Bg.cell 0
  have cBg_1 := Bg.cell 1
  have cBh_0 := Bh.cell 0
  have cBh_1 := Bh.cell 1
  simp only [List.getElem?_toArray, List.getElem?_cons_zero, List.getElem?_cons_succ] at cP0_0 cP0_1 cBw_0 cBw_1 cX0_0 cX0_1 cBg_0 cBg_1 cBh_0 cBh_1
  go_wp2_with fail
  clear cP0_0 cP0_1 cBw_0 cBw_1 cX0_0 cX0_1 cBg_0 cBg_1 cBh_0 cBh_1
  refine (heldAlgebra_any [.int .i64 mo0.1, .slice AgOps ngOps cgOps] mo0 1 _ (shAlgebra.ord Om) (by omega) (by omega)).mono ?_
  rintro e w20 ⟨rfl, hb20⟩
  have zw20 : w19.heap.size ≤ w20.heap.size := hb20.size
  replace T0 := below_next T0 hb20 rfl
  replace Tw := below_next Tw hb20 rfl
  replace Om := Sh.onext Om hb20
  replace Oh := Sh.onext Oh hb20
  replace P0 := P0.next hb20
  replace Bw := Bw.next hb20
  replace X0 := X0.next hb20
  replace Bg := Bg.next hb20
  replace Bh := Bh.next hb20
  clear hb20
  have cP0_0 := P0.cell 0
  have cP0_1 := P0.cell 1
  have cBw_0 := Bw.cell 0
  have cBw_1 := Bw.cell 1
  have cX0_0 := X0.cell 0
  have cX0_1 := X0.cell 1
  have cBg_0 := Bg.cell 0
  have cBg_1 := Bg.cell 1
  have cBh_0 := Bh.cell 0
  have cBh_1 := Bh.cell 1
  simp only [List.getElem?_toArray, List.getElem?_cons_zero, List.getElem?_cons_succ] at cP0_0 cP0_1 cBw_0 cBw_1 cX0_0 cX0_1 cBg_0 cBg_1 cBh_0 cBh_1
  go_wp2_with fail
  clear cP0_0 cP0_1 cBw_0 cBw_1 cX0_0 cX0_1 cBg_0 cBg_1 cBh_0 cBh_1
  go_ret
  exact ⟨rfl, T0⟩
end Go.Proofs.Ytppnmpeicmlneaa
