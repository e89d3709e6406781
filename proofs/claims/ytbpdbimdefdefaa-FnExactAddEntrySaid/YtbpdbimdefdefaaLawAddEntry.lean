
/- The walk of the law FnExactAddEntry. Printed by genlaw3.py. -/
import Derived.Test.YtbpdbimdefdefaaAddS
import Derived.Test.YtbpdbimdefdefaaKEntry
import Derived.Deep.RegionHeld3
import Derived.Deep.DeepCutAuto
namespace Go.Proofs.Ytbpdbimdefdefaa
open Go.RowKit

set_option linter.unusedVariables false in
set_option maxRecDepth 100000 in
set_option maxHeartbeats 16000000 in
theorem lawAddEntry (v0 : Value) (x0 : List EntryM) (x1 : ByteArray) (cs2 : List Value) (x2 : AlgebraM) (w : World) (h0 : (Sh.rows shEntry 64).rd w [v0] x0) (h1 : x1.size ≤ maxLen) (h2 : shAlgebra.rd w cs2 x2) :
    Calls Try.prog 4 #[v0, .string x1, .agg cs2.toArray] w (Bl w (.bool true)) := by
  have hh2 := h2
  obtain ⟨Aa2Ops, na2Ops, ca2Ops, rfl, qa2Size, qa2Ops⟩ := rdAlgebra hh2
  clear hh2
  have hs1 := h1
  unfold maxLen at hs1
  have T0 : Below w.heap.size w w := Below.refl _ _
  obtain ⟨w1, HW1', hb1, hsz1, P2⟩ := boxes1 w #[.int .i64 x2.1, .slice Aa2Ops na2Ops ca2Ops] 33
  have HW1 := Lib.hid HW1'
  clear HW1'
  have zw1 : w.heap.size ≤ w1.heap.size := hb1.size
  replace T0 := below_next T0 hb1 rfl
  clear hb1
  have L0 : (0 : Int) ≤ 1048576 ∧ (1048576 : Int) ≤ 1048576 := by omega
  go_enter Try.func4, Try.ntmps4
  by_cases z1 : (1048576 : Int) < (x1.size : Int)
  · have cP2_0 := P2.cell 0
    have cP2_1 := P2.cell 1
    simp only [List.getElem?_toArray, List.getElem?_cons_zero, List.getElem?_cons_succ] at cP2_0 cP2_1
    rw [HW1.out] at cP2_0
    rw [HW1.out] at cP2_1
    go_wp2_with fail
    rw [← HW1.out]
    clear cP2_0 cP2_1
    go_ret
    exact ⟨rfl, T0⟩
  have hn1 : x1.size ≤ 1048576 := by omega
  have cP2_0 := P2.cell 0
  have cP2_1 := P2.cell 1
  simp only [List.getElem?_toArray, List.getElem?_cons_zero, List.getElem?_cons_succ] at cP2_0 cP2_1
  rw [HW1.out] at cP2_0
  rw [HW1.out] at cP2_1
  go_wp2_with fail
  rw [← HW1.out]
  clear cP2_0 cP2_1
  refine (szEntrySv_any v0 x0 1048576 _ ((Sh.rows shEntry 64).stab h0 T0.block) L0.1 L0.2).mono ?_
  rintro e w2 ⟨rfl, hb2⟩
  have zw2 : w1.heap.size ≤ w2.heap.size := hb2.size
  replace T0 := below_next T0 hb2 rfl
  replace P2 := P2.next hb2
  clear hb2
  obtain ⟨l0, HL0⟩ : ∃ l, Hid (szR ((Sh.rows shEntry 64).cnt x0) 1048576 = l) := ⟨_, rfl⟩
  have bd0 := szR_bd ((Sh.rows shEntry 64).cnt x0) (left := 1048576) L0.1
  rw [HL0.out] at bd0 ⊢
  by_cases z0 : l0 < 0
  · go_wp2_with fail
    go_ret
    exact ⟨rfl, T0⟩
  have hn0 : ((Sh.rows shEntry 64).cnt x0) ≤ 1048576 := by have := szR_ok (a := ((Sh.rows shEntry 64).cnt x0)) (left := 1048576) (by rw [HL0.out]; exact z0); omega
  have M0 : 0 ≤ l0 ∧ l0 ≤ 1048576 := by omega
  clear bd0
  have cP2_0 := P2.cell 0
  have cP2_1 := P2.cell 1
  simp only [List.getElem?_toArray, List.getElem?_cons_zero, List.getElem?_cons_succ] at cP2_0 cP2_1
  go_wp2_with fail
  clear cP2_0 cP2_1
  refine (szAlgebra_any [.int .i64 x2.1, .slice Aa2Ops na2Ops ca2Ops] x2 l0 _ (shAlgebra.stab h2 T0.block) M0.1 M0.2).mono ?_
  rintro e w3 ⟨rfl, hb3⟩
  have zw3 : w2.heap.size ≤ w3.heap.size := hb3.size
  replace T0 := below_next T0 hb3 rfl
  replace P2 := P2.next hb3
  clear hb3
  obtain ⟨l2, HL2⟩ : ∃ l, Hid (szR (shAlgebra.cnt x2) l0 = l) := ⟨_, rfl⟩
  have bd2 := szR_bd (shAlgebra.cnt x2) (left := l0) M0.1
  rw [HL2.out] at bd2 ⊢
  by_cases z2 : l2 < 0
  · go_wp2_with fail
    go_ret
    exact ⟨rfl, T0⟩
  have hn2 : (shAlgebra.cnt x2) ≤ 1048576 := by have := szR_ok (a := (shAlgebra.cnt x2)) (left := l0) (by rw [HL2.out]; exact z2); omega
  have M2 : 0 ≤ l2 ∧ l2 ≤ 1048576 := by omega
  clear bd2
  obtain ⟨mo0, HMO0⟩ : ∃ b, Hid ((adP x0 x1 x2).1 = b) := ⟨_, rfl⟩
  obtain ⟨mo1, HMO1⟩ : ∃ b, Hid ((adP x0 x1 x2).2 = b) := ⟨_, rfl⟩
  have hbb1 := bne_self mo1
  have g0 := ((Sh.rows shEntry 64).stab h0 T0.block)
  have g2 := (shAlgebra.stab h2 T0.block)
  have cP2_0 := P2.cell 0
  have cP2_1 := P2.cell 1
  simp only [List.getElem?_toArray, List.getElem?_cons_zero, List.getElem?_cons_succ] at cP2_0 cP2_1
  go_upto_region 10 with fail
  clear cP2_0 cP2_1
  have cP2_0 := P2.cell 0
  have cP2_1 := P2.cell 1
  simp only [List.getElem?_toArray, List.getElem?_cons_zero, List.getElem?_cons_succ] at cP2_0 cP2_1
  have Tk : Below w3.heap.size w3 w3 := Below.refl _ _
  go_cut [8, 9] (fun u8 u9 wx => ((Sh.rows shEntry 64).rd wx [u8] mo0) ∧ u9 = .bool mo1 ∧ Below w3.heap.size w3 wx)
  case first =>
    go_region_held3 (fun w' => w'.cell? ⟨w.heap.size, 0, none⟩ = some (.int .i64 x2.1) ∧ w'.cell? ⟨w.heap.size, 1, none⟩ = some (.slice Aa2Ops na2Ops ca2Ops)) (first | go_keep | exact ⟨keepc Tk cP2_0, keepc Tk cP2_1⟩) (first | (go_at_call 11; refine (toEntrySv_any v0 x0 _ ((Sh.rows shEntry 64).stab g0 (by first | exact Tk.block | exact (Below.drew Tk).block)) hn0).mono ?_; rintro e wn ⟨vn0, bn0, rfl, On, In, hbn⟩; have Rn0 := (Sh.rows shEntry 64).ord On; clear On In; replace Tk := below_next (by first | exact Tk | exact Below.drew Tk) hbn rfl; (try replace Rn2 := shAlgebra.stab Rn2 hbn.block)) | (go_at_call 18; refine (toAlgebra_any [.int .i64 x2.1, .slice Aa2Ops na2Ops ca2Ops] x2 _ (shAlgebra.stab g2 (by first | exact Tk.block | exact (Below.drew Tk).block)) hn2).mono ?_; rintro e wn ⟨csn2, bn2, rfl, On, In, hbn⟩; have Rn2 := shAlgebra.ord On; clear On In; replace Tk := below_next (by first | exact Tk | exact Below.drew Tk) hbn rfl; (try replace Rn0 := (Sh.rows shEntry 64).stab Rn0 hbn.block)) | (go_at_call 17; refine (specAddv_any vn0 x0 x1 csn2 x2 _ Rn0 h1 Rn2 hn0).mono ?_; rintro e wn ⟨vw, rfl, Rw, hbn⟩; replace Tk := below_next (by first | exact Tk | exact Below.drew Tk) hbn rfl; rw [HMO1.out]))
    all_goals (go_wp2_with fail; go_meet; exact ⟨by rw [HMO0.out] at Rw; exact Rw, rfl, Tk⟩)
  case rest =>
    obtain ⟨Rw, rfl, hb4⟩ := hcut
    obtain ⟨vw, HVW⟩ : ∃ v, v = u8 := ⟨_, rfl⟩
    subst HVW
    obtain ⟨w4, HWC⟩ : ∃ wq : World, wq = wc := ⟨_, rfl⟩
    subst HWC
    have zw4 : w3.heap.size ≤ w4.heap.size := hb4.size
    replace T0 := below_next T0 hb4 rfl
    replace P2 := P2.next hb4
    clear hb4 Tk cP2_0 cP2_1
    clear g0
    clear g2
    have Tw : Below w4.heap.size w4 w4 := Below.refl _ _
    have cP2_0 := P2.cell 0
    have cP2_1 := P2.cell 1
    simp only [List.getElem?_toArray, List.getElem?_cons_zero, List.getElem?_cons_succ] at cP2_0 cP2_1
    go_wp2_with fail
    clear cP2_0 cP2_1
    refine (toEntrySv_any v0 x0 _ ((Sh.rows shEntry 64).stab h0 T0.block) hn0).mono ?_
    rintro e w5 ⟨vx0, blx0, rfl, Ox0, Ix0, hb5⟩
    have zw5 : w4.heap.size ≤ w5.heap.size := hb5.size
    replace T0 := below_next T0 hb5 rfl
    replace Tw := below_next Tw hb5 rfl
    replace P2 := P2.next hb5
    clear hb5
    have cP2_0 := P2.cell 0
    have cP2_1 := P2.cell 1
    simp only [List.getElem?_toArray, List.getElem?_cons_zero, List.getElem?_cons_succ] at cP2_0 cP2_1
    go_wp2_with fail
    clear cP2_0 cP2_1
    refine (toAlgebra_any [.int .i64 x2.1, .slice Aa2Ops na2Ops ca2Ops] x2 _ (shAlgebra.stab h2 T0.block) hn2).mono ?_
    rintro e w6 ⟨csx2, blx2, rfl, Ox2, Ix2, hb6⟩
    have zw6 : w5.heap.size ≤ w6.heap.size := hb6.size
    replace T0 := below_next T0 hb6 rfl
    replace Tw := below_next Tw hb6 rfl
    replace Ox0 := Sh.onext Ox0 hb6
    replace P2 := P2.next hb6
    clear hb6
    obtain ⟨Ax2Ops, nx2Ops, cx2Ops, rfl, -, -⟩ := rdAlgebra (shAlgebra.ord Ox2)
    obtain ⟨w7, HW7⟩ : ∃ wb, Hid (wb = w6.alloc (.cells #[.int .i64 x2.1, .slice Ax2Ops nx2Ops cx2Ops] 38)) := ⟨_, rfl⟩
    have hb7 : Below w6.heap.size w6 w7 := by rw [HW7.out]; exact below_box _ _
    have X2 : Blk w7 w6.heap.size 38 #[.int .i64 x2.1, .slice Ax2Ops nx2Ops cx2Ops] := by rw [HW7.out]; exact Blk.new _ _ _
    have yw7 : w6.heap.size < w7.heap.size := X2.lt
    have zw7 : w6.heap.size ≤ w7.heap.size := hb7.size
    replace T0 := below_next T0 hb7 rfl
    replace Tw := below_next Tw hb7 rfl
    replace Ox0 := Sh.onext Ox0 hb7
    replace Ox2 := Sh.onext Ox2 hb7
    replace P2 := P2.next hb7
    clear hb7
    have cP2_0 := P2.cell 0
    have cP2_1 := P2.cell 1
    have cX2_0 := X2.cell 0
    have cX2_1 := X2.cell 1
    simp only [List.getElem?_toArray, List.getElem?_cons_zero, List.getElem?_cons_succ] at cP2_0 cP2_1 cX2_0 cX2_1
    rw [HW7.out] at cP2_0
    rw [HW7.out] at cP2_1
    rw [HW7.out] at cX2_0
    rw [HW7.out] at cX2_1
    go_wp2_with fail
    rw [← HW7.out]
    clear cP2_0 cP2_1 cX2_0 cX2_1
    refine (implAddv_any vx0 x0 x1 [.int .i64 x2.1, .slice Ax2Ops nx2Ops cx2Ops] x2 _ ((Sh.rows shEntry 64).ord Ox0) h1 (shAlgebra.ord Ox2) hn0).mono ?_
    rintro e w8 ⟨vg, blg, rfl, Og, Ig, hb8⟩
    rw [HMO1.out]
    have zw8 : w7.heap.size ≤ w8.heap.size := hb8.size
    replace T0 := below_next T0 hb8 rfl
    replace Tw := below_next Tw hb8 rfl
    replace Ox0 := Sh.onext Ox0 hb8
    replace Ox2 := Sh.onext Ox2 hb8
    replace P2 := P2.next hb8
    replace X2 := X2.next hb8
    clear hb8
    rw [HMO0.out] at Og
    have cP2_0 := P2.cell 0
    have cP2_1 := P2.cell 1
    have cX2_0 := X2.cell 0
    have cX2_1 := X2.cell 1
    simp only [List.getElem?_toArray, List.getElem?_cons_zero, List.getElem?_cons_succ] at cP2_0 cP2_1 cX2_0 cX2_1
    go_wp2_with fail
    clear cP2_0 cP2_1 cX2_0 cX2_1
    refine (eqEntrySv_any vg vw mo0 mo0 _ ((Sh.rows shEntry 64).ord Og) ((Sh.rows shEntry 64).stab Rw Tw.block)).mono ?_
    rintro e w9 ⟨rfl, hb9⟩
    rw [eqC_self]
    have zw9 : w8.heap.size ≤ w9.heap.size := hb9.size
    replace T0 := below_next T0 hb9 rfl
    replace Tw := below_next Tw hb9 rfl
    replace Ox0 := Sh.onext Ox0 hb9
    replace Ox2 := Sh.onext Ox2 hb9
    replace Og := Sh.onext Og hb9
    replace P2 := P2.next hb9
    replace X2 := X2.next hb9
    clear hb9
    have cP2_0 := P2.cell 0
    have cP2_1 := P2.cell 1
    have cX2_0 := X2.cell 0
    have cX2_1 := X2.cell 1
    simp only [List.getElem?_toArray, List.getElem?_cons_zero, List.getElem?_cons_succ] at cP2_0 cP2_1 cX2_0 cX2_1
    go_wp2_with fail
    clear cP2_0 cP2_1 cX2_0 cX2_1
    refine (toEntrySv_any v0 x0 _ ((Sh.rows shEntry 64).stab h0 T0.block) hn0).mono ?_
    rintro e w10 ⟨vy0, bly0, rfl, Oy0, Iy0, hb10⟩
    have zw10 : w9.heap.size ≤ w10.heap.size := hb10.size
    replace T0 := below_next T0 hb10 rfl
    replace Tw := below_next Tw hb10 rfl
    replace Ox0 := Sh.onext Ox0 hb10
    replace Ox2 := Sh.onext Ox2 hb10
    replace Og := Sh.onext Og hb10
    replace P2 := P2.next hb10
    replace X2 := X2.next hb10
    clear hb10
    have cP2_0 := P2.cell 0
    have cP2_1 := P2.cell 1
    have cX2_0 := X2.cell 0
    have cX2_1 := X2.cell 1
    simp only [List.getElem?_toArray, List.getElem?_cons_zero, List.getElem?_cons_succ] at cP2_0 cP2_1 cX2_0 cX2_1
    go_wp2_with fail
    clear cP2_0 cP2_1 cX2_0 cX2_1
    refine (eqEntrySv_any vx0 vy0 x0 x0 _ ((Sh.rows shEntry 64).ord Ox0) ((Sh.rows shEntry 64).ord Oy0)).mono ?_
    rintro e w11 ⟨rfl, hb11⟩
    rw [eqC_self]
    have zw11 : w10.heap.size ≤ w11.heap.size := hb11.size
    replace T0 := below_next T0 hb11 rfl
    replace Tw := below_next Tw hb11 rfl
    replace Ox0 := Sh.onext Ox0 hb11
    replace Ox2 := Sh.onext Ox2 hb11
    replace Og := Sh.onext Og hb11
    replace Oy0 := Sh.onext Oy0 hb11
    replace P2 := P2.next hb11
    replace X2 := X2.next hb11
    clear hb11
    clear Oy0 Iy0
    have g2 := (shAlgebra.stab h2 T0.block)
    have Rx2 := shAlgebra.ord Ox2
    have cP2_0 := P2.cell 0
    have cP2_1 := P2.cell 1
    have cX2_0 := X2.cell 0
    have cX2_1 := X2.cell 1
    simp only [List.getElem?_toArray, List.getElem?_cons_zero, List.getElem?_cons_succ] at cP2_0 cP2_1 cX2_0 cX2_1
    go_upto_region 18 with fail
    clear cP2_0 cP2_1 cX2_0 cX2_1
    have cP2_0 := P2.cell 0
    have cP2_1 := P2.cell 1
    have cX2_0 := X2.cell 0
    have cX2_1 := X2.cell 1
    simp only [List.getElem?_toArray, List.getElem?_cons_zero, List.getElem?_cons_succ] at cP2_0 cP2_1 cX2_0 cX2_1
    have Tk : Below w11.heap.size w11 w11 := Below.refl _ _
    go_region_held3 (fun w' => w'.cell? ⟨w.heap.size, 0, none⟩ = some (.int .i64 x2.1) ∧ w'.cell? ⟨w.heap.size, 1, none⟩ = some (.slice Aa2Ops na2Ops ca2Ops) ∧ w'.cell? ⟨w6.heap.size, 0, none⟩ = some (.int .i64 x2.1) ∧ w'.cell? ⟨w6.heap.size, 1, none⟩ = some (.slice Ax2Ops nx2Ops cx2Ops)) (first | go_keep | exact ⟨keepc Tk cP2_0, keepc Tk cP2_1, keepc Tk cX2_0, keepc Tk cX2_1⟩) (first | (go_at_call 18; refine (toAlgebra_any [.int .i64 x2.1, .slice Aa2Ops na2Ops ca2Ops] x2 _ (shAlgebra.stab g2 (by first | exact Tk.block | exact (Below.drew Tk).block)) hn2).mono ?_; rintro e wn ⟨csn2, bn2, rfl, On, In, hbn⟩; have Rn2 := shAlgebra.ord On; clear On In; replace Tk := below_next (by first | exact Tk | exact Below.drew Tk) hbn rfl) | (go_at_call 20; refine (eqAlgebra_any [.int .i64 x2.1, .slice Ax2Ops nx2Ops cx2Ops] csn2 x2 x2 _ (shAlgebra.stab Rx2 (by first | exact Tk.block | exact (Below.drew Tk).block)) (by first | exact Rn2 | exact shAlgebra.stab Rn2 (below_drewN (Below.refl _ _) 1).block)).mono ?_; rintro e w12 ⟨rfl, hbn⟩; replace Tk := below_next (by first | exact Tk | exact Below.drew Tk) hbn rfl; rw [eqC_self]))
    have hb12 := Tk
    have zw12 : w11.heap.size ≤ w12.heap.size := hb12.size
    replace T0 := below_next T0 hb12 rfl
    replace Tw := below_next Tw hb12 rfl
    replace Ox0 := Sh.onext Ox0 hb12
    replace Ox2 := Sh.onext Ox2 hb12
    replace Og := Sh.onext Og hb12
    replace P2 := P2.next hb12
    replace X2 := X2.next hb12
    clear hb12 Tk cP2_0 cP2_1 cX2_0 cX2_1
    clear g2 Rx2
    try clear Rn2 hbn
    have k0_0 : (0 : Int) ≤ 1 := by omega
    have hm0 : cntS mcEntry x0 ≤ 4194304 := mcle_rowsEntry hn0
    have cP2_0 := P2.cell 0
    have cP2_1 := P2.cell 1
    have cX2_0 := X2.cell 0
    have cX2_1 := X2.cell 1
    simp only [List.getElem?_toArray, List.getElem?_cons_zero, List.getElem?_cons_succ] at cP2_0 cP2_1 cX2_0 cX2_1
    go_wp2_with fail
    clear cP2_0 cP2_1 cX2_0 cX2_1
    refine (markEntryS_any vx0 x0 blx0 (1) _ Ox0 Ix0.1 (by omega) (by omega)).mono ?_
    rintro e w13 ⟨rfl, -, hb13⟩
    have hg13 := hb13.chg (lo := w4.heap.size) (hi := w5.heap.size) Ix0.2
    have zw13 : w12.heap.size ≤ w13.heap.size := hg13.size
    replace T0 := T0.trans (hg13.below (by omega) (by have := T0.size; omega))
    replace Tw := Tw.trans (hg13.below (by omega) (by have := Tw.size; omega))
    replace Ox2 := Sh.okept Ox2 Ix2 hg13 (by omega)
    replace Og := Sh.okept Og Ig hg13 (by omega)
    replace P2 := P2.chg' hg13 (by omega)
    replace X2 := X2.chg' hg13 (by omega)
    clear hb13 hg13
    clear Ox0
    have hm2 : msAlgebra x2 ≤ 4194304 := mcle_stAlgebra hn2
    have cP2_0 := P2.cell 0
    have cP2_1 := P2.cell 1
    have cX2_0 := X2.cell 0
    have cX2_1 := X2.cell 1
    simp only [List.getElem?_toArray, List.getElem?_cons_zero, List.getElem?_cons_succ] at cP2_0 cP2_1 cX2_0 cX2_1
    go_wp2_with fail
    clear cP2_0 cP2_1 cX2_0 cX2_1
    refine (markAlgebra_any [.int .i64 x2.1, .slice Ax2Ops nx2Ops cx2Ops] x2 blx2 (1 + ((cntS mcEntry x0 : Nat) : Int)) _ Ox2 Ix2.1 (by omega) (by omega)).mono ?_
    rintro e w14 ⟨rfl, -, hb14⟩
    have hg14 := hb14.chg (lo := w5.heap.size) (hi := w6.heap.size) Ix2.2
    have zw14 : w13.heap.size ≤ w14.heap.size := hg14.size
    replace T0 := T0.trans (hg14.below (by omega) (by have := T0.size; omega))
    replace Tw := Tw.trans (hg14.below (by omega) (by have := Tw.size; omega))
    replace Og := Sh.okept Og Ig hg14 (by omega)
    replace P2 := P2.chg' hg14 (by omega)
    replace X2 := X2.chg' hg14 (by omega)
    clear hb14 hg14
    clear Ox2
    have hk0 : ¬ (1 + ((cntS mcEntry x0 : Nat) : Int) + ((msAlgebra x2 : Nat) : Int) < (0 : Int)) := by omega
    have cP2_0 := P2.cell 0
    have cP2_1 := P2.cell 1
    have cX2_0 := X2.cell 0
    have cX2_1 := X2.cell 1
    simp only [List.getElem?_toArray, List.getElem?_cons_zero, List.getElem?_cons_succ] at cP2_0 cP2_1 cX2_0 cX2_1
    go_wp2_with fail
    clear cP2_0 cP2_1 cX2_0 cX2_1
    refine (eqEntrySv_any vg vw mo0 mo0 _ ((Sh.rows shEntry 64).ord Og) ((Sh.rows shEntry 64).stab Rw Tw.block)).mono ?_
    rintro e w15 ⟨rfl, hb15⟩
    rw [eqC_self]
    have zw15 : w14.heap.size ≤ w15.heap.size := hb15.size
    replace T0 := below_next T0 hb15 rfl
    replace Tw := below_next Tw hb15 rfl
    replace Og := Sh.onext Og hb15
    replace P2 := P2.next hb15
    replace X2 := X2.next hb15
    clear hb15
    have hmr : cntS mcEntry mo0 ≤ 4194304 := by rw [← HMO0.out]; exact mcle_rowsEntry adP_cnt
    have cP2_0 := P2.cell 0
    have cP2_1 := P2.cell 1
    have cX2_0 := X2.cell 0
    have cX2_1 := X2.cell 1
    simp only [List.getElem?_toArray, List.getElem?_cons_zero, List.getElem?_cons_succ] at cP2_0 cP2_1 cX2_0 cX2_1
    go_wp2_with fail
    clear cP2_0 cP2_1 cX2_0 cX2_1
    refine (markEntryS_any vg mo0 blg 1 _ Og Ig.1 (by omega) (by omega)).mono ?_
    rintro e w16 ⟨rfl, Om, hb16⟩
    have hg16 := hb16.chg (lo := w7.heap.size) (hi := w8.heap.size) Ig.2
    have zw16 : w15.heap.size ≤ w16.heap.size := hg16.size
    replace T0 := T0.trans (hg16.below (by omega) (by have := T0.size; omega))
    replace Tw := Tw.trans (hg16.below (by omega) (by have := Tw.size; omega))
    replace P2 := P2.chg' hg16 (by omega)
    replace X2 := X2.chg' hg16 (by omega)
    clear hb16 hg16
    clear Og
    have hq0 : ¬ (1 + ((cntS mcEntry mo0 : Nat) : Int) < 0) := by omega
    have hqq : ((1 + ((cntS mcEntry mo0 : Nat) : Int)) != (1 + ((cntS mcEntry mo0 : Nat) : Int))) = false := by simp
    have cP2_0 := P2.cell 0
    have cP2_1 := P2.cell 1
    have cX2_0 := X2.cell 0
    have cX2_1 := X2.cell 1
    simp only [List.getElem?_toArray, List.getElem?_cons_zero, List.getElem?_cons_succ] at cP2_0 cP2_1 cX2_0 cX2_1
    go_wp2_with fail
    clear cP2_0 cP2_1 cX2_0 cX2_1
    refine (heldEntryS_any vg mo0 1 _ ((Sh.rows shEntry 64).ord Om) (by omega) (by omega)).mono ?_
    rintro e w17 ⟨rfl, hb17⟩
    have zw17 : w16.heap.size ≤ w17.heap.size := hb17.size
    replace T0 := below_next T0 hb17 rfl
    replace Tw := below_next Tw hb17 rfl
    replace Om := Sh.onext Om hb17
    replace P2 := P2.next hb17
    replace X2 := X2.next hb17
    clear hb17
    have g0 := ((Sh.rows shEntry 64).stab h0 T0.block)
    have g2 := (shAlgebra.stab h2 T0.block)
    have cP2_0 := P2.cell 0
    have cP2_1 := P2.cell 1
    have cX2_0 := X2.cell 0
    have cX2_1 := X2.cell 1
    simp only [List.getElem?_toArray, List.getElem?_cons_zero, List.getElem?_cons_succ] at cP2_0 cP2_1 cX2_0 cX2_1
    go_upto_region 33 with fail
    clear cP2_0 cP2_1 cX2_0 cX2_1
    have cP2_0 := P2.cell 0
    have cP2_1 := P2.cell 1
    have cX2_0 := X2.cell 0
    have cX2_1 := X2.cell 1
    simp only [List.getElem?_toArray, List.getElem?_cons_zero, List.getElem?_cons_succ] at cP2_0 cP2_1 cX2_0 cX2_1
    have Tk : Below w17.heap.size w17 w17 := Below.refl _ _
    go_cut [17, 18] (fun u17 u18 wx => (∃ bl, (Sh.rows shEntry 64).own wx [u17] mo0 bl) ∧ u18 = .bool mo1 ∧ Below w17.heap.size w17 wx)
    case first =>
      go_region_held3 (fun w' => w'.cell? ⟨w.heap.size, 0, none⟩ = some (.int .i64 x2.1) ∧ w'.cell? ⟨w.heap.size, 1, none⟩ = some (.slice Aa2Ops na2Ops ca2Ops) ∧ w'.cell? ⟨w6.heap.size, 0, none⟩ = some (.int .i64 x2.1) ∧ w'.cell? ⟨w6.heap.size, 1, none⟩ = some (.slice Ax2Ops nx2Ops cx2Ops)) (first | go_keep | exact ⟨keepc Tk cP2_0, keepc Tk cP2_1, keepc Tk cX2_0, keepc Tk cX2_1⟩) (first | (go_at_call 11; refine (toEntrySv_any v0 x0 _ ((Sh.rows shEntry 64).stab g0 (by first | exact Tk.block | exact (Below.drew Tk).block)) hn0).mono ?_; rintro e wn ⟨vn0, bn0, rfl, On, In, hbn⟩; have Rn0 := (Sh.rows shEntry 64).ord On; clear On In; replace Tk := below_next (by first | exact Tk | exact Below.drew Tk) hbn rfl; (try replace Rn2 := shAlgebra.stab Rn2 hbn.block)) | (go_at_call 18; refine (toAlgebra_any [.int .i64 x2.1, .slice Aa2Ops na2Ops ca2Ops] x2 _ (shAlgebra.stab g2 (by first | exact Tk.block | exact (Below.drew Tk).block)) hn2).mono ?_; rintro e wn ⟨csn2, bn2, rfl, On, In, hbn⟩; have Rn2 := shAlgebra.ord On; clear On In; replace Tk := below_next (by first | exact Tk | exact Below.drew Tk) hbn rfl; (try replace Rn0 := (Sh.rows shEntry 64).stab Rn0 hbn.block)) | (go_at_call 19; refine (implAddv_any vn0 x0 x1 csn2 x2 _ Rn0 h1 Rn2 hn0).mono ?_; rintro e wn ⟨vh, blh, rfl, Oh, -, hbn⟩; replace Tk := below_next (by first | exact Tk | exact Below.drew Tk) hbn rfl; rw [HMO1.out]))
      all_goals (go_wp2_with fail; go_meet; exact ⟨⟨_, by rw [HMO0.out] at Oh; exact Oh⟩, rfl, Tk⟩)
    case rest =>
      obtain ⟨⟨blh, Oh⟩, rfl, hb18⟩ := hcut
      obtain ⟨vh, HVW⟩ : ∃ v, v = u17 := ⟨_, rfl⟩
      subst HVW
      obtain ⟨w18, HWC⟩ : ∃ wq : World, wq = wc := ⟨_, rfl⟩
      subst HWC
      have zw18 : w17.heap.size ≤ w18.heap.size := hb18.size
      replace T0 := below_next T0 hb18 rfl
      replace Tw := below_next Tw hb18 rfl
      replace Om := Sh.onext Om hb18
      replace P2 := P2.next hb18
      replace X2 := X2.next hb18
      clear hb18 Tk cP2_0 cP2_1 cX2_0 cX2_1
      clear g0
      clear g2
      have cP2_0 := P2.cell 0
      have cP2_1 := P2.cell 1
      have cX2_0 := X2.cell 0
      have cX2_1 := X2.cell 1
      simp only [List.getElem?_toArray, List.getElem?_cons_zero, List.getElem?_cons_succ] at cP2_0 cP2_1 cX2_0 cX2_1
      go_wp2_with fail
      clear cP2_0 cP2_1 cX2_0 cX2_1
      refine (eqEntrySv_any vh vw mo0 mo0 _ ((Sh.rows shEntry 64).ord Oh) ((Sh.rows shEntry 64).stab Rw Tw.block)).mono ?_
      rintro e w19 ⟨rfl, hb19⟩
      rw [eqC_self]
      have zw19 : w18.heap.size ≤ w19.heap.size := hb19.size
      replace T0 := below_next T0 hb19 rfl
      replace Tw := below_next Tw hb19 rfl
      replace Om := Sh.onext Om hb19
      replace Oh := Sh.onext Oh hb19
      replace P2 := P2.next hb19
      replace X2 := X2.next hb19
      clear hb19
      have cP2_0 := P2.cell 0
      have cP2_1 := P2.cell 1
      have cX2_0 := X2.cell 0
      have cX2_1 := X2.cell 1
      simp only [List.getElem?_toArray, List.getElem?_cons_zero, List.getElem?_cons_succ] at cP2_0 cP2_1 cX2_0 cX2_1
      go_wp2_with fail
      clear cP2_0 cP2_1 cX2_0 cX2_1
      refine (heldEntryS_any vg mo0 1 _ ((Sh.rows shEntry 64).ord Om) (by omega) (by omega)).mono ?_
      rintro e w20 ⟨rfl, hb20⟩
      have zw20 : w19.heap.size ≤ w20.heap.size := hb20.size
      replace T0 := below_next T0 hb20 rfl
      replace Tw := below_next Tw hb20 rfl
      replace Om := Sh.onext Om hb20
      replace Oh := Sh.onext Oh hb20
      replace P2 := P2.next hb20
      replace X2 := X2.next hb20
      clear hb20
      have cP2_0 := P2.cell 0
      have cP2_1 := P2.cell 1
      have cX2_0 := X2.cell 0
      have cX2_1 := X2.cell 1
      simp only [List.getElem?_toArray, List.getElem?_cons_zero, List.getElem?_cons_succ] at cP2_0 cP2_1 cX2_0 cX2_1
      go_wp2_with fail
      clear cP2_0 cP2_1 cX2_0 cX2_1
      go_ret
      exact ⟨rfl, T0⟩
end Go.Proofs.Ytbpdbimdefdefaa
