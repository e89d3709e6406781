
/- The walk of the law FnExactIsValidConsole. Printed by genlaw3.py. -/
import Derived.Test.YtbonebpheimbaaaGreatDoorCons
import Derived.Deep.RegionHeld3
import Derived.Deep.DeepCutAuto
namespace Go.Proofs.YtbonebpheimbaaaGreatDoor
open Go.RowKit

set_option linter.unusedVariables false in
set_option maxRecDepth 100000 in
set_option maxHeartbeats 16000000 in
theorem lawIsValidConsole (cs0 : List Value) (x0 : ConsoleM) (w : World) (h0 : shConsole.rd w cs0 x0) (tab : Lg.Tab w) :
    Calls Tryz.prog 3 #[.agg cs0.toArray] w (Bl w (.bool true)) := by
  have HTAB := Lib.hid tab
  clear tab
  have hh0 := h0
  obtain ⟨Aa0LabBaseOps, na0LabBaseOps, ca0LabBaseOps, Aa0LabFacts, na0LabFacts, ca0LabFacts, rfl, qa0LabBaseSize, qa0LabBaseOps, qa0LabFacts, qa0LabRefused, qa0LogDurable, qa0LogPending, qa0LogCount⟩ := rdConsole hh0
  clear hh0
  have T0 : Below w.heap.size w w := Below.refl _ _
  obtain ⟨w1, HW1', hb1, hsz1, P0⟩ := boxes1 w #[.bool x0.1.1, .int .i64 x0.1.2.1.1, .slice Aa0LabBaseOps na0LabBaseOps ca0LabBaseOps, .slice Aa0LabFacts na0LabFacts ca0LabFacts, .int .i64 x0.1.2.2.2, .string x0.2.1, .string x0.2.2.1, .int .i64 x0.2.2.2] 31
  have HW1 := Lib.hid HW1'
  clear HW1'
  have zw1 : w.heap.size ≤ w1.heap.size := hb1.size
  replace T0 := below_next T0 hb1 rfl
  clear hb1
  have L0 : (0 : Int) ≤ 1048576 ∧ (1048576 : Int) ≤ 1048576 := by omega
  go_enter Tryz.func3, Tryz.ntmps3
  have cP0_0 := P0.cell 0
  have cP0_1 := P0.cell 1
  have cP0_2 := P0.cell 2
  have cP0_3 := P0.cell 3
  have cP0_4 := P0.cell 4
  have cP0_5 := P0.cell 5
  have cP0_6 := P0.cell 6
  have cP0_7 := P0.cell 7
  simp only [List.getElem?_toArray, List.getElem?_cons_zero, List.getElem?_cons_succ] at cP0_0 cP0_1 cP0_2 cP0_3 cP0_4 cP0_5 cP0_6 cP0_7
  rw [HW1.out] at cP0_0
  rw [HW1.out] at cP0_1
  rw [HW1.out] at cP0_2
  rw [HW1.out] at cP0_3
  rw [HW1.out] at cP0_4
  rw [HW1.out] at cP0_5
  rw [HW1.out] at cP0_6
  rw [HW1.out] at cP0_7
  go_wp2_with fail
  rw [← HW1.out]
  clear cP0_0 cP0_1 cP0_2 cP0_3 cP0_4 cP0_5 cP0_6 cP0_7
  refine (szConsole_any [.bool x0.1.1, .int .i64 x0.1.2.1.1, .slice Aa0LabBaseOps na0LabBaseOps ca0LabBaseOps, .slice Aa0LabFacts na0LabFacts ca0LabFacts, .int .i64 x0.1.2.2.2, .string x0.2.1, .string x0.2.2.1, .int .i64 x0.2.2.2] x0 1048576 _ (shConsole.stab h0 T0.block) L0.1 L0.2).mono ?_
  rintro e w2 ⟨rfl, hb2⟩
  have zw2 : w1.heap.size ≤ w2.heap.size := hb2.size
  replace T0 := below_next T0 hb2 rfl
  replace P0 := P0.next hb2
  clear hb2
  obtain ⟨l0, HL0⟩ : ∃ l, Hid (szR (shConsole.cnt x0) 1048576 = l) := ⟨_, rfl⟩
  have bd0 := szR_bd (shConsole.cnt x0) (left := 1048576) L0.1
  rw [HL0.out] at bd0 ⊢
  by_cases z0 : l0 < 0
  · go_wp2_with fail
    go_ret
    exact ⟨rfl, T0⟩
  have hn0 : (shConsole.cnt x0) ≤ 1048576 := by have := szR_ok (a := (shConsole.cnt x0)) (left := 1048576) (by rw [HL0.out]; exact z0); omega
  have M0 : 0 ≤ l0 ∧ l0 ≤ 1048576 := by omega
  clear bd0
  obtain ⟨mo0, HMO0⟩ : ∃ b, Hid (conB x0 = b) := ⟨_, rfl⟩
  have hbb0 := bne_self mo0
  have cP0_0 := P0.cell 0
  have cP0_1 := P0.cell 1
  have cP0_2 := P0.cell 2
  have cP0_3 := P0.cell 3
  have cP0_4 := P0.cell 4
  have cP0_5 := P0.cell 5
  have cP0_6 := P0.cell 6
  have cP0_7 := P0.cell 7
  simp only [List.getElem?_toArray, List.getElem?_cons_zero, List.getElem?_cons_succ] at cP0_0 cP0_1 cP0_2 cP0_3 cP0_4 cP0_5 cP0_6 cP0_7
  go_wp2_with fail
  clear cP0_0 cP0_1 cP0_2 cP0_3 cP0_4 cP0_5 cP0_6 cP0_7
  refine (toConsole_any [.bool x0.1.1, .int .i64 x0.1.2.1.1, .slice Aa0LabBaseOps na0LabBaseOps ca0LabBaseOps, .slice Aa0LabFacts na0LabFacts ca0LabFacts, .int .i64 x0.1.2.2.2, .string x0.2.1, .string x0.2.2.1, .int .i64 x0.2.2.2] x0 _ (shConsole.stab h0 T0.block) hn0).mono ?_
  rintro e w3 ⟨csn0, bln0, rfl, On0, In0, hb3⟩
  have zw3 : w2.heap.size ≤ w3.heap.size := hb3.size
  replace T0 := below_next T0 hb3 rfl
  replace P0 := P0.next hb3
  clear hb3
  obtain ⟨An0LabBaseOps, nn0LabBaseOps, cn0LabBaseOps, An0LabFacts, nn0LabFacts, cn0LabFacts, rfl, -, -, -, -, -, -, -⟩ := rdConsole (shConsole.ord On0)
  have cP0_0 := P0.cell 0
  have cP0_1 := P0.cell 1
  have cP0_2 := P0.cell 2
  have cP0_3 := P0.cell 3
  have cP0_4 := P0.cell 4
  have cP0_5 := P0.cell 5
  have cP0_6 := P0.cell 6
  have cP0_7 := P0.cell 7
  simp only [List.getElem?_toArray, List.getElem?_cons_zero, List.getElem?_cons_succ] at cP0_0 cP0_1 cP0_2 cP0_3 cP0_4 cP0_5 cP0_6 cP0_7
  go_wp2_with fail
  clear cP0_0 cP0_1 cP0_2 cP0_3 cP0_4 cP0_5 cP0_6 cP0_7
  refine (specIVC_any [.bool x0.1.1, .int .i64 x0.1.2.1.1, .slice An0LabBaseOps nn0LabBaseOps cn0LabBaseOps, .slice An0LabFacts nn0LabFacts cn0LabFacts, .int .i64 x0.1.2.2.2, .string x0.2.1, .string x0.2.2.1, .int .i64 x0.2.2.2] x0 _ (shConsole.ord On0) (console_cnt hn0)).mono ?_
  rintro e w4 ⟨rfl, hb4⟩
  rw [HMO0.out]
  have zw4 : w3.heap.size ≤ w4.heap.size := hb4.size
  replace T0 := below_next T0 hb4 rfl
  replace On0 := Sh.onext On0 hb4
  replace P0 := P0.next hb4
  clear hb4
  clear On0 In0
  have cP0_0 := P0.cell 0
  have cP0_1 := P0.cell 1
  have cP0_2 := P0.cell 2
  have cP0_3 := P0.cell 3
  have cP0_4 := P0.cell 4
  have cP0_5 := P0.cell 5
  have cP0_6 := P0.cell 6
  have cP0_7 := P0.cell 7
  simp only [List.getElem?_toArray, List.getElem?_cons_zero, List.getElem?_cons_succ] at cP0_0 cP0_1 cP0_2 cP0_3 cP0_4 cP0_5 cP0_6 cP0_7
  go_wp2_with fail
  clear cP0_0 cP0_1 cP0_2 cP0_3 cP0_4 cP0_5 cP0_6 cP0_7
  refine (toConsole_any [.bool x0.1.1, .int .i64 x0.1.2.1.1, .slice Aa0LabBaseOps na0LabBaseOps ca0LabBaseOps, .slice Aa0LabFacts na0LabFacts ca0LabFacts, .int .i64 x0.1.2.2.2, .string x0.2.1, .string x0.2.2.1, .int .i64 x0.2.2.2] x0 _ (shConsole.stab h0 T0.block) hn0).mono ?_
  rintro e w5 ⟨csx0, blx0, rfl, Ox0, Ix0, hb5⟩
  have zw5 : w4.heap.size ≤ w5.heap.size := hb5.size
  replace T0 := below_next T0 hb5 rfl
  replace P0 := P0.next hb5
  clear hb5
  obtain ⟨Ax0LabBaseOps, nx0LabBaseOps, cx0LabBaseOps, Ax0LabFacts, nx0LabFacts, cx0LabFacts, rfl, -, -, -, -, -, -, -⟩ := rdConsole (shConsole.ord Ox0)
  obtain ⟨w6, HW6⟩ : ∃ wb, Hid (wb = w5.alloc (.cells #[.bool x0.1.1, .int .i64 x0.1.2.1.1, .slice Ax0LabBaseOps nx0LabBaseOps cx0LabBaseOps, .slice Ax0LabFacts nx0LabFacts cx0LabFacts, .int .i64 x0.1.2.2.2, .string x0.2.1, .string x0.2.2.1, .int .i64 x0.2.2.2] 42)) := ⟨_, rfl⟩
  have hb6 : Below w5.heap.size w5 w6 := by rw [HW6.out]; exact below_box _ _
  have X0 : Blk w6 w5.heap.size 42 #[.bool x0.1.1, .int .i64 x0.1.2.1.1, .slice Ax0LabBaseOps nx0LabBaseOps cx0LabBaseOps, .slice Ax0LabFacts nx0LabFacts cx0LabFacts, .int .i64 x0.1.2.2.2, .string x0.2.1, .string x0.2.2.1, .int .i64 x0.2.2.2] := by rw [HW6.out]; exact Blk.new _ _ _
  have yw6 : w5.heap.size < w6.heap.size := X0.lt
  have zw6 : w5.heap.size ≤ w6.heap.size := hb6.size
  replace T0 := below_next T0 hb6 rfl
  replace Ox0 := Sh.onext Ox0 hb6
  replace P0 := P0.next hb6
  clear hb6
  have cP0_0 := P0.cell 0
  have cP0_1 := P0.cell 1
  have cP0_2 := P0.cell 2
  have cP0_3 := P0.cell 3
  have cP0_4 := P0.cell 4
  have cP0_5 := P0.cell 5
  have cP0_6 := P0.cell 6
  have cP0_7 := P0.cell 7
  have cX0_0 := X0.cell 0
  have cX0_1 := X0.cell 1
  have cX0_2 := X0.cell 2
  have cX0_3 := X0.cell 3
  have cX0_4 := X0.cell 4
  have cX0_5 := X0.cell 5
  have cX0_6 := X0.cell 6
  have cX0_7 := X0.cell 7
  simp only [List.getElem?_toArray, List.getElem?_cons_zero, List.getElem?_cons_succ] at cP0_0 cP0_1 cP0_2 cP0_3 cP0_4 cP0_5 cP0_6 cP0_7 cX0_0 cX0_1 cX0_2 cX0_3 cX0_4 cX0_5 cX0_6 cX0_7
  rw [HW6.out] at cP0_0
  rw [HW6.out] at cP0_1
  rw [HW6.out] at cP0_2
  rw [HW6.out] at cP0_3
  rw [HW6.out] at cP0_4
  rw [HW6.out] at cP0_5
  rw [HW6.out] at cP0_6
  rw [HW6.out] at cP0_7
  rw [HW6.out] at cX0_0
  rw [HW6.out] at cX0_1
  rw [HW6.out] at cX0_2
  rw [HW6.out] at cX0_3
  rw [HW6.out] at cX0_4
  rw [HW6.out] at cX0_5
  rw [HW6.out] at cX0_6
  rw [HW6.out] at cX0_7
  go_wp2_with fail
  rw [← HW6.out]
  clear cP0_0 cP0_1 cP0_2 cP0_3 cP0_4 cP0_5 cP0_6 cP0_7 cX0_0 cX0_1 cX0_2 cX0_3 cX0_4 cX0_5 cX0_6 cX0_7
  refine (implIVC_any [.bool x0.1.1, .int .i64 x0.1.2.1.1, .slice Ax0LabBaseOps nx0LabBaseOps cx0LabBaseOps, .slice Ax0LabFacts nx0LabFacts cx0LabFacts, .int .i64 x0.1.2.2.2, .string x0.2.1, .string x0.2.2.1, .int .i64 x0.2.2.2] x0 _ (shConsole.ord Ox0) (capConsole Ox0) (console_cnt hn0) (HTAB.out.next T0)).mono ?_
  rintro e w7 ⟨rfl, hb7⟩
  rw [HMO0.out]
  have zw7 : w6.heap.size ≤ w7.heap.size := hb7.size
  replace T0 := below_next T0 hb7 rfl
  replace Ox0 := Sh.onext Ox0 hb7
  replace P0 := P0.next hb7
  replace X0 := X0.next hb7
  clear hb7
  have g0 := (shConsole.stab h0 T0.block)
  have Rx0 := shConsole.ord Ox0
  have cP0_0 := P0.cell 0
  have cP0_1 := P0.cell 1
  have cP0_2 := P0.cell 2
  have cP0_3 := P0.cell 3
  have cP0_4 := P0.cell 4
  have cP0_5 := P0.cell 5
  have cP0_6 := P0.cell 6
  have cP0_7 := P0.cell 7
  have cX0_0 := X0.cell 0
  have cX0_1 := X0.cell 1
  have cX0_2 := X0.cell 2
  have cX0_3 := X0.cell 3
  have cX0_4 := X0.cell 4
  have cX0_5 := X0.cell 5
  have cX0_6 := X0.cell 6
  have cX0_7 := X0.cell 7
  simp only [List.getElem?_toArray, List.getElem?_cons_zero, List.getElem?_cons_succ] at cP0_0 cP0_1 cP0_2 cP0_3 cP0_4 cP0_5 cP0_6 cP0_7 cX0_0 cX0_1 cX0_2 cX0_3 cX0_4 cX0_5 cX0_6 cX0_7
  go_upto_region 10 with fail
  clear cP0_0 cP0_1 cP0_2 cP0_3 cP0_4 cP0_5 cP0_6 cP0_7 cX0_0 cX0_1 cX0_2 cX0_3 cX0_4 cX0_5 cX0_6 cX0_7
  have cP0_0 := P0.cell 0
  have cP0_1 := P0.cell 1
  have cP0_2 := P0.cell 2
  have cP0_3 := P0.cell 3
  have cP0_4 := P0.cell 4
  have cP0_5 := P0.cell 5
  have cP0_6 := P0.cell 6
  have cP0_7 := P0.cell 7
  have cX0_0 := X0.cell 0
  have cX0_1 := X0.cell 1
  have cX0_2 := X0.cell 2
  have cX0_3 := X0.cell 3
  have cX0_4 := X0.cell 4
  have cX0_5 := X0.cell 5
  have cX0_6 := X0.cell 6
  have cX0_7 := X0.cell 7
  simp only [List.getElem?_toArray, List.getElem?_cons_zero, List.getElem?_cons_succ] at cP0_0 cP0_1 cP0_2 cP0_3 cP0_4 cP0_5 cP0_6 cP0_7 cX0_0 cX0_1 cX0_2 cX0_3 cX0_4 cX0_5 cX0_6 cX0_7
  have Tk : Below w7.heap.size w7 w7 := Below.refl _ _
  go_region_held3 (fun w' => w'.cell? ⟨w.heap.size, 0, none⟩ = some (.bool x0.1.1) ∧ w'.cell? ⟨w.heap.size, 1, none⟩ = some (.int .i64 x0.1.2.1.1) ∧ w'.cell? ⟨w.heap.size, 2, none⟩ = some (.slice Aa0LabBaseOps na0LabBaseOps ca0LabBaseOps) ∧ w'.cell? ⟨w.heap.size, 3, none⟩ = some (.slice Aa0LabFacts na0LabFacts ca0LabFacts) ∧ w'.cell? ⟨w.heap.size, 4, none⟩ = some (.int .i64 x0.1.2.2.2) ∧ w'.cell? ⟨w.heap.size, 5, none⟩ = some (.string x0.2.1) ∧ w'.cell? ⟨w.heap.size, 6, none⟩ = some (.string x0.2.2.1) ∧ w'.cell? ⟨w.heap.size, 7, none⟩ = some (.int .i64 x0.2.2.2) ∧ w'.cell? ⟨w5.heap.size, 0, none⟩ = some (.bool x0.1.1) ∧ w'.cell? ⟨w5.heap.size, 1, none⟩ = some (.int .i64 x0.1.2.1.1) ∧ w'.cell? ⟨w5.heap.size, 2, none⟩ = some (.slice Ax0LabBaseOps nx0LabBaseOps cx0LabBaseOps) ∧ w'.cell? ⟨w5.heap.size, 3, none⟩ = some (.slice Ax0LabFacts nx0LabFacts cx0LabFacts) ∧ w'.cell? ⟨w5.heap.size, 4, none⟩ = some (.int .i64 x0.1.2.2.2) ∧ w'.cell? ⟨w5.heap.size, 5, none⟩ = some (.string x0.2.1) ∧ w'.cell? ⟨w5.heap.size, 6, none⟩ = some (.string x0.2.2.1) ∧ w'.cell? ⟨w5.heap.size, 7, none⟩ = some (.int .i64 x0.2.2.2)) (first | go_keep | exact ⟨keepc Tk cP0_0, keepc Tk cP0_1, keepc Tk cP0_2, keepc Tk cP0_3, keepc Tk cP0_4, keepc Tk cP0_5, keepc Tk cP0_6, keepc Tk cP0_7, keepc Tk cX0_0, keepc Tk cX0_1, keepc Tk cX0_2, keepc Tk cX0_3, keepc Tk cX0_4, keepc Tk cX0_5, keepc Tk cX0_6, keepc Tk cX0_7⟩) (first | (go_at_call 7; refine (toConsole_any [.bool x0.1.1, .int .i64 x0.1.2.1.1, .slice Aa0LabBaseOps na0LabBaseOps ca0LabBaseOps, .slice Aa0LabFacts na0LabFacts ca0LabFacts, .int .i64 x0.1.2.2.2, .string x0.2.1, .string x0.2.2.1, .int .i64 x0.2.2.2] x0 _ (shConsole.stab g0 (by first | exact Tk.block | exact (Below.drew Tk).block)) hn0).mono ?_; rintro e wn ⟨csn0, bn0, rfl, On, In, hbn⟩; have Rn0 := shConsole.ord On; clear On In; replace Tk := below_next (by first | exact Tk | exact Below.drew Tk) hbn rfl) | (go_at_call 9; refine (eqConsole_any [.bool x0.1.1, .int .i64 x0.1.2.1.1, .slice Ax0LabBaseOps nx0LabBaseOps cx0LabBaseOps, .slice Ax0LabFacts nx0LabFacts cx0LabFacts, .int .i64 x0.1.2.2.2, .string x0.2.1, .string x0.2.2.1, .int .i64 x0.2.2.2] csn0 x0 x0 _ (shConsole.stab Rx0 (by first | exact Tk.block | exact (Below.drew Tk).block)) (by first | exact Rn0 | exact shConsole.stab Rn0 (below_drewN (Below.refl _ _) 1).block)).mono ?_; rintro e w8 ⟨rfl, hbn⟩; replace Tk := below_next (by first | exact Tk | exact Below.drew Tk) hbn rfl; rw [eqC_self]))
  have hb8 := Tk
  have zw8 : w7.heap.size ≤ w8.heap.size := hb8.size
  replace T0 := below_next T0 hb8 rfl
  replace Ox0 := Sh.onext Ox0 hb8
  replace P0 := P0.next hb8
  replace X0 := X0.next hb8
  clear hb8 Tk cP0_0 cP0_1 cP0_2 cP0_3 cP0_4 cP0_5 cP0_6 cP0_7 cX0_0 cX0_1 cX0_2 cX0_3 cX0_4 cX0_5 cX0_6 cX0_7
  clear g0 Rx0
  try clear Rn0 hbn
  have cP0_0 := P0.cell 0
  have cP0_1 := P0.cell 1
  have cP0_2 := P0.cell 2
  have cP0_3 := P0.cell 3
  have cP0_4 := P0.cell 4
  have cP0_5 := P0.cell 5
  have cP0_6 := P0.cell 6
  have cP0_7 := P0.cell 7
  have cX0_0 := X0.cell 0
  have cX0_1 := X0.cell 1
  have cX0_2 := X0.cell 2
  have cX0_3 := X0.cell 3
  have cX0_4 := X0.cell 4
  have cX0_5 := X0.cell 5
  have cX0_6 := X0.cell 6
  have cX0_7 := X0.cell 7
  simp only [List.getElem?_toArray, List.getElem?_cons_zero, List.getElem?_cons_succ] at cP0_0 cP0_1 cP0_2 cP0_3 cP0_4 cP0_5 cP0_6 cP0_7 cX0_0 cX0_1 cX0_2 cX0_3 cX0_4 cX0_5 cX0_6 cX0_7
  go_wp2_with fail
  clear cP0_0 cP0_1 cP0_2 cP0_3 cP0_4 cP0_5 cP0_6 cP0_7 cX0_0 cX0_1 cX0_2 cX0_3 cX0_4 cX0_5 cX0_6 cX0_7
  go_ret
  exact ⟨rfl, T0⟩
end Go.Proofs.YtbonebpheimbaaaGreatDoor
