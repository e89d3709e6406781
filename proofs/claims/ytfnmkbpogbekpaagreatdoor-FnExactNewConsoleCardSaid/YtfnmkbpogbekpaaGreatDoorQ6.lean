/- Parts of the proof: LawNewConsole, LaidP. -/
import Derived.Test.YtfnmkbpogbekpaaGreatDoorQ5
import Derived.Deep.RegionHeld3
import Derived.Deep.DeepCutAuto
import Derived.Test.YtfnmkbpogbekpaaGreatDoorRows
import Derived.Test.YtfnmkbpogbekpaaGreatDoorQ2
import Derived.ProofKit
import Derived.HandedShaped
import Derived.LaidMore
import Derived.OpenShut
import Derived.Stop.Joined
import Derived.MakeChecks
import Derived.Lib.LaidTab
import Derived.Lay
import Derived.Stop.LaidErr
import Derived.Shelf.Vars
namespace Go.Proofs.YtfnmkbpogbekpaaGreatDoor
open Go.RowKit

set_option linter.unusedVariables false in
set_option linter.unusedSimpArgs false in
set_option maxRecDepth 100000 in
set_option maxHeartbeats 16000000 in
theorem lawNewConsole (x0 : ByteArray) (w : World) (h0 : x0.size ≤ maxLen) (tab : TabP w) :
    Calls Tryz.prog 3 #[.string x0] w (Bl w (.bool true)) := by
  have HTAB := Lib.hid tab
  clear tab
  have hs0 := h0
  unfold maxLen at hs0
  have T0 : Below w.heap.size w w := Below.refl _ _
  have L0 : (0 : Int) ≤ 1048576 ∧ (1048576 : Int) ≤ 1048576 := by omega
  go_enter Tryz.func3, Tryz.ntmps3
  by_cases z0 : (1048576 : Int) < (x0.size : Int)
  · go_wp2_with fail
    go_ret
    exact ⟨rfl, T0⟩
  have hn0 : x0.size ≤ 1048576 := by omega
  obtain ⟨mo0, HMO0⟩ : ∃ b, Hid (ncR x0 = b) := ⟨_, rfl⟩
  obtain ⟨mo1, HMO1⟩ : ∃ b, Hid (ncB x0 = b) := ⟨_, rfl⟩
  have hbb1 := bne_self mo1
  go_wp2_with fail
  refine (specNC_any x0 _ hn0).mono ?_
  rintro e w1 ⟨csw, rfl, Rw, hb1⟩
  rw [HMO1.out]
  have zw1 : w.heap.size ≤ w1.heap.size := hb1.size
  replace T0 := below_next T0 hb1 rfl
  clear hb1
  rw [HMO0.out] at Rw
  have Tw : Below w1.heap.size w1 w1 := Below.refl _ _
  have Rw' := Rw
  obtain ⟨AwLabBaseOps, nwLabBaseOps, cwLabBaseOps, AwLabFacts, nwLabFacts, cwLabFacts, rfl, -, -, -, -, -, -, -⟩ := rdConsole Rw'
  clear Rw'
  obtain ⟨w2, HW2⟩ : ∃ wb, Hid (wb = w1.alloc (.cells #[.bool mo0.1.1, .int .i64 mo0.1.2.1.1, .slice AwLabBaseOps nwLabBaseOps cwLabBaseOps, .slice AwLabFacts nwLabFacts cwLabFacts, .int .i64 mo0.1.2.2.2, .string mo0.2.1, .string mo0.2.2.1, .int .i64 mo0.2.2.2] 31)) := ⟨_, rfl⟩
  have hb2 : Below w1.heap.size w1 w2 := by rw [HW2.out]; exact below_box _ _
  have Bw : Blk w2 w1.heap.size 31 #[.bool mo0.1.1, .int .i64 mo0.1.2.1.1, .slice AwLabBaseOps nwLabBaseOps cwLabBaseOps, .slice AwLabFacts nwLabFacts cwLabFacts, .int .i64 mo0.1.2.2.2, .string mo0.2.1, .string mo0.2.2.1, .int .i64 mo0.2.2.2] := by rw [HW2.out]; exact Blk.new _ _ _
  have yw2 : w1.heap.size < w2.heap.size := Bw.lt
  have zw2 : w1.heap.size ≤ w2.heap.size := hb2.size
  replace T0 := below_next T0 hb2 rfl
  replace Tw := below_next Tw hb2 rfl
  clear hb2
  have cBw_0 := Bw.cell 0
  have cBw_1 := Bw.cell 1
  have cBw_2 := Bw.cell 2
  have cBw_3 := Bw.cell 3
  have cBw_4 := Bw.cell 4
  have cBw_5 := Bw.cell 5
  have cBw_6 := Bw.cell 6
  have cBw_7 := Bw.cell 7
  simp only [List.getElem?_toArray, List.getElem?_cons_zero, List.getElem?_cons_succ] at cBw_0 cBw_1 cBw_2 cBw_3 cBw_4 cBw_5 cBw_6 cBw_7
  rw [HW2.out] at cBw_0
  rw [HW2.out] at cBw_1
  rw [HW2.out] at cBw_2
  rw [HW2.out] at cBw_3
  rw [HW2.out] at cBw_4
  rw [HW2.out] at cBw_5
  rw [HW2.out] at cBw_6
  rw [HW2.out] at cBw_7
  go_wp2_with fail
  rw [← HW2.out]
  clear cBw_0 cBw_1 cBw_2 cBw_3 cBw_4 cBw_5 cBw_6 cBw_7
  refine (implNC_any x0 _ hn0 (HTAB.out.next T0)).mono ?_
  rintro e w3 ⟨csg, blg, rfl, Og, Ig, hb3⟩
  rw [HMO1.out]
  have zw3 : w2.heap.size ≤ w3.heap.size := hb3.size
  replace T0 := below_next T0 hb3 rfl
  replace Tw := below_next Tw hb3 rfl
  replace Bw := Bw.next hb3
  clear hb3
  rw [HMO0.out] at Og
  obtain ⟨AgLabBaseOps, ngLabBaseOps, cgLabBaseOps, AgLabFacts, ngLabFacts, cgLabFacts, rfl, -, -, -, -, -, -, -⟩ := rdConsole (shConsoleW.ord Og)
  obtain ⟨w4, HW4⟩ : ∃ wb, Hid (wb = w3.alloc (.cells #[.bool mo0.1.1, .int .i64 mo0.1.2.1.1, .slice AgLabBaseOps ngLabBaseOps cgLabBaseOps, .slice AgLabFacts ngLabFacts cgLabFacts, .int .i64 mo0.1.2.2.2, .string mo0.2.1, .string mo0.2.2.1, .int .i64 mo0.2.2.2] 31)) := ⟨_, rfl⟩
  have hb4 : Below w3.heap.size w3 w4 := by rw [HW4.out]; exact below_box _ _
  have Bg : Blk w4 w3.heap.size 31 #[.bool mo0.1.1, .int .i64 mo0.1.2.1.1, .slice AgLabBaseOps ngLabBaseOps cgLabBaseOps, .slice AgLabFacts ngLabFacts cgLabFacts, .int .i64 mo0.1.2.2.2, .string mo0.2.1, .string mo0.2.2.1, .int .i64 mo0.2.2.2] := by rw [HW4.out]; exact Blk.new _ _ _
  have yw4 : w3.heap.size < w4.heap.size := Bg.lt
  have zw4 : w3.heap.size ≤ w4.heap.size := hb4.size
  replace T0 := below_next T0 hb4 rfl
  replace Tw := below_next Tw hb4 rfl
  replace Og := Sh.onext Og hb4
  replace Bw := Bw.next hb4
  clear hb4
  have cBw_0 := Bw.cell 0
  have cBw_1 := Bw.cell 1
  have cBw_2 := Bw.cell 2
  have cBw_3 := Bw.cell 3
  have cBw_4 := Bw.cell 4
  have cBw_5 := Bw.cell 5
  have cBw_6 := Bw.cell 6
  have cBw_7 := Bw.cell 7
  have cBg_0 := Bg.cell 0
  have cBg_1 := Bg.cell 1
  have cBg_2 := Bg.cell 2
  have cBg_3 := Bg.cell 3
  have cBg_4 := Bg.cell 4
  have cBg_5 := Bg.cell 5
  have cBg_6 := Bg.cell 6
  have cBg_7 := Bg.cell 7
  simp only [List.getElem?_toArray, List.getElem?_cons_zero, List.getElem?_cons_succ] at cBw_0 cBw_1 cBw_2 cBw_3 cBw_4 cBw_5 cBw_6 cBw_7 cBg_0 cBg_1 cBg_2 cBg_3 cBg_4 cBg_5 cBg_6 cBg_7
  rw [HW4.out] at cBw_0
  rw [HW4.out] at cBw_1
  rw [HW4.out] at cBw_2
  rw [HW4.out] at cBw_3
  rw [HW4.out] at cBw_4
  rw [HW4.out] at cBw_5
  rw [HW4.out] at cBw_6
  rw [HW4.out] at cBw_7
  rw [HW4.out] at cBg_0
  rw [HW4.out] at cBg_1
  rw [HW4.out] at cBg_2
  rw [HW4.out] at cBg_3
  rw [HW4.out] at cBg_4
  rw [HW4.out] at cBg_5
  rw [HW4.out] at cBg_6
  rw [HW4.out] at cBg_7
  go_wp2_with fail
  rw [← HW4.out]
  clear cBw_0 cBw_1 cBw_2 cBw_3 cBw_4 cBw_5 cBw_6 cBw_7 cBg_0 cBg_1 cBg_2 cBg_3 cBg_4 cBg_5 cBg_6 cBg_7
  refine (eqConsole_any [.bool mo0.1.1, .int .i64 mo0.1.2.1.1, .slice AgLabBaseOps ngLabBaseOps cgLabBaseOps, .slice AgLabFacts ngLabFacts cgLabFacts, .int .i64 mo0.1.2.2.2, .string mo0.2.1, .string mo0.2.2.1, .int .i64 mo0.2.2.2] [.bool mo0.1.1, .int .i64 mo0.1.2.1.1, .slice AwLabBaseOps nwLabBaseOps cwLabBaseOps, .slice AwLabFacts nwLabFacts cwLabFacts, .int .i64 mo0.1.2.2.2, .string mo0.2.1, .string mo0.2.2.1, .int .i64 mo0.2.2.2] mo0 mo0 _ (shConsoleW.ord Og) (shConsole.stab Rw Tw.block)).mono ?_
  rintro e w5 ⟨rfl, hb5⟩
  rw [eqC_self]
  have zw5 : w4.heap.size ≤ w5.heap.size := hb5.size
  replace T0 := below_next T0 hb5 rfl
  replace Tw := below_next Tw hb5 rfl
  replace Og := Sh.onext Og hb5
  replace Bw := Bw.next hb5
  replace Bg := Bg.next hb5
  clear hb5
  have k0_0 : (0 : Int) ≤ 1 := by omega
  have hmr : msConsole mo0 ≤ 4194304 := by rw [← HMO0.out]; exact ncR_ms x0
  have cBw_0 := Bw.cell 0
  have cBw_1 := Bw.cell 1
  have cBw_2 := Bw.cell 2
  have cBw_3 := Bw.cell 3
  have cBw_4 := Bw.cell 4
  have cBw_5 := Bw.cell 5
  have cBw_6 := Bw.cell 6
  have cBw_7 := Bw.cell 7
  have cBg_0 := Bg.cell 0
  have cBg_1 := Bg.cell 1
  have cBg_2 := Bg.cell 2
  have cBg_3 := Bg.cell 3
  have cBg_4 := Bg.cell 4
  have cBg_5 := Bg.cell 5
  have cBg_6 := Bg.cell 6
  have cBg_7 := Bg.cell 7
  simp only [List.getElem?_toArray, List.getElem?_cons_zero, List.getElem?_cons_succ] at cBw_0 cBw_1 cBw_2 cBw_3 cBw_4 cBw_5 cBw_6 cBw_7 cBg_0 cBg_1 cBg_2 cBg_3 cBg_4 cBg_5 cBg_6 cBg_7
  go_wp2_with fail
  clear cBw_0 cBw_1 cBw_2 cBw_3 cBw_4 cBw_5 cBw_6 cBw_7 cBg_0 cBg_1 cBg_2 cBg_3 cBg_4 cBg_5 cBg_6 cBg_7
  refine (markConsoleW_any [.bool mo0.1.1, .int .i64 mo0.1.2.1.1, .slice AgLabBaseOps ngLabBaseOps cgLabBaseOps, .slice AgLabFacts ngLabFacts cgLabFacts, .int .i64 mo0.1.2.2.2, .string mo0.2.1, .string mo0.2.2.1, .int .i64 mo0.2.2.2] mo0 blg 1 _ Og Ig.1 (by omega) (by omega)).mono ?_
  rintro e w6 ⟨rfl, Om, hb6⟩
  have hg6 := hb6.chg (lo := w2.heap.size) (hi := w3.heap.size) Ig.2
  have zw6 : w5.heap.size ≤ w6.heap.size := hg6.size
  replace T0 := T0.trans (hg6.below (by omega) (by have := T0.size; omega))
  replace Tw := Tw.trans (hg6.below (by omega) (by have := Tw.size; omega))
  replace Bw := Bw.chg' hg6 (by omega)
  replace Bg := Bg.chg' hg6 (by omega)
  clear hb6 hg6
  clear Og
  have hq0 : ¬ (1 + ((msConsole mo0 : Nat) : Int) < 0) := by omega
  have hqq : ((1 + ((msConsole mo0 : Nat) : Int)) != (1 + ((msConsole mo0 : Nat) : Int))) = false := by simp
  have cBw_0 := Bw.cell 0
  have cBw_1 := Bw.cell 1
  have cBw_2 := Bw.cell 2
  have cBw_3 := Bw.cell 3
  have cBw_4 := Bw.cell 4
  have cBw_5 := Bw.cell 5
  have cBw_6 := Bw.cell 6
  have cBw_7 := Bw.cell 7
  have cBg_0 := Bg.cell 0
  have cBg_1 := Bg.cell 1
  have cBg_2 := Bg.cell 2
  have cBg_3 := Bg.cell 3
  have cBg_4 := Bg.cell 4
  have cBg_5 := Bg.cell 5
  have cBg_6 := Bg.cell 6
  have cBg_7 := Bg.cell 7
  simp only [List.getElem?_toArray, List.getElem?_cons_zero, List.getElem?_cons_succ] at cBw_0 cBw_1 cBw_2 cBw_3 cBw_4 cBw_5 cBw_6 cBw_7 cBg_0 cBg_1 cBg_2 cBg_3 cBg_4 cBg_5 cBg_6 cBg_7
  go_wp2_with fail
  clear cBw_0 cBw_1 cBw_2 cBw_3 cBw_4 cBw_5 cBw_6 cBw_7 cBg_0 cBg_1 cBg_2 cBg_3 cBg_4 cBg_5 cBg_6 cBg_7
  refine (heldConsole_any [.bool mo0.1.1, .int .i64 mo0.1.2.1.1, .slice AgLabBaseOps ngLabBaseOps cgLabBaseOps, .slice AgLabFacts ngLabFacts cgLabFacts, .int .i64 mo0.1.2.2.2, .string mo0.2.1, .string mo0.2.2.1, .int .i64 mo0.2.2.2] mo0 1 _ (shConsoleW.ord Om) (by omega) (by omega)).mono ?_
  rintro e w7 ⟨rfl, hb7⟩
  have zw7 : w6.heap.size ≤ w7.heap.size := hb7.size
  replace T0 := below_next T0 hb7 rfl
  replace Tw := below_next Tw hb7 rfl
  replace Om := Sh.onext Om hb7
  replace Bw := Bw.next hb7
  replace Bg := Bg.next hb7
  clear hb7
  have cBw_0 := Bw.cell 0
  have cBw_1 := Bw.cell 1
  have cBw_2 := Bw.cell 2
  have cBw_3 := Bw.cell 3
  have cBw_4 := Bw.cell 4
  have cBw_5 := Bw.cell 5
  have cBw_6 := Bw.cell 6
  have cBw_7 := Bw.cell 7
  have cBg_0 := Bg.cell 0
  have cBg_1 := Bg.cell 1
  have cBg_2 := Bg.cell 2
  have cBg_3 := Bg.cell 3
  have cBg_4 := Bg.cell 4
  have cBg_5 := Bg.cell 5
  have cBg_6 := Bg.cell 6
  have cBg_7 := Bg.cell 7
  simp only [List.getElem?_toArray, List.getElem?_cons_zero, List.getElem?_cons_succ] at cBw_0 cBw_1 cBw_2 cBw_3 cBw_4 cBw_5 cBw_6 cBw_7 cBg_0 cBg_1 cBg_2 cBg_3 cBg_4 cBg_5 cBg_6 cBg_7
  go_wp2_with fail
  clear cBw_0 cBw_1 cBw_2 cBw_3 cBw_4 cBw_5 cBw_6 cBw_7 cBg_0 cBg_1 cBg_2 cBg_3 cBg_4 cBg_5 cBg_6 cBg_7
  refine (implNC_any x0 _ hn0 (HTAB.out.next T0)).mono ?_
  rintro e w8 ⟨csh, blh, rfl, Oh, Ih, hb8⟩
  rw [HMO1.out]
  have zw8 : w7.heap.size ≤ w8.heap.size := hb8.size
  replace T0 := below_next T0 hb8 rfl
  replace Tw := below_next Tw hb8 rfl
  replace Om := Sh.onext Om hb8
  replace Bw := Bw.next hb8
  replace Bg := Bg.next hb8
  clear hb8
  rw [HMO0.out] at Oh
  obtain ⟨AhLabBaseOps, nhLabBaseOps, chLabBaseOps, AhLabFacts, nhLabFacts, chLabFacts, rfl, -, -, -, -, -, -, -⟩ := rdConsole (shConsoleW.ord Oh)
  obtain ⟨w9, HW9⟩ : ∃ wb, Hid (wb = w8.alloc (.cells #[.bool mo0.1.1, .int .i64 mo0.1.2.1.1, .slice AhLabBaseOps nhLabBaseOps chLabBaseOps, .slice AhLabFacts nhLabFacts chLabFacts, .int .i64 mo0.1.2.2.2, .string mo0.2.1, .string mo0.2.2.1, .int .i64 mo0.2.2.2] 31)) := ⟨_, rfl⟩
  have hb9 : Below w8.heap.size w8 w9 := by rw [HW9.out]; exact below_box _ _
  have Bh : Blk w9 w8.heap.size 31 #[.bool mo0.1.1, .int .i64 mo0.1.2.1.1, .slice AhLabBaseOps nhLabBaseOps chLabBaseOps, .slice AhLabFacts nhLabFacts chLabFacts, .int .i64 mo0.1.2.2.2, .string mo0.2.1, .string mo0.2.2.1, .int .i64 mo0.2.2.2] := by rw [HW9.out]; exact Blk.new _ _ _
  have yw9 : w8.heap.size < w9.heap.size := Bh.lt
  have zw9 : w8.heap.size ≤ w9.heap.size := hb9.size
  replace T0 := below_next T0 hb9 rfl
  replace Tw := below_next Tw hb9 rfl
  replace Om := Sh.onext Om hb9
  replace Oh := Sh.onext Oh hb9
  replace Bw := Bw.next hb9
  replace Bg := Bg.next hb9
  clear hb9
  have cBw_0 := Bw.cell 0
  have cBw_1 := Bw.cell 1
  have cBw_2 := Bw.cell 2
  have cBw_3 := Bw.cell 3
  have cBw_4 := Bw.cell 4
  have cBw_5 := Bw.cell 5
  have cBw_6 := Bw.cell 6
  have cBw_7 := Bw.cell 7
  have cBg_0 := Bg.cell 0
  have cBg_1 := Bg.cell 1
  have cBg_2 := Bg.cell 2
  have cBg_3 := Bg.cell 3
  have cBg_4 := Bg.cell 4
  have cBg_5 := Bg.cell 5
  have cBg_6 := Bg.cell 6
  have cBg_7 := Bg.cell 7
  have cBh_0 := Bh.cell 0
  have cBh_1 := Bh.cell 1
  have cBh_2 := Bh.cell 2
  have cBh_3 := Bh.cell 3
  have cBh_4 := Bh.cell 4
  have cBh_5 := Bh.cell 5
  have cBh_6 := Bh.cell 6
  have cBh_7 := Bh.cell 7
  simp only [List.getElem?_toArray, List.getElem?_cons_zero, List.getElem?_cons_succ] at cBw_0 cBw_1 cBw_2 cBw_3 cBw_4 cBw_5 cBw_6 cBw_7 cBg_0 cBg_1 cBg_2 cBg_3 cBg_4 cBg_5 cBg_6 cBg_7 cBh_0 cBh_1 cBh_2 cBh_3 cBh_4 cBh_5 cBh_6 cBh_7
  rw [HW9.out] at cBw_0
  rw [HW9.out] at cBw_1
  rw [HW9.out] at cBw_2
  rw [HW9.out] at cBw_3
  rw [HW9.out] at cBw_4
  rw [HW9.out] at cBw_5
  rw [HW9.out] at cBw_6
  rw [HW9.out] at cBw_7
  rw [HW9.out] at cBg_0
  rw [HW9.out] at cBg_1
  rw [HW9.out] at cBg_2
  rw [HW9.out] at cBg_3
  rw [HW9.out] at cBg_4
  rw [HW9.out] at cBg_5
  rw [HW9.out] at cBg_6
  rw [HW9.out] at cBg_7
  rw [HW9.out] at cBh_0
  rw [HW9.out] at cBh_1
  rw [HW9.out] at cBh_2
  rw [HW9.out] at cBh_3
  rw [HW9.out] at cBh_4
  rw [HW9.out] at cBh_5
  rw [HW9.out] at cBh_6
  rw [HW9.out] at cBh_7
  go_wp2_with fail
  rw [← HW9.out]
  clear cBw_0 cBw_1 cBw_2 cBw_3 cBw_4 cBw_5 cBw_6 cBw_7 cBg_0 cBg_1 cBg_2 cBg_3 cBg_4 cBg_5 cBg_6 cBg_7 cBh_0 cBh_1 cBh_2 cBh_3 cBh_4 cBh_5 cBh_6 cBh_7
  refine (eqConsole_any [.bool mo0.1.1, .int .i64 mo0.1.2.1.1, .slice AhLabBaseOps nhLabBaseOps chLabBaseOps, .slice AhLabFacts nhLabFacts chLabFacts, .int .i64 mo0.1.2.2.2, .string mo0.2.1, .string mo0.2.2.1, .int .i64 mo0.2.2.2] [.bool mo0.1.1, .int .i64 mo0.1.2.1.1, .slice AwLabBaseOps nwLabBaseOps cwLabBaseOps, .slice AwLabFacts nwLabFacts cwLabFacts, .int .i64 mo0.1.2.2.2, .string mo0.2.1, .string mo0.2.2.1, .int .i64 mo0.2.2.2] mo0 mo0 _ (shConsoleW.ord Oh) (shConsole.stab Rw Tw.block)).mono ?_
  rintro e w10 ⟨rfl, hb10⟩
  rw [eqC_self]
  have zw10 : w9.heap.size ≤ w10.heap.size := hb10.size
  replace T0 := below_next T0 hb10 rfl
  replace Tw := below_next Tw hb10 rfl
  replace Om := Sh.onext Om hb10
  replace Oh := Sh.onext Oh hb10
  replace Bw := Bw.next hb10
  replace Bg := Bg.next hb10
  replace Bh := Bh.next hb10
  clear hb10
  have cBw_0 := Bw.cell 0
  have cBw_1 := Bw.cell 1
  have cBw_2 := Bw.cell 2
  have cBw_3 := Bw.cell 3
  have cBw_4 := Bw.cell 4
  have cBw_5 := Bw.cell 5
  have cBw_6 := Bw.cell 6
  have cBw_7 := Bw.cell 7
  have cBg_0 := Bg.cell 0
  have cBg_1 := Bg.cell 1
  have cBg_2 := Bg.cell 2
  have cBg_3 := Bg.cell 3
  have cBg_4 := Bg.cell 4
  have cBg_5 := Bg.cell 5
  have cBg_6 := Bg.cell 6
  have cBg_7 := Bg.cell 7
  have cBh_0 := Bh.cell 0
  have cBh_1 := Bh.cell 1
  have cBh_2 := Bh.cell 2
  have cBh_3 := Bh.cell 3
  have cBh_4 := Bh.cell 4
  have cBh_5 := Bh.cell 5
  have cBh_6 := Bh.cell 6
  have cBh_7 := Bh.cell 7
  simp only [List.getElem?_toArray, List.getElem?_cons_zero, List.getElem?_cons_succ] at cBw_0 cBw_1 cBw_2 cBw_3 cBw_4 cBw_5 cBw_6 cBw_7 cBg_0 cBg_1 cBg_2 cBg_3 cBg_4 cBg_5 cBg_6 cBg_7 cBh_0 cBh_1 cBh_2 cBh_3 cBh_4 cBh_5 cBh_6 cBh_7
  go_wp2_with fail
  clear cBw_0 cBw_1 cBw_2 cBw_3 cBw_4 cBw_5 cBw_6 cBw_7 cBg_0 cBg_1 cBg_2 cBg_3 cBg_4 cBg_5 cBg_6 cBg_7 cBh_0 cBh_1 cBh_2 cBh_3 cBh_4 cBh_5 cBh_6 cBh_7
  refine (heldConsole_any [.bool mo0.1.1, .int .i64 mo0.1.2.1.1, .slice AgLabBaseOps ngLabBaseOps cgLabBaseOps, .slice AgLabFacts ngLabFacts cgLabFacts, .int .i64 mo0.1.2.2.2, .string mo0.2.1, .string mo0.2.2.1, .int .i64 mo0.2.2.2] mo0 1 _ (shConsoleW.ord Om) (by omega) (by omega)).mono ?_
  rintro e w11 ⟨rfl, hb11⟩
  have zw11 : w10.heap.size ≤ w11.heap.size := hb11.size
  replace T0 := below_next T0 hb11 rfl
  replace Tw := below_next Tw hb11 rfl
  replace Om := Sh.onext Om hb11
  replace Oh := Sh.onext Oh hb11
  replace Bw := Bw.next hb11
  replace Bg := Bg.next hb11
  replace Bh := Bh.next hb11
  clear hb11
  have cBw_0 := Bw.cell 0
  have cBw_1 := Bw.cell 1
  have cBw_2 := Bw.cell 2
  have cBw_3 := Bw.cell 3
  have cBw_4 := Bw.cell 4
  have cBw_5 := Bw.cell 5
  have cBw_6 := Bw.cell 6
  have cBw_7 := Bw.cell 7
  have cBg_0 := Bg.cell 0
  have cBg_1 := Bg.cell 1
  have cBg_2 := Bg.cell 2
  have cBg_3 := Bg.cell 3
  have cBg_4 := Bg.cell 4
  have cBg_5 := Bg.cell 5
  have cBg_6 := Bg.cell 6
  have cBg_7 := Bg.cell 7
  have cBh_0 := Bh.cell 0
  have cBh_1 := Bh.cell 1
  have cBh_2 := Bh.cell 2
  have cBh_3 := Bh.cell 3
  have cBh_4 := Bh.cell 4
  have cBh_5 := Bh.cell 5
  have cBh_6 := Bh.cell 6
  have cBh_7 := Bh.cell 7
  simp only [List.getElem?_toArray, List.getElem?_cons_zero, List.getElem?_cons_succ] at cBw_0 cBw_1 cBw_2 cBw_3 cBw_4 cBw_5 cBw_6 cBw_7 cBg_0 cBg_1 cBg_2 cBg_3 cBg_4 cBg_5 cBg_6 cBg_7 cBh_0 cBh_1 cBh_2 cBh_3 cBh_4 cBh_5 cBh_6 cBh_7
  go_wp2_with fail
  clear cBw_0 cBw_1 cBw_2 cBw_3 cBw_4 cBw_5 cBw_6 cBw_7 cBg_0 cBg_1 cBg_2 cBg_3 cBg_4 cBg_5 cBg_6 cBg_7 cBh_0 cBh_1 cBh_2 cBh_3 cBh_4 cBh_5 cBh_6 cBh_7
  go_ret
  exact ⟨rfl, T0⟩
end Go.Proofs.YtfnmkbpogbekpaaGreatDoor
namespace Go.Proofs.YtfnmkbpogbekpaaGreatDoor
open Go.ChangeShapes Go.WideShapes Go.ChangeAt Go.RowKit

theorem own : ownKnob Tryz.prog.godebug = none := by kernel_rfl
theorem laidOut : laidOutB Tryz.prog = true := by kernel_rfl
def laidL : List (String × DataW Unit) := [("math/bits.deBruijn32tab", Rows.laid_math_bits_deBruijn32tab), ("math/bits.deBruijn64tab", Rows.laid_math_bits_deBruijn64tab), ("internal/strconv.uint64pow10", Rows.laid_internal_strconv_uint64pow10), ("unicode/utf8.acceptRanges", Rows.laid_unicode_utf8_acceptRanges), ("strconv.ErrRange", Rows.laid_strconv_ErrRange), ("strconv.ErrSyntax", Rows.laid_strconv_ErrSyntax), ("unicode/utf8.first", Rows.laid_unicode_utf8_first)]
theorem laid_plain (w : World) : laidMetH Tryz.prog laidL w = laidMet Tryz.prog laidL w := MakeChecks.laidMetH_plain _ _ _ (by kernel_rfl)
set_option maxRecDepth 100000 in
theorem door_met (os : Os) (args : Array Value) : laidMetH Tryz.prog laidL ((World.laidAll Tryz.prog os laidL).forCall (fun _ _ => 0) ⟨#[], args, []⟩).memory := by
  rw [laid_plain]
  exact laidMet_laidAll _ (by kernel_rfl) (by kernel_rfl)
set_option maxRecDepth 100000 in
theorem door_shaped (os : Os) (args : Array Value) : ((World.laidAll Tryz.prog os laidL).forCall (fun _ _ => 0) ⟨#[], args, []⟩).Shaped Tryz.prog := World.shaped_of_ZipB (by kernel_rfl) (by kernel_rfl)
theorem gT : Tryz.prog.globalNamed "internal/strconv.uint64pow10" = some 5 := by kernel_rfl
theorem gTType : (Tryz.prog.globals[5]?).map (·.type) = some 241 := by kernel_rfl
theorem gER : Tryz.prog.globalNamed "strconv.ErrRange" = some 2 := by kernel_rfl
theorem gERType : (Tryz.prog.globals[2]?).map (·.type) = some 159 := by kernel_rfl
theorem gES : Tryz.prog.globalNamed "strconv.ErrSyntax" = some 1 := by kernel_rfl
theorem gESType : (Tryz.prog.globals[1]?).map (·.type) = some 159 := by kernel_rfl
theorem tab_datum : (Rows.laid_internal_strconv_uint64pow10 : DataW Unit) = Lib.tabData .u64 Lib.pow10Tab := by
  unfold Rows.laid_internal_strconv_uint64pow10 Lib.tabData Lib.pow10Tab
  rfl
theorem star_err : "*" ++ "errors.errorString" = "*errors.errorString" := by decide
theorem err_row (u : TypeId) (h : Tryz.prog.typeName? 3 u = some "*errors.errorString") : u = 237 :=
  typeName_ptr_named (nm := "errors.errorString") (by rw [star_err]; kernel_rfl) (by kernel_rfl) (by decide) u (by rw [star_err]; exact h)
theorem err_cells : Tryz.prog.cellsOf 239 = 1 := by kernel_rfl
theorem str_cells : Tryz.prog.cellsOf 9 = 1 := by kernel_rfl
set_option maxRecDepth 100000 in
theorem maxLen_cell {W : World} (h : W.ShapedOpen Tryz.prog) : ∃ m : Int, W.cell? ⟨0, 0, none⟩ = some (.int .i64 m) :=
  cell_of_shapedOpen_int (g := 0) (t := 3) (zero := #[.int .i64 0]) h (of_decide_eq_true (by kernel_rfl)) (by kernel_rfl) rfl (by kernel_rfl) (by kernel_rfl) Tryz.underlying3
set_option maxRecDepth 100000 in
theorem tab_of_laid {W : World} (h : laidMetH Tryz.prog laidL W) (hs : W.ShapedOpen Tryz.prog) : TabP W := by
  rw [laid_plain] at h
  unfold laidL at h
  have h2 := h.tail.tail
  rw [tab_datum] at h2
  have h4 := h2.tail.tail
  unfold Rows.laid_strconv_ErrRange at h4
  have h5 := h4.tail
  unfold Rows.laid_strconv_ErrSyntax at h5
  obtain ⟨a4, s4, hv4, -, -, -⟩ := laid_sentinel h4 gER gERType Tryz.underlying159 err_row Tryz.underlying237 Tryz.underlying239 rfl rfl Tryz.underlying9 err_cells str_cells
  obtain ⟨a5, s5, hv5, -, -, -⟩ := laid_sentinel h5 gES gESType Tryz.underlying159 err_row Tryz.underlying237 Tryz.underlying239 rfl rfl Tryz.underlying9 err_cells str_cells
  refine ⟨?_, maxLen_cell hs, ⟨_, _, hv5⟩, ⟨_, _, hv4⟩⟩
  obtain ⟨ps, ⟨g2, t2, cs2, f2, p2, q2, hg2, ht2, hv2, hd2, _, _⟩, _⟩ := h2
  obtain rfl := Option.some.inj (gT.symm.trans hg2)
  obtain rfl := Option.some.inj (gTType.symm.trans ht2)
  unfold Tab Lib.TabIs
  rw [hv2, ← Lib.cells_of_tab Tryz.underlying241 Tryz.underlying209 (by kernel_rfl) (by kernel_rfl) hd2]

/-- From calls to the claim, for a walk that needs the listed variables and the shape of the world that it begins in. -/
theorem handed_of_walk {H : Type} {enc : TypeId × Value → H} {a : Assume} {C : Checked} {os : Os} {f : FuncId} {fn : Func} {s : ChangeSpec} {X : World → Prop} {ap fr ho ag : Bool}
    (hX : ∀ w w' : World, w.heap = w'.heap → X w → X w') (hk : ownKnob C.prog.godebug = none) (st : os.Started) (ni : C.prog.inits.idxOf? f = none) (hfn : C.prog.funcs[f]? = some fn)
    (wit : ∃ (w : World) (tape : Tape) (i : Input), w.os = os ∧ (w.forCall tape i).Shaped C.prog ∧ i.vars = [] ∧ Input.okWide C.prog (w.forCall tape i) .any w.heap.size f i ∧
      ((s.pre enc C.prog fn [] ap (w.forCall tape i).memory i.args ∧ X (w.forCall tape i).memory) ∧ sizedMet enc C.prog fn (OpenSpec.ofChange s) ap (w.forCall tape i).memory i.args) ∧ a.holds C.prog (lone (Frame.enter C.prog f i.args .normal) [] (w.forCall tape i)))
    (walk : ∀ (W : World) (base : Nat) (args : Array Value) (ds gs : List (DataW H)) (bf : List MemPlace), (∀ (j : Nat) t v, fn.params[j]? = some t → args[j]? = some v → Value.okWide C.prog W .any base t v) →
      DataW.Whole enc C.prog fn.params.toList s.vars ap W args.toList ds gs bf → X W → W.ShapedOpen C.prog →
      Calls C.prog f args W fun e W' => ∃ v, e = .returned v ∧ s.post enc C.prog fn ap fr ho ag W args v W') :
    ReturnsInHanded a C os f .any (fun w args => (s.pre enc C.prog fn [] ap w args ∧ X w) ∧ sizedMet enc C.prog fn (OpenSpec.ofChange s) ap w args) (s.post enc C.prog fn ap fr ho ag) := by
  refine returnsInHanded_of_calls hk st ni wit fun w tape i _ hsh _ hin hp _ => ?_
  obtain ⟨-, -, -, fn', hf', -, -, -, -, hv⟩ := hin
  obtain rfl := Option.some.inj (hf'.symm.trans hfn)
  obtain ⟨⟨⟨ds, gs, bf, hW, -⟩, hx⟩, -⟩ := hp
  have hW' := DataW.Whole.of_heap (w' := w.forCall tape i) (by rfl) hW
  refine (walk (w.forCall tape i) w.heap.size i.args ds gs bf hv hW' (hX _ _ (by rfl) hx) hsh).mono ?_
  rintro e W' ⟨v, rfl, hq⟩
  exact ChangeSpec.post_blind hq
end Go.Proofs.YtfnmkbpogbekpaaGreatDoor
