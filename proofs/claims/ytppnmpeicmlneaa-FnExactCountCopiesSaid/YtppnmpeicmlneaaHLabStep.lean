
/- The harness's functions on LabStep and []LabStep: size, copy, equality. Printed by genshape.py. -/
import Derived.Test.YtppnmpeicmlneaaHFact
import Derived.Deep.RegionHeld3
import Derived.Deep.DeepCutAuto
namespace Go.Proofs.Ytppnmpeicmlneaa
open Go.RowKit

abbrev LabStepM : Type := (Int × ByteArray × FactM × List Int × Int × Int)
def shLabStep : Sh LabStepM := (Sh.pair Sh.int (Sh.pair Sh.str (Sh.pair shFact (Sh.pair (Sh.il 3) (Sh.pair Sh.int Sh.int)))))
theorem rdLabStep {w : World} {cs : List Value} {x : LabStepM} (h : shLabStep.rd w cs x) : ∃ (AFactEqLeft : Option Addr) (nFactEqLeft cFactEqLeft : Nat) (AFactEqRight : Option Addr) (nFactEqRight cFactEqRight : Nat) (AFactList : Option Addr) (nFactList cFactList : Nat) (AList : Option Addr) (nList cList : Nat), cs = [.int .i64 x.1, .string x.2.1, .int .i64 x.2.2.1.1, .slice AFactEqLeft nFactEqLeft cFactEqLeft, .slice AFactEqRight nFactEqRight cFactEqRight, .slice AFactList nFactList cFactList, .slice AList nList cList, .int .i64 x.2.2.2.2.1, .int .i64 x.2.2.2.2.2] ∧ InR x.1 ∧ x.2.1.size ≤ maxLen ∧ InR x.2.2.1.1 ∧ RdL RI w AFactEqLeft nFactEqLeft x.2.2.1.2.1.1 ∧ RdL RI w AFactEqRight nFactEqRight x.2.2.1.2.1.2 ∧ RdL RI w AFactList nFactList x.2.2.1.2.2 ∧ RdL RI w AList nList x.2.2.2.1 ∧ InR x.2.2.2.2.1 ∧ InR x.2.2.2.2.2 := by
  obtain ⟨_, _, rfl, ⟨_, rfl, rfl, loKind, hiKind⟩, ⟨_, _, rfl, ⟨_, rfl, rfl, hsText⟩, ⟨_, _, rfl, ⟨_, _, rfl, ⟨_, rfl, rfl, loFactKind, hiFactKind⟩, ⟨_, _, rfl, ⟨_, _, rfl, ⟨_, rfl, AFactEqLeft, nFactEqLeft, cFactEqLeft, rfl, rFactEqLeft⟩, ⟨_, rfl, AFactEqRight, nFactEqRight, cFactEqRight, rfl, rFactEqRight⟩⟩, ⟨_, rfl, AFactList, nFactList, cFactList, rfl, rFactList⟩⟩⟩, ⟨_, _, rfl, ⟨_, rfl, AList, nList, cList, rfl, rList⟩, ⟨_, _, rfl, ⟨_, rfl, rfl, loA, hiA⟩, ⟨_, rfl, rfl, loB, hiB⟩⟩⟩⟩⟩⟩ := h
  exact ⟨AFactEqLeft, nFactEqLeft, cFactEqLeft, AFactEqRight, nFactEqRight, cFactEqRight, AFactList, nFactList, cFactList, AList, nList, cList, rfl, ⟨loKind, hiKind⟩, hsText, ⟨loFactKind, hiFactKind⟩, rFactEqLeft, rFactEqRight, rFactList, rList, ⟨loA, hiA⟩, ⟨loB, hiB⟩⟩
theorem mkLabStep {w : World} {x : LabStepM} {AFactEqLeft AFactEqRight AFactList AList : Option Addr} {nFactEqLeft cFactEqLeft nFactEqRight cFactEqRight nFactList cFactList nList cList : Nat} (hKind : InR x.1) (hText : x.2.1.size ≤ maxLen) (hFactKind : InR x.2.2.1.1) (hFactEqLeft : RdL RI w AFactEqLeft nFactEqLeft x.2.2.1.2.1.1) (hFactEqRight : RdL RI w AFactEqRight nFactEqRight x.2.2.1.2.1.2) (hFactList : RdL RI w AFactList nFactList x.2.2.1.2.2) (hList : RdL RI w AList nList x.2.2.2.1) (hA : InR x.2.2.2.2.1) (hB : InR x.2.2.2.2.2) : shLabStep.rd w [.int .i64 x.1, .string x.2.1, .int .i64 x.2.2.1.1, .slice AFactEqLeft nFactEqLeft cFactEqLeft, .slice AFactEqRight nFactEqRight cFactEqRight, .slice AFactList nFactList cFactList, .slice AList nList cList, .int .i64 x.2.2.2.2.1, .int .i64 x.2.2.2.2.2] x :=
  ⟨[.int .i64 x.1], [.string x.2.1, .int .i64 x.2.2.1.1, .slice AFactEqLeft nFactEqLeft cFactEqLeft, .slice AFactEqRight nFactEqRight cFactEqRight, .slice AFactList nFactList cFactList, .slice AList nList cList, .int .i64 x.2.2.2.2.1, .int .i64 x.2.2.2.2.2], rfl, ⟨_, rfl, rfl, hKind.1, hKind.2⟩, ⟨[.string x.2.1], [.int .i64 x.2.2.1.1, .slice AFactEqLeft nFactEqLeft cFactEqLeft, .slice AFactEqRight nFactEqRight cFactEqRight, .slice AFactList nFactList cFactList, .slice AList nList cList, .int .i64 x.2.2.2.2.1, .int .i64 x.2.2.2.2.2], rfl, ⟨_, rfl, rfl, hText⟩, ⟨[.int .i64 x.2.2.1.1, .slice AFactEqLeft nFactEqLeft cFactEqLeft, .slice AFactEqRight nFactEqRight cFactEqRight, .slice AFactList nFactList cFactList], [.slice AList nList cList, .int .i64 x.2.2.2.2.1, .int .i64 x.2.2.2.2.2], rfl, ⟨[.int .i64 x.2.2.1.1], [.slice AFactEqLeft nFactEqLeft cFactEqLeft, .slice AFactEqRight nFactEqRight cFactEqRight, .slice AFactList nFactList cFactList], rfl, ⟨_, rfl, rfl, hFactKind.1, hFactKind.2⟩, ⟨[.slice AFactEqLeft nFactEqLeft cFactEqLeft, .slice AFactEqRight nFactEqRight cFactEqRight], [.slice AFactList nFactList cFactList], rfl, ⟨[.slice AFactEqLeft nFactEqLeft cFactEqLeft], [.slice AFactEqRight nFactEqRight cFactEqRight], rfl, ⟨_, rfl, _, _, _, rfl, hFactEqLeft⟩, ⟨_, rfl, _, _, _, rfl, hFactEqRight⟩⟩, ⟨_, rfl, _, _, _, rfl, hFactList⟩⟩⟩, ⟨[.slice AList nList cList], [.int .i64 x.2.2.2.2.1, .int .i64 x.2.2.2.2.2], rfl, ⟨_, rfl, _, _, _, rfl, hList⟩, ⟨[.int .i64 x.2.2.2.2.1], [.int .i64 x.2.2.2.2.2], rfl, ⟨_, rfl, rfl, hA.1, hA.2⟩, ⟨_, rfl, rfl, hB.1, hB.2⟩⟩⟩⟩⟩⟩
set_option linter.unusedVariables false in
set_option maxHeartbeats 2000000 in
theorem szLabStep_any (cs : List Value) (x : LabStepM) (left : Int) (w : World) (h : shLabStep.rd w cs x) (h0 : 0 ≤ left) (h1 : left ≤ 1048576) :
    Calls Try.prog 15 #[.agg cs.toArray, .int .i64 left] w (Bl w (.int .i64 (szR (shLabStep.cnt x) left))) := by
  obtain ⟨AFactEqLeft, nFactEqLeft, cFactEqLeft, AFactEqRight, nFactEqRight, cFactEqRight, AFactList, nFactList, cFactList, AList, nList, cList, rfl, qKind, qText, qFactKind, qFactEqLeft, qFactEqRight, qFactList, qList, qA, qB⟩ := rdLabStep h
  obtain ⟨w0, hw0, T0, hsz0, BP⟩ := boxes1 w #[.int .i64 x.1, .string x.2.1, .int .i64 x.2.2.1.1, .slice AFactEqLeft nFactEqLeft cFactEqLeft, .slice AFactEqRight nFactEqRight cFactEqRight, .slice AFactList nFactList cFactList, .slice AList nList cList, .int .i64 x.2.2.2.2.1, .int .i64 x.2.2.2.2.2] 28
  have lFactEqLeft := qFactEqLeft.le
  have lFactEqRight := qFactEqRight.le
  have lFactList := qFactList.le
  have lList := qList.le
  unfold maxLen at qText
  have HC0 : Hid (szR 0 left = left) := szR_zero h0
  have HCN : Hid (shLabStep.cnt x = (0 + (x.2.1.size + ((shFact.cnt x.2.2.1) + (x.2.2.2.1.length + (0 + 0)))))) := rfl
  replace qFactEqLeft := qFactEqLeft.next stab_RI T0
  replace qFactEqRight := qFactEqRight.next stab_RI T0
  replace qFactList := qFactList.next stab_RI T0
  replace qList := qList.next stab_RI T0
  go_enter Try.func15, Try.ntmps15
  have cP := BP.cell 1
  simp at cP
  rw [hw0] at cP
  by_cases z0 : left - (x.2.1.size : Int) < 0
  · have HZ := Lib.hid (szR_lt (s := x.2.1.size) HC0.out (by omega) z0 (c := shLabStep.cnt x) (by rw [HCN.out]; omega) h0)
    go_wp2_with fail
    go_ret
    exact ⟨ret_int HZ.out, by first | exact T0 | (rw [← hw0]; exact T0)⟩
  have HC1 : Hid (szR (0 + x.2.1.size) left = left - (x.2.1.size : Int)) := szR_ge HC0.out (by omega) z0
  have cP := BP.cell 2
  clear cP
  have cP0 := BP.cell 2
  have cP1 := BP.cell 3
  have cP2 := BP.cell 4
  have cP3 := BP.cell 5
  simp at cP0 cP1 cP2 cP3
  rw [hw0] at cP0 cP1 cP2 cP3
  go_wp2_with fail
  obtain ⟨L0, HL0⟩ : ∃ L, Hid ((left - (x.2.1.size : Int)) = L) := ⟨_, rfl⟩
  have hL0 : 0 ≤ L0 ∧ L0 ≤ 1048576 := by have := HL0.out; omega
  rw [HL0.out] at HC1 ⊢
  clear z0
  rw [← hw0]
  refine (szFact_any [.int .i64 x.2.2.1.1, .slice AFactEqLeft nFactEqLeft cFactEqLeft, .slice AFactEqRight nFactEqRight cFactEqRight, .slice AFactList nFactList cFactList] x.2.2.1 L0 _ (mkFact qFactKind qFactEqLeft qFactEqRight qFactList) (by omega) (by omega)).mono ?_
  rintro e w1 ⟨rfl, hb1⟩
  have T1 := below_next T0 hb1 rfl
  replace BP := BP.next hb1
  replace qFactEqLeft := qFactEqLeft.next stab_RI hb1
  replace qFactEqRight := qFactEqRight.next stab_RI hb1
  replace qFactList := qFactList.next stab_RI hb1
  replace qList := qList.next stab_RI hb1
  clear cP0 cP1 cP2 cP3
  have HC2 : Hid (szR ((0 + x.2.1.size) + (shFact.cnt x.2.2.1)) left = szR (shFact.cnt x.2.2.1) L0) := by show _ = _; rw [← szR_add (by rw [HC1.out]; omega), HC1.out]
  have hbd1 := szR_bd (shFact.cnt x.2.2.1) (left := L0) (by omega)
  obtain ⟨L1, HL1⟩ : ∃ L, Hid (szR (shFact.cnt x.2.2.1) L0 = L) := ⟨_, rfl⟩
  rw [HL1.out] at HC2 hbd1 ⊢
  by_cases z1 : L1 < 0
  · go_wp2_with fail
    go_ret
    exact ⟨ret_int (szR_le (by rw [HC2.out]; omega) (by rw [HCN.out]; omega) h0), T1⟩
  have cP := BP.cell 6
  simp at cP
  go_wp2_with fail
  refine (bl_same (szIntS_any _ _ _ _ L1 _ qList (by omega) (by omega))).mono ?_
  rintro e w2 ⟨rfl, hb2⟩
  rw [szInts_szR]
  have T2 := below_next T1 hb2 rfl
  replace BP := BP.next hb2
  replace qFactEqLeft := qFactEqLeft.next stab_RI hb2
  replace qFactEqRight := qFactEqRight.next stab_RI hb2
  replace qFactList := qFactList.next stab_RI hb2
  replace qList := qList.next stab_RI hb2
  clear cP
  have HC3 : Hid (szR (((0 + x.2.1.size) + (shFact.cnt x.2.2.1)) + x.2.2.2.1.length) left = szR x.2.2.2.1.length L1) := by show _ = _; rw [← szR_add (by rw [HC2.out]; omega), HC2.out]
  have hbd2 := szR_bd x.2.2.2.1.length (left := L1) (by omega)
  obtain ⟨L2, HL2⟩ : ∃ L, Hid (szR x.2.2.2.1.length L1 = L) := ⟨_, rfl⟩
  rw [HL2.out] at HC3 hbd2 ⊢
  by_cases z2 : L2 < 0
  · go_wp2_with fail
    go_ret
    exact ⟨ret_int (szR_le (by rw [HC3.out]; omega) (by rw [HCN.out]; omega) h0), T2⟩
  go_wp2_with fail
  go_ret
  exact ⟨ret_int (by simp only [HCN.out, ← HC3.out]; first | done | (congr 1; omega)), T2⟩
set_option linter.unusedVariables false in
set_option maxHeartbeats 4000000 in
theorem toLabStep_any (cs : List Value) (x : LabStepM) (w : World) (h : shLabStep.rd w cs x) (hn : shLabStep.cnt x ≤ 1048576) :
    Calls Try.prog 17 #[.agg cs.toArray] w (ToE shLabStep w x) := by
  obtain ⟨AFactEqLeft, nFactEqLeft, cFactEqLeft, AFactEqRight, nFactEqRight, cFactEqRight, AFactList, nFactList, cFactList, AList, nList, cList, rfl, qKind, qText, qFactKind, qFactEqLeft, qFactEqRight, qFactList, qList, qA, qB⟩ := rdLabStep h
  have hcn : (0 + (x.2.1.size + ((shFact.cnt x.2.2.1) + (x.2.2.2.1.length + (0 + 0))))) ≤ 1048576 := hn
  obtain ⟨w0, hw0, T0, hsz0, BP, BR, BO⟩ := boxes3 w #[.int .i64 x.1, .string x.2.1, .int .i64 x.2.2.1.1, .slice AFactEqLeft nFactEqLeft cFactEqLeft, .slice AFactEqRight nFactEqRight cFactEqRight, .slice AFactList nFactList cFactList, .slice AList nList cList, .int .i64 x.2.2.2.2.1, .int .i64 x.2.2.2.2.2] #[.int .i64 0, .string ⟨#[]⟩, .int .i64 0, .slice none 0 0, .slice none 0 0, .slice none 0 0, .slice none 0 0, .int .i64 0, .int .i64 0] #[.int .i64 x.1, .string x.2.1, .int .i64 0, .slice none 0 0, .slice none 0 0, .slice none 0 0, .slice none 0 0, .int .i64 0, .int .i64 0] 28 35
  have eFactEqLeft := qFactEqLeft.len
  have eFactEqRight := qFactEqRight.len
  have eFactList := qFactList.len
  have eList := qList.len
  go_enter Try.func17, Try.ntmps17
  go_wp2_with fail
  rw [← hw0]
  refine (toFact_any [.int .i64 x.2.2.1.1, .slice AFactEqLeft nFactEqLeft cFactEqLeft, .slice AFactEqRight nFactEqRight cFactEqRight, .slice AFactList nFactList cFactList] x.2.2.1 _ (mkFact qFactKind (qFactEqLeft.next stab_RI T0) (qFactEqRight.next stab_RI T0) (qFactList.next stab_RI T0)) (by omega)).mono ?_
  rintro e w1 ⟨csFact, blFact, rfl, OFact, IFact, hb1⟩
  obtain ⟨AyFactEqLeft, nyFactEqLeft, cyFactEqLeft, AyFactEqRight, nyFactEqRight, cyFactEqRight, AyFactList, nyFactList, cyFactList, rfl, -, -, -, -⟩ := rdFact (shFact.ord OFact)
  have hz1 := hb1.size
  have T1 := below_next T0 hb1 rfl
  replace BP := BP.next hb1
  replace BR := BR.next hb1
  replace BO := BO.next hb1
  clear hb1
  have cP0 := BP.cell 0
  have cP1 := BP.cell 1
  have cP2 := BP.cell 2
  have cP3 := BP.cell 3
  have cP4 := BP.cell 4
  have cP5 := BP.cell 5
  have cP6 := BP.cell 6
  have cP7 := BP.cell 7
  have cP8 := BP.cell 8
  have cO0 := BO.cell 0
  have fO0 := BO.frozen 0
  have cO1 := BO.cell 1
  have fO1 := BO.frozen 1
  have cO2 := BO.cell 2
  have fO2 := BO.frozen 2
  have cO3 := BO.cell 3
  have fO3 := BO.frozen 3
  have cO4 := BO.cell 4
  have fO4 := BO.frozen 4
  have cO5 := BO.cell 5
  have fO5 := BO.frozen 5
  have cO6 := BO.cell 6
  have fO6 := BO.frozen 6
  have cO7 := BO.cell 7
  have fO7 := BO.frozen 7
  have cO8 := BO.cell 8
  have fO8 := BO.frozen 8
  simp at cP0 cO0 cP1 cO1 cP2 cO2 cP3 cO3 cP4 cO4 cP5 cO5 cP6 cO6 cP7 cO7 cP8 cO8
  go_wp2_with fail
  clear cP0 cO0 fO0 cP1 cO1 fO1 cP2 cO2 fO2 cP3 cO3 fO3 cP4 cO4 fO4 cP5 cO5 fO5 cP6 cO6 fO6 cP7 cO7 fO7 cP8 cO8 fO8
  obtain ⟨w2, hw2⟩ : ∃ wb, wb = ((((w1.setCell ⟨w.heap.size + 1 + 1, 2, none⟩ (.int .i64 x.2.2.1.1)).setCell ⟨w.heap.size + 1 + 1, 3, none⟩ (.slice AyFactEqLeft nyFactEqLeft cyFactEqLeft)).setCell ⟨w.heap.size + 1 + 1, 4, none⟩ (.slice AyFactEqRight nyFactEqRight cyFactEqRight)).setCell ⟨w.heap.size + 1 + 1, 5, none⟩ (.slice AyFactList nyFactList cyFactList)) := ⟨_, rfl⟩
  have BO' : Blk w2 (w.heap.size + 1 + 1) 35 #[.int .i64 x.1, .string x.2.1, .int .i64 x.2.2.1.1, .slice AyFactEqLeft nyFactEqLeft cyFactEqLeft, .slice AyFactEqRight nyFactEqRight cyFactEqRight, .slice AyFactList nyFactList cyFactList, .slice none 0 0, .int .i64 0, .int .i64 0] := by rw [hw2]; simpa using ((((BO.set_ 2 (.int .i64 x.2.2.1.1)).set_ 3 (.slice AyFactEqLeft nyFactEqLeft cyFactEqLeft)).set_ 4 (.slice AyFactEqRight nyFactEqRight cyFactEqRight)).set_ 5 (.slice AyFactList nyFactList cyFactList))
  replace BP : Blk w2 w.heap.size 28 #[.int .i64 x.1, .string x.2.1, .int .i64 x.2.2.1.1, .slice AFactEqLeft nFactEqLeft cFactEqLeft, .slice AFactEqRight nFactEqRight cFactEqRight, .slice AFactList nFactList cFactList, .slice AList nList cList, .int .i64 x.2.2.2.2.1, .int .i64 x.2.2.2.2.2] := by rw [hw2]; exact ((((BP.far (p := ⟨w.heap.size + 1 + 1, 2, none⟩) (by simp; try omega) (.int .i64 x.2.2.1.1)).far (p := ⟨w.heap.size + 1 + 1, 3, none⟩) (by simp; try omega) (.slice AyFactEqLeft nyFactEqLeft cyFactEqLeft)).far (p := ⟨w.heap.size + 1 + 1, 4, none⟩) (by simp; try omega) (.slice AyFactEqRight nyFactEqRight cyFactEqRight)).far (p := ⟨w.heap.size + 1 + 1, 5, none⟩) (by simp; try omega) (.slice AyFactList nyFactList cyFactList))
  replace BR : Blk w2 (w.heap.size + 1) 35 #[.int .i64 0, .string ⟨#[]⟩, .int .i64 0, .slice none 0 0, .slice none 0 0, .slice none 0 0, .slice none 0 0, .int .i64 0, .int .i64 0] := by rw [hw2]; exact ((((BR.far (p := ⟨w.heap.size + 1 + 1, 2, none⟩) (by simp; try omega) (.int .i64 x.2.2.1.1)).far (p := ⟨w.heap.size + 1 + 1, 3, none⟩) (by simp; try omega) (.slice AyFactEqLeft nyFactEqLeft cyFactEqLeft)).far (p := ⟨w.heap.size + 1 + 1, 4, none⟩) (by simp; try omega) (.slice AyFactEqRight nyFactEqRight cyFactEqRight)).far (p := ⟨w.heap.size + 1 + 1, 5, none⟩) (by simp; try omega) (.slice AyFactList nyFactList cyFactList))
  replace BO := BO'
  clear BO'
  have T2 : Below w.heap.size w w2 := by rw [hw2]; exact ((((T1.setCell (by simp; try omega) (.int .i64 x.2.2.1.1)).setCell (by simp; try omega) (.slice AyFactEqLeft nyFactEqLeft cyFactEqLeft)).setCell (by simp; try omega) (.slice AyFactEqRight nyFactEqRight cyFactEqRight)).setCell (by simp; try omega) (.slice AyFactList nyFactList cyFactList))
  have hz2 : w2.heap.size = w1.heap.size := by rw [hw2]; simp
  replace OFact : shFact.own w2 [.int .i64 x.2.2.1.1, .slice AyFactEqLeft nyFactEqLeft cyFactEqLeft, .slice AyFactEqRight nyFactEqRight cyFactEqRight, .slice AyFactList nyFactList cyFactList] x.2.2.1 blFact := by rw [hw2]; exact Sh.oset (p := ⟨w.heap.size + 1 + 1, 5, none⟩) (Sh.oset (p := ⟨w.heap.size + 1 + 1, 4, none⟩) (Sh.oset (p := ⟨w.heap.size + 1 + 1, 3, none⟩) (Sh.oset (p := ⟨w.heap.size + 1 + 1, 2, none⟩) (OFact) IFact (by show w.heap.size + 1 + 1 < _; omega) (.int .i64 x.2.2.1.1)) IFact (by show w.heap.size + 1 + 1 < _; omega) (.slice AyFactEqLeft nyFactEqLeft cyFactEqLeft)) IFact (by show w.heap.size + 1 + 1 < _; omega) (.slice AyFactEqRight nyFactEqRight cyFactEqRight)) IFact (by show w.heap.size + 1 + 1 < _; omega) (.slice AyFactList nyFactList cyFactList)
  
  
  
  
  rw [← hw2]
  refine (toIntS_any _ _ _ _ _ (qList.next stab_RI T2) (by omega)).mono ?_
  rintro e w3 ⟨gList, rfl, hgList, hoList, hb3⟩
  have OList : (Sh.il 3).own w3 [.slice (some ⟨gList, 0, none⟩) nList nList] x.2.2.2.1 [gList] := ⟨_, rfl, by rw [eList]; exact own_mono hoList (Nat.zero_le _), qList.bounds, rfl⟩
  have IList : Iv w2.heap.size w3.heap.size [gList] := ⟨by simp, fun b hb => by simp at hb; subst hb; exact hoList.lt _ rfl⟩
  clear hoList
  have hz3 := hb3.size
  have T3 := below_next T2 hb3 rfl
  replace BP := BP.next hb3
  replace BR := BR.next hb3
  replace BO := BO.next hb3
  replace OFact := Sh.onext OFact hb3
  clear hb3
  have cR0 := BR.cell 0
  have fR0 := BR.frozen 0
  have cR1 := BR.cell 1
  have fR1 := BR.frozen 1
  have cR2 := BR.cell 2
  have fR2 := BR.frozen 2
  have cR3 := BR.cell 3
  have fR3 := BR.frozen 3
  have cR4 := BR.cell 4
  have fR4 := BR.frozen 4
  have cR5 := BR.cell 5
  have fR5 := BR.frozen 5
  have cR6 := BR.cell 6
  have fR6 := BR.frozen 6
  have cR7 := BR.cell 7
  have fR7 := BR.frozen 7
  have cR8 := BR.cell 8
  have fR8 := BR.frozen 8
  simp at cR0 cR1 cR2 cR3 cR4 cR5 cR6 cR7 cR8
  have cP0 := BP.cell 0
  have cP1 := BP.cell 1
  have cP2 := BP.cell 2
  have cP3 := BP.cell 3
  have cP4 := BP.cell 4
  have cP5 := BP.cell 5
  have cP6 := BP.cell 6
  have cP7 := BP.cell 7
  have cP8 := BP.cell 8
  have cO0 := BO.cell 0
  have fO0 := BO.frozen 0
  have cO1 := BO.cell 1
  have fO1 := BO.frozen 1
  have cO2 := BO.cell 2
  have fO2 := BO.frozen 2
  have cO3 := BO.cell 3
  have fO3 := BO.frozen 3
  have cO4 := BO.cell 4
  have fO4 := BO.frozen 4
  have cO5 := BO.cell 5
  have fO5 := BO.frozen 5
  have cO6 := BO.cell 6
  have fO6 := BO.frozen 6
  have cO7 := BO.cell 7
  have fO7 := BO.frozen 7
  have cO8 := BO.cell 8
  have fO8 := BO.frozen 8
  simp at cP0 cO0 cP1 cO1 cP2 cO2 cP3 cO3 cP4 cO4 cP5 cO5 cP6 cO6 cP7 cO7 cP8 cO8
  go_wp2_with fail
  clear cP0 cO0 fO0 cP1 cO1 fO1 cP2 cO2 fO2 cP3 cO3 fO3 cP4 cO4 fO4 cP5 cO5 fO5 cP6 cO6 fO6 cP7 cO7 fO7 cP8 cO8 fO8
  clear cR0 fR0 cR1 fR1 cR2 fR2 cR3 fR3 cR4 fR4 cR5 fR5 cR6 fR6 cR7 fR7 cR8 fR8
  obtain ⟨w4, hw4⟩ : ∃ wb, wb = (((w3.setCell ⟨w.heap.size + 1 + 1, 6, none⟩ (.slice (some ⟨gList, 0, none⟩) nList nList)).setCell ⟨w.heap.size + 1 + 1, 7, none⟩ (.int .i64 x.2.2.2.2.1)).setCell ⟨w.heap.size + 1 + 1, 8, none⟩ (.int .i64 x.2.2.2.2.2)) := ⟨_, rfl⟩
  have BO' : Blk w4 (w.heap.size + 1 + 1) 35 #[.int .i64 x.1, .string x.2.1, .int .i64 x.2.2.1.1, .slice AyFactEqLeft nyFactEqLeft cyFactEqLeft, .slice AyFactEqRight nyFactEqRight cyFactEqRight, .slice AyFactList nyFactList cyFactList, .slice (some ⟨gList, 0, none⟩) nList nList, .int .i64 x.2.2.2.2.1, .int .i64 x.2.2.2.2.2] := by rw [hw4]; simpa using (((BO.set_ 6 (.slice (some ⟨gList, 0, none⟩) nList nList)).set_ 7 (.int .i64 x.2.2.2.2.1)).set_ 8 (.int .i64 x.2.2.2.2.2))
  replace BP : Blk w4 w.heap.size 28 #[.int .i64 x.1, .string x.2.1, .int .i64 x.2.2.1.1, .slice AFactEqLeft nFactEqLeft cFactEqLeft, .slice AFactEqRight nFactEqRight cFactEqRight, .slice AFactList nFactList cFactList, .slice AList nList cList, .int .i64 x.2.2.2.2.1, .int .i64 x.2.2.2.2.2] := by rw [hw4]; exact (((BP.far (p := ⟨w.heap.size + 1 + 1, 6, none⟩) (by simp; try omega) (.slice (some ⟨gList, 0, none⟩) nList nList)).far (p := ⟨w.heap.size + 1 + 1, 7, none⟩) (by simp; try omega) (.int .i64 x.2.2.2.2.1)).far (p := ⟨w.heap.size + 1 + 1, 8, none⟩) (by simp; try omega) (.int .i64 x.2.2.2.2.2))
  replace BR : Blk w4 (w.heap.size + 1) 35 #[.int .i64 0, .string ⟨#[]⟩, .int .i64 0, .slice none 0 0, .slice none 0 0, .slice none 0 0, .slice none 0 0, .int .i64 0, .int .i64 0] := by rw [hw4]; exact (((BR.far (p := ⟨w.heap.size + 1 + 1, 6, none⟩) (by simp; try omega) (.slice (some ⟨gList, 0, none⟩) nList nList)).far (p := ⟨w.heap.size + 1 + 1, 7, none⟩) (by simp; try omega) (.int .i64 x.2.2.2.2.1)).far (p := ⟨w.heap.size + 1 + 1, 8, none⟩) (by simp; try omega) (.int .i64 x.2.2.2.2.2))
  replace BO := BO'
  clear BO'
  have T4 : Below w.heap.size w w4 := by rw [hw4]; exact (((T3.setCell (by simp; try omega) (.slice (some ⟨gList, 0, none⟩) nList nList)).setCell (by simp; try omega) (.int .i64 x.2.2.2.2.1)).setCell (by simp; try omega) (.int .i64 x.2.2.2.2.2))
  have hz4 : w4.heap.size = w3.heap.size := by rw [hw4]; simp
  replace OFact : shFact.own w4 [.int .i64 x.2.2.1.1, .slice AyFactEqLeft nyFactEqLeft cyFactEqLeft, .slice AyFactEqRight nyFactEqRight cyFactEqRight, .slice AyFactList nyFactList cyFactList] x.2.2.1 blFact := by rw [hw4]; exact Sh.oset (p := ⟨w.heap.size + 1 + 1, 8, none⟩) (Sh.oset (p := ⟨w.heap.size + 1 + 1, 7, none⟩) (Sh.oset (p := ⟨w.heap.size + 1 + 1, 6, none⟩) (OFact) IFact (by show w.heap.size + 1 + 1 < _; omega) (.slice (some ⟨gList, 0, none⟩) nList nList)) IFact (by show w.heap.size + 1 + 1 < _; omega) (.int .i64 x.2.2.2.2.1)) IFact (by show w.heap.size + 1 + 1 < _; omega) (.int .i64 x.2.2.2.2.2)
  replace OList : (Sh.il 3).own w4 [.slice (some ⟨gList, 0, none⟩) nList nList] x.2.2.2.1 [gList] := by rw [hw4]; exact Sh.oset (p := ⟨w.heap.size + 1 + 1, 8, none⟩) (Sh.oset (p := ⟨w.heap.size + 1 + 1, 7, none⟩) (Sh.oset (p := ⟨w.heap.size + 1 + 1, 6, none⟩) (OList) IList (by show w.heap.size + 1 + 1 < _; omega) (.slice (some ⟨gList, 0, none⟩) nList nList)) IList (by show w.heap.size + 1 + 1 < _; omega) (.int .i64 x.2.2.2.2.1)) IList (by show w.heap.size + 1 + 1 < _; omega) (.int .i64 x.2.2.2.2.2)
  
  
  
  
  rw [← hw4]
  have BRR : Blk (((((((((w4.setCell ⟨w.heap.size + 1, 0, none⟩ (.int .i64 x.1)).setCell ⟨w.heap.size + 1, 1, none⟩ (.string x.2.1)).setCell ⟨w.heap.size + 1, 2, none⟩ (.int .i64 x.2.2.1.1)).setCell ⟨w.heap.size + 1, 3, none⟩ (.slice AyFactEqLeft nyFactEqLeft cyFactEqLeft)).setCell ⟨w.heap.size + 1, 4, none⟩ (.slice AyFactEqRight nyFactEqRight cyFactEqRight)).setCell ⟨w.heap.size + 1, 5, none⟩ (.slice AyFactList nyFactList cyFactList)).setCell ⟨w.heap.size + 1, 6, none⟩ (.slice (some ⟨gList, 0, none⟩) nList nList)).setCell ⟨w.heap.size + 1, 7, none⟩ (.int .i64 x.2.2.2.2.1)).setCell ⟨w.heap.size + 1, 8, none⟩ (.int .i64 x.2.2.2.2.2)) (w.heap.size + 1) 35 #[.int .i64 x.1, .string x.2.1, .int .i64 x.2.2.1.1, .slice AyFactEqLeft nyFactEqLeft cyFactEqLeft, .slice AyFactEqRight nyFactEqRight cyFactEqRight, .slice AyFactList nyFactList cyFactList, .slice (some ⟨gList, 0, none⟩) nList nList, .int .i64 x.2.2.2.2.1, .int .i64 x.2.2.2.2.2] := by simpa using (((((((((BR).set_ 0 (.int .i64 x.1)).set_ 1 (.string x.2.1)).set_ 2 (.int .i64 x.2.2.1.1)).set_ 3 (.slice AyFactEqLeft nyFactEqLeft cyFactEqLeft)).set_ 4 (.slice AyFactEqRight nyFactEqRight cyFactEqRight)).set_ 5 (.slice AyFactList nyFactList cyFactList)).set_ 6 (.slice (some ⟨gList, 0, none⟩) nList nList)).set_ 7 (.int .i64 x.2.2.2.2.1)).set_ 8 (.int .i64 x.2.2.2.2.2)
  (try simp only [Exit.inBlock, Exit.then])
  refine bodyPost_ret (v := .agg #[.int .i64 x.1, .string x.2.1, .int .i64 x.2.2.1.1, .slice AyFactEqLeft nyFactEqLeft cyFactEqLeft, .slice AyFactEqRight nyFactEqRight cyFactEqRight, .slice AyFactList nyFactList cyFactList, .slice (some ⟨gList, 0, none⟩) nList nList, .int .i64 x.2.2.2.2.1, .int .i64 x.2.2.2.2.2]) (results_cell_row rfl _ _ (w.heap.size + 1) 35 #[.int .i64 x.1, .string x.2.1, .int .i64 x.2.2.1.1, .slice AyFactEqLeft nyFactEqLeft cyFactEqLeft, .slice AyFactEqRight nyFactEqRight cyFactEqRight, .slice AyFactList nyFactList cyFactList, .slice (some ⟨gList, 0, none⟩) nList nList, .int .i64 x.2.2.2.2.1, .int .i64 x.2.2.2.2.2] (0, 0) _ (by simp) BRR Try.underlying35 rfl (by kernel_rfl)) rfl ?_
  have hsz : (((((((((w4.setCell ⟨w.heap.size + 1, 0, none⟩ (.int .i64 x.1)).setCell ⟨w.heap.size + 1, 1, none⟩ (.string x.2.1)).setCell ⟨w.heap.size + 1, 2, none⟩ (.int .i64 x.2.2.1.1)).setCell ⟨w.heap.size + 1, 3, none⟩ (.slice AyFactEqLeft nyFactEqLeft cyFactEqLeft)).setCell ⟨w.heap.size + 1, 4, none⟩ (.slice AyFactEqRight nyFactEqRight cyFactEqRight)).setCell ⟨w.heap.size + 1, 5, none⟩ (.slice AyFactList nyFactList cyFactList)).setCell ⟨w.heap.size + 1, 6, none⟩ (.slice (some ⟨gList, 0, none⟩) nList nList)).setCell ⟨w.heap.size + 1, 7, none⟩ (.int .i64 x.2.2.2.2.1)).setCell ⟨w.heap.size + 1, 8, none⟩ (.int .i64 x.2.2.2.2.2)).heap.size = w4.heap.size := by simp
  refine ⟨_, (blFact ++ [gList]), rfl, ⟨[.int .i64 x.1], [.string x.2.1, .int .i64 x.2.2.1.1, .slice AyFactEqLeft nyFactEqLeft cyFactEqLeft, .slice AyFactEqRight nyFactEqRight cyFactEqRight, .slice AyFactList nyFactList cyFactList, .slice (some ⟨gList, 0, none⟩) nList nList, .int .i64 x.2.2.2.2.1, .int .i64 x.2.2.2.2.2], [], (blFact ++ [gList]), rfl, rfl, ⟨_, rfl, ⟨rfl, qKind.1, qKind.2⟩, rfl⟩, ⟨[.string x.2.1], [.int .i64 x.2.2.1.1, .slice AyFactEqLeft nyFactEqLeft cyFactEqLeft, .slice AyFactEqRight nyFactEqRight cyFactEqRight, .slice AyFactList nyFactList cyFactList, .slice (some ⟨gList, 0, none⟩) nList nList, .int .i64 x.2.2.2.2.1, .int .i64 x.2.2.2.2.2], [], (blFact ++ [gList]), rfl, rfl, ⟨_, rfl, ⟨rfl, qText⟩, rfl⟩, ⟨[.int .i64 x.2.2.1.1, .slice AyFactEqLeft nyFactEqLeft cyFactEqLeft, .slice AyFactEqRight nyFactEqRight cyFactEqRight, .slice AyFactList nyFactList cyFactList], [.slice (some ⟨gList, 0, none⟩) nList nList, .int .i64 x.2.2.2.2.1, .int .i64 x.2.2.2.2.2], blFact, [gList], rfl, rfl, (Sh.oset (p := ⟨w.heap.size + 1, 8, none⟩) (Sh.oset (p := ⟨w.heap.size + 1, 7, none⟩) (Sh.oset (p := ⟨w.heap.size + 1, 6, none⟩) (Sh.oset (p := ⟨w.heap.size + 1, 5, none⟩) (Sh.oset (p := ⟨w.heap.size + 1, 4, none⟩) (Sh.oset (p := ⟨w.heap.size + 1, 3, none⟩) (Sh.oset (p := ⟨w.heap.size + 1, 2, none⟩) (Sh.oset (p := ⟨w.heap.size + 1, 1, none⟩) (Sh.oset (p := ⟨w.heap.size + 1, 0, none⟩) (OFact) IFact (by show w.heap.size + 1 < _; omega) (.int .i64 x.1)) IFact (by show w.heap.size + 1 < _; omega) (.string x.2.1)) IFact (by show w.heap.size + 1 < _; omega) (.int .i64 x.2.2.1.1)) IFact (by show w.heap.size + 1 < _; omega) (.slice AyFactEqLeft nyFactEqLeft cyFactEqLeft)) IFact (by show w.heap.size + 1 < _; omega) (.slice AyFactEqRight nyFactEqRight cyFactEqRight)) IFact (by show w.heap.size + 1 < _; omega) (.slice AyFactList nyFactList cyFactList)) IFact (by show w.heap.size + 1 < _; omega) (.slice (some ⟨gList, 0, none⟩) nList nList)) IFact (by show w.heap.size + 1 < _; omega) (.int .i64 x.2.2.2.2.1)) IFact (by show w.heap.size + 1 < _; omega) (.int .i64 x.2.2.2.2.2)), ⟨[.slice (some ⟨gList, 0, none⟩) nList nList], [.int .i64 x.2.2.2.2.1, .int .i64 x.2.2.2.2.2], [gList], [], rfl, (List.append_nil _).symm, (Sh.oset (p := ⟨w.heap.size + 1, 8, none⟩) (Sh.oset (p := ⟨w.heap.size + 1, 7, none⟩) (Sh.oset (p := ⟨w.heap.size + 1, 6, none⟩) (Sh.oset (p := ⟨w.heap.size + 1, 5, none⟩) (Sh.oset (p := ⟨w.heap.size + 1, 4, none⟩) (Sh.oset (p := ⟨w.heap.size + 1, 3, none⟩) (Sh.oset (p := ⟨w.heap.size + 1, 2, none⟩) (Sh.oset (p := ⟨w.heap.size + 1, 1, none⟩) (Sh.oset (p := ⟨w.heap.size + 1, 0, none⟩) (OList) IList (by show w.heap.size + 1 < _; omega) (.int .i64 x.1)) IList (by show w.heap.size + 1 < _; omega) (.string x.2.1)) IList (by show w.heap.size + 1 < _; omega) (.int .i64 x.2.2.1.1)) IList (by show w.heap.size + 1 < _; omega) (.slice AyFactEqLeft nyFactEqLeft cyFactEqLeft)) IList (by show w.heap.size + 1 < _; omega) (.slice AyFactEqRight nyFactEqRight cyFactEqRight)) IList (by show w.heap.size + 1 < _; omega) (.slice AyFactList nyFactList cyFactList)) IList (by show w.heap.size + 1 < _; omega) (.slice (some ⟨gList, 0, none⟩) nList nList)) IList (by show w.heap.size + 1 < _; omega) (.int .i64 x.2.2.2.2.1)) IList (by show w.heap.size + 1 < _; omega) (.int .i64 x.2.2.2.2.2)), ⟨[.int .i64 x.2.2.2.2.1], [.int .i64 x.2.2.2.2.2], [], [], rfl, rfl, ⟨_, rfl, ⟨rfl, qA.1, qA.2⟩, rfl⟩, ⟨_, rfl, ⟨rfl, qB.1, qB.2⟩, rfl⟩⟩⟩⟩⟩⟩, ?_, (((((((((T4).setCell (by simp; try omega) (.int .i64 x.1)).setCell (by simp; try omega) (.string x.2.1)).setCell (by simp; try omega) (.int .i64 x.2.2.1.1)).setCell (by simp; try omega) (.slice AyFactEqLeft nyFactEqLeft cyFactEqLeft)).setCell (by simp; try omega) (.slice AyFactEqRight nyFactEqRight cyFactEqRight)).setCell (by simp; try omega) (.slice AyFactList nyFactList cyFactList)).setCell (by simp; try omega) (.slice (some ⟨gList, 0, none⟩) nList nList)).setCell (by simp; try omega) (.int .i64 x.2.2.2.2.1)).setCell (by simp; try omega) (.int .i64 x.2.2.2.2.2)⟩
  rw [hsz]
  exact Iv.mono (Iv.app (lo := w.heap.size) (hi := w4.heap.size) (a := blFact) (b := [gList]) (Iv.mono IFact (by omega) (Nat.le_refl _)) (Iv.mono IList (Nat.le_refl _) (by omega)) (by omega) (by omega) (by omega)) (by omega) (by omega)
theorem eqPLabStep (x y : LabStepM) : eqC x y = (eqC (x.1) (y.1) && (eqC (x.2.1) (y.2.1) && (eqC (x.2.2.1) (y.2.2.1) && (eqC (x.2.2.2.1) (y.2.2.2.1) && (eqC (x.2.2.2.2.1) (y.2.2.2.2.1) && eqC (x.2.2.2.2.2) (y.2.2.2.2.2)))))) := by
  obtain ⟨x0, x1, x2, x3, x4, x5⟩ := x
  obtain ⟨y0, y1, y2, y3, y4, y5⟩ := y
  simp only [dec_pair]
set_option linter.unusedVariables false in
set_option maxHeartbeats 4000000 in
theorem eqLabStep_any (cs ds : List Value) (x y : LabStepM) (w : World) (h : shLabStep.rd w cs x) (h' : shLabStep.rd w ds y) :
    Calls Try.prog 19 #[.agg cs.toArray, .agg ds.toArray] w (Bl w (.bool (eqC x y))) := by
  obtain ⟨AFactEqLeft, nFactEqLeft, cFactEqLeft, AFactEqRight, nFactEqRight, cFactEqRight, AFactList, nFactList, cFactList, AList, nList, cList, rfl, qKind, qText, qFactKind, qFactEqLeft, qFactEqRight, qFactList, qList, qA, qB⟩ := rdLabStep h
  obtain ⟨AyFactEqLeft, nyFactEqLeft, cyFactEqLeft, AyFactEqRight, nyFactEqRight, cyFactEqRight, AyFactList, nyFactList, cyFactList, AyList, nyList, cyList, rfl, qyKind, qyText, qyFactKind, qyFactEqLeft, qyFactEqRight, qyFactList, qyList, qyA, qyB⟩ := rdLabStep h'
  obtain ⟨w0, hw0, T0, hsz0, BP, BQ⟩ := boxes2 w #[.int .i64 x.1, .string x.2.1, .int .i64 x.2.2.1.1, .slice AFactEqLeft nFactEqLeft cFactEqLeft, .slice AFactEqRight nFactEqRight cFactEqRight, .slice AFactList nFactList cFactList, .slice AList nList cList, .int .i64 x.2.2.2.2.1, .int .i64 x.2.2.2.2.2] #[.int .i64 y.1, .string y.2.1, .int .i64 y.2.2.1.1, .slice AyFactEqLeft nyFactEqLeft cyFactEqLeft, .slice AyFactEqRight nyFactEqRight cyFactEqRight, .slice AyFactList nyFactList cyFactList, .slice AyList nyList cyList, .int .i64 y.2.2.2.2.1, .int .i64 y.2.2.2.2.2] 35 35
  replace qFactEqLeft := qFactEqLeft.next stab_RI T0
  replace qyFactEqLeft := qyFactEqLeft.next stab_RI T0
  replace qFactEqRight := qFactEqRight.next stab_RI T0
  replace qyFactEqRight := qyFactEqRight.next stab_RI T0
  replace qFactList := qFactList.next stab_RI T0
  replace qyFactList := qyFactList.next stab_RI T0
  replace qList := qList.next stab_RI T0
  replace qyList := qyList.next stab_RI T0
  have HD := Lib.hid (eqPLabStep x y)
  go_enter Try.func19, Try.ntmps19
  rcases hd0 : eqC (x.1) (y.1) with _ | _
  · have ht : (x.1 != y.1) = true := neq_int hd0
    have HH0 := Lib.hid hd0
    clear hd0
    have cP0 := BP.cell 0
    have cQ0 := BQ.cell 0
    simp at cP0 cQ0
    rw [hw0] at cP0 cQ0
    go_wp2_with fail
    go_ret
    exact ⟨ret_bool (by rw [HD.out, HH0.out]; first | rfl | simp), by first | exact T0 | (rw [← hw0]; exact T0)⟩
  have ht0 : (x.1 != y.1) = false := neq_int hd0
  have HH0 := Lib.hid hd0
  clear hd0
  have cP0 := BP.cell 0
  have cQ0 := BQ.cell 0
  simp at cP0 cQ0
  rw [hw0] at cP0 cQ0
  rcases hd1 : eqC (x.2.1) (y.2.1) with _ | _
  · have ht : (x.2.1.toList == y.2.1.toList) = false := eqq_str hd1
    have HH1 := Lib.hid hd1
    clear hd1
    have cP1 := BP.cell 1
    have cQ1 := BQ.cell 1
    simp at cP1 cQ1
    rw [hw0] at cP1 cQ1
    go_wp2_with fail
    go_ret
    exact ⟨ret_bool (by rw [HD.out, HH0.out, HH1.out]; first | rfl | simp), by first | exact T0 | (rw [← hw0]; exact T0)⟩
  have ht1 : (x.2.1.toList == y.2.1.toList) = true := eqq_str hd1
  have HH1 := Lib.hid hd1
  clear hd1
  have cP1 := BP.cell 1
  have cQ1 := BQ.cell 1
  simp at cP1 cQ1
  rw [hw0] at cP1 cQ1
  rcases hd2 : eqC (x.2.2.1) (y.2.2.1) with _ | _
  · have HH2 := Lib.hid hd2
    clear hd2
    have cP2 := BP.cell 2
    have cQ2 := BQ.cell 2
    have cP3 := BP.cell 3
    have cQ3 := BQ.cell 3
    have cP4 := BP.cell 4
    have cQ4 := BQ.cell 4
    have cP5 := BP.cell 5
    have cQ5 := BQ.cell 5
    simp at cP2 cQ2 cP3 cQ3 cP4 cQ4 cP5 cQ5
    rw [hw0] at cP2 cQ2 cP3 cQ3 cP4 cQ4 cP5 cQ5
    go_wp2_with fail
    rw [← hw0]
    refine (eqFact_any [.int .i64 x.2.2.1.1, .slice AFactEqLeft nFactEqLeft cFactEqLeft, .slice AFactEqRight nFactEqRight cFactEqRight, .slice AFactList nFactList cFactList] [.int .i64 y.2.2.1.1, .slice AyFactEqLeft nyFactEqLeft cyFactEqLeft, .slice AyFactEqRight nyFactEqRight cyFactEqRight, .slice AyFactList nyFactList cyFactList] x.2.2.1 y.2.2.1 _ (mkFact qFactKind qFactEqLeft qFactEqRight qFactList) (mkFact qyFactKind qyFactEqLeft qyFactEqRight qyFactList)).mono ?_
    rintro e w1 ⟨rfl, hb1⟩
    rw [HH2.out]
    have T1 := below_next T0 hb1 rfl
    go_wp2_with fail
    go_ret
    exact ⟨ret_bool (by rw [HD.out, HH0.out, HH1.out, HH2.out]; first | rfl | simp), T1⟩
  have HH2 := Lib.hid hd2
  clear hd2
  have cP2 := BP.cell 2
  have cQ2 := BQ.cell 2
  have cP3 := BP.cell 3
  have cQ3 := BQ.cell 3
  have cP4 := BP.cell 4
  have cQ4 := BQ.cell 4
  have cP5 := BP.cell 5
  have cQ5 := BQ.cell 5
  simp at cP2 cQ2 cP3 cQ3 cP4 cQ4 cP5 cQ5
  rw [hw0] at cP2 cQ2 cP3 cQ3 cP4 cQ4 cP5 cQ5
  go_wp2_with fail
  rw [← hw0]
  refine (eqFact_any [.int .i64 x.2.2.1.1, .slice AFactEqLeft nFactEqLeft cFactEqLeft, .slice AFactEqRight nFactEqRight cFactEqRight, .slice AFactList nFactList cFactList] [.int .i64 y.2.2.1.1, .slice AyFactEqLeft nyFactEqLeft cyFactEqLeft, .slice AyFactEqRight nyFactEqRight cyFactEqRight, .slice AyFactList nyFactList cyFactList] x.2.2.1 y.2.2.1 _ (mkFact qFactKind qFactEqLeft qFactEqRight qFactList) (mkFact qyFactKind qyFactEqLeft qyFactEqRight qyFactList)).mono ?_
  rintro e w1 ⟨rfl, hb1⟩
  rw [HH2.out]
  have T1 := below_next T0 hb1 rfl
  clear cP2 cQ2 cP3 cQ3 cP4 cQ4 cP5 cQ5 cP0 cQ0 cP1 cQ1 ht0 ht1
  replace BP := BP.next hb1
  replace BQ := BQ.next hb1
  replace qFactEqLeft := qFactEqLeft.next stab_RI hb1
  replace qyFactEqLeft := qyFactEqLeft.next stab_RI hb1
  replace qFactEqRight := qFactEqRight.next stab_RI hb1
  replace qyFactEqRight := qyFactEqRight.next stab_RI hb1
  replace qFactList := qFactList.next stab_RI hb1
  replace qyFactList := qyFactList.next stab_RI hb1
  replace qList := qList.next stab_RI hb1
  replace qyList := qyList.next stab_RI hb1
  rcases hd3 : eqC (x.2.2.2.1) (y.2.2.2.1) with _ | _
  · have HH3 := Lib.hid hd3
    clear hd3
    have cP6 := BP.cell 6
    have cQ6 := BQ.cell 6
    simp at cP6 cQ6
    go_wp2_with fail
    refine (bl_of_quiet (eqIntS_any _ _ _ _ _ _ _ _ _ qList qyList)).mono ?_
    rintro e w2 ⟨rfl, hb2⟩
    rw [eqL_dec]
    rw [HH3.out]
    have T2 := below_next T1 hb2 rfl
    go_wp2_with fail
    go_ret
    exact ⟨ret_bool (by rw [HD.out, HH0.out, HH1.out, HH2.out, HH3.out]; first | rfl | simp), T2⟩
  have HH3 := Lib.hid hd3
  clear hd3
  have cP6 := BP.cell 6
  have cQ6 := BQ.cell 6
  simp at cP6 cQ6
  go_wp2_with fail
  refine (bl_of_quiet (eqIntS_any _ _ _ _ _ _ _ _ _ qList qyList)).mono ?_
  rintro e w2 ⟨rfl, hb2⟩
  rw [eqL_dec]
  rw [HH3.out]
  have T2 := below_next T1 hb2 rfl
  clear cP6 cQ6
  replace BP := BP.next hb2
  replace BQ := BQ.next hb2
  replace qFactEqLeft := qFactEqLeft.next stab_RI hb2
  replace qyFactEqLeft := qyFactEqLeft.next stab_RI hb2
  replace qFactEqRight := qFactEqRight.next stab_RI hb2
  replace qyFactEqRight := qyFactEqRight.next stab_RI hb2
  replace qFactList := qFactList.next stab_RI hb2
  replace qyFactList := qyFactList.next stab_RI hb2
  replace qList := qList.next stab_RI hb2
  replace qyList := qyList.next stab_RI hb2
  rcases hd4 : eqC (x.2.2.2.2.1) (y.2.2.2.2.1) with _ | _
  · have ht : (x.2.2.2.2.1 != y.2.2.2.2.1) = true := neq_int hd4
    have HH4 := Lib.hid hd4
    clear hd4
    have cP7 := BP.cell 7
    have cQ7 := BQ.cell 7
    simp at cP7 cQ7
    go_wp2_with fail
    go_ret
    exact ⟨ret_bool (by rw [HD.out, HH0.out, HH1.out, HH2.out, HH3.out, HH4.out]; first | rfl | simp), by first | exact T2 | (rw [← hw0]; exact T2)⟩
  have ht4 : (x.2.2.2.2.1 != y.2.2.2.2.1) = false := neq_int hd4
  have HH4 := Lib.hid hd4
  clear hd4
  have cP7 := BP.cell 7
  have cQ7 := BQ.cell 7
  simp at cP7 cQ7
  rcases hd5 : eqC (x.2.2.2.2.2) (y.2.2.2.2.2) with _ | _
  · have ht : (x.2.2.2.2.2 != y.2.2.2.2.2) = true := neq_int hd5
    have HH5 := Lib.hid hd5
    clear hd5
    have cP8 := BP.cell 8
    have cQ8 := BQ.cell 8
    simp at cP8 cQ8
    go_wp2_with fail
    go_ret
    exact ⟨ret_bool (by rw [HD.out, HH0.out, HH1.out, HH2.out, HH3.out, HH4.out, HH5.out]; first | rfl | simp), by first | exact T2 | (rw [← hw0]; exact T2)⟩
  have ht5 : (x.2.2.2.2.2 != y.2.2.2.2.2) = false := neq_int hd5
  have HH5 := Lib.hid hd5
  clear hd5
  have cP8 := BP.cell 8
  have cQ8 := BQ.cell 8
  simp at cP8 cQ8
  go_wp2_with fail
  go_ret
  exact ⟨ret_bool (by rw [HD.out, HH0.out, HH1.out, HH2.out, HH3.out, HH4.out, HH5.out]; first | rfl | simp), T2⟩
end Go.Proofs.Ytppnmpeicmlneaa
