
/- The harness's functions on Lab and []Lab: size, copy, equality. Printed by genshape.py. -/
import Derived.Test.YtbonebpheimbaaaGreatDoorHOp
import Derived.Test.YtbonebpheimbaaaGreatDoorHIdentity
import Derived.Deep.RegionHeld3
import Derived.Deep.DeepCutAuto
namespace Go.Proofs.YtbonebpheimbaaaGreatDoor
open Go.RowKit

abbrev LabM : Type := (Bool × AlgebraM × List FactM × Int)
def shLab : Sh LabM := (Sh.pair Sh.bool (Sh.pair shAlgebra (Sh.pair (Sh.rows shFact 62) Sh.int)))
theorem rdLab {w : World} {cs : List Value} {x : LabM} (h : shLab.rd w cs x) : ∃ (ABaseOps : Option Addr) (nBaseOps cBaseOps : Nat) (AFacts : Option Addr) (nFacts cFacts : Nat), cs = [.bool x.1, .int .i64 x.2.1.1, .slice ABaseOps nBaseOps cBaseOps, .slice AFacts nFacts cFacts, .int .i64 x.2.2.2] ∧ InR x.2.1.1 ∧ RdN shOp.m shOp.rd w ABaseOps nBaseOps x.2.1.2 ∧ RdN shFact.m shFact.rd w AFacts nFacts x.2.2.1 ∧ InR x.2.2.2 := by
  obtain ⟨_, _, rfl, ⟨_, rfl, rfl⟩, ⟨_, _, rfl, ⟨_, _, rfl, ⟨_, rfl, rfl, loBaseSize, hiBaseSize⟩, ⟨ABaseOps, nBaseOps, cBaseOps, rfl, rBaseOps⟩⟩, ⟨_, _, rfl, ⟨AFacts, nFacts, cFacts, rfl, rFacts⟩, ⟨_, rfl, rfl, loRefused, hiRefused⟩⟩⟩⟩ := h
  exact ⟨ABaseOps, nBaseOps, cBaseOps, AFacts, nFacts, cFacts, rfl, ⟨loBaseSize, hiBaseSize⟩, rBaseOps, rFacts, ⟨loRefused, hiRefused⟩⟩
theorem mkLab {w : World} {x : LabM} {ABaseOps AFacts : Option Addr} {nBaseOps cBaseOps nFacts cFacts : Nat} (hBaseSize : InR x.2.1.1) (hBaseOps : RdN shOp.m shOp.rd w ABaseOps nBaseOps x.2.1.2) (hFacts : RdN shFact.m shFact.rd w AFacts nFacts x.2.2.1) (hRefused : InR x.2.2.2) : shLab.rd w [.bool x.1, .int .i64 x.2.1.1, .slice ABaseOps nBaseOps cBaseOps, .slice AFacts nFacts cFacts, .int .i64 x.2.2.2] x :=
  ⟨[.bool x.1], [.int .i64 x.2.1.1, .slice ABaseOps nBaseOps cBaseOps, .slice AFacts nFacts cFacts, .int .i64 x.2.2.2], rfl, ⟨_, rfl, rfl⟩, ⟨[.int .i64 x.2.1.1, .slice ABaseOps nBaseOps cBaseOps], [.slice AFacts nFacts cFacts, .int .i64 x.2.2.2], rfl, ⟨[.int .i64 x.2.1.1], [.slice ABaseOps nBaseOps cBaseOps], rfl, ⟨_, rfl, rfl, hBaseSize.1, hBaseSize.2⟩, ⟨_, _, _, rfl, hBaseOps⟩⟩, ⟨[.slice AFacts nFacts cFacts], [.int .i64 x.2.2.2], rfl, ⟨_, _, _, rfl, hFacts⟩, ⟨_, rfl, rfl, hRefused.1, hRefused.2⟩⟩⟩⟩
set_option linter.unusedVariables false in
set_option maxHeartbeats 2000000 in
theorem szLab_any (cs : List Value) (x : LabM) (left : Int) (w : World) (h : shLab.rd w cs x) (h0 : 0 ≤ left) (h1 : left ≤ 1048576) :
    Calls Tryz.prog 12 #[.agg cs.toArray, .int .i64 left] w (Bl w (.int .i64 (szR (shLab.cnt x) left))) := by
  obtain ⟨ABaseOps, nBaseOps, cBaseOps, AFacts, nFacts, cFacts, rfl, qBaseSize, qBaseOps, qFacts, qRefused⟩ := rdLab h
  obtain ⟨w0, hw0, T0, hsz0, BP⟩ := boxes1 w #[.bool x.1, .int .i64 x.2.1.1, .slice ABaseOps nBaseOps cBaseOps, .slice AFacts nFacts cFacts, .int .i64 x.2.2.2] 27
  have lBaseOps := qBaseOps.le
  have lFacts := qFacts.le
  have HC0 : Hid (szR 0 left = left) := szR_zero h0
  have HCN : Hid (shLab.cnt x = (0 + ((shAlgebra.cnt x.2.1) + ((x.2.2.1.length + cntS shFact.cnt x.2.2.1) + 0)))) := rfl
  replace qBaseOps := qBaseOps.next T0
  replace qFacts := qFacts.next T0
  go_enter Tryz.func12, Tryz.ntmps12
  have cP := BP.cell 1
  clear cP
  have cP0 := BP.cell 1
  have cP1 := BP.cell 2
  simp at cP0 cP1
  rw [hw0] at cP0 cP1
  go_wp2_with fail
  rw [← hw0]
  refine (szAlgebra_any [.int .i64 x.2.1.1, .slice ABaseOps nBaseOps cBaseOps] x.2.1 left _ (mkAlgebra qBaseSize qBaseOps) (by omega) (by omega)).mono ?_
  rintro e w1 ⟨rfl, hb1⟩
  have T1 := below_next T0 hb1 rfl
  replace BP := BP.next hb1
  replace qBaseOps := qBaseOps.next hb1
  replace qFacts := qFacts.next hb1
  clear cP0 cP1
  have HC1 : Hid (szR (0 + (shAlgebra.cnt x.2.1)) left = szR (shAlgebra.cnt x.2.1) left) := by show _ = _; rw [← szR_add (by rw [HC0.out]; omega), HC0.out]
  have hbd0 := szR_bd (shAlgebra.cnt x.2.1) (left := left) (by omega)
  obtain ⟨L0, HL0⟩ : ∃ L, Hid (szR (shAlgebra.cnt x.2.1) left = L) := ⟨_, rfl⟩
  rw [HL0.out] at HC1 hbd0 ⊢
  by_cases z0 : L0 < 0
  · go_wp2_with fail
    go_ret
    exact ⟨ret_int (szR_le (by rw [HC1.out]; omega) (by rw [HCN.out]; omega) h0), T1⟩
  have cP := BP.cell 3
  simp at cP
  go_wp2_with fail
  refine (szFactS_any _ _ _ _ L0 _ qFacts (by omega) (by omega)).mono ?_
  rintro e w2 ⟨rfl, hb2⟩
  have T2 := below_next T1 hb2 rfl
  replace BP := BP.next hb2
  replace qBaseOps := qBaseOps.next hb2
  replace qFacts := qFacts.next hb2
  clear cP
  have HC2 : Hid (szR ((0 + (shAlgebra.cnt x.2.1)) + (x.2.2.1.length + cntS shFact.cnt x.2.2.1)) left = szR (x.2.2.1.length + cntS shFact.cnt x.2.2.1) L0) := by show _ = _; rw [← szR_add (by rw [HC1.out]; omega), HC1.out]
  have hbd1 := szR_bd (x.2.2.1.length + cntS shFact.cnt x.2.2.1) (left := L0) (by omega)
  obtain ⟨L1, HL1⟩ : ∃ L, Hid (szR (x.2.2.1.length + cntS shFact.cnt x.2.2.1) L0 = L) := ⟨_, rfl⟩
  rw [HL1.out] at HC2 hbd1 ⊢
  by_cases z1 : L1 < 0
  · go_wp2_with fail
    go_ret
    exact ⟨ret_int (szR_le (by rw [HC2.out]; omega) (by rw [HCN.out]; omega) h0), T2⟩
  go_wp2_with fail
  go_ret
  exact ⟨ret_int (by simp only [HCN.out, ← HC2.out]; first | done | (congr 1; omega)), T2⟩
set_option linter.unusedVariables false in
set_option maxHeartbeats 4000000 in
theorem toLab_any (cs : List Value) (x : LabM) (w : World) (h : shLab.rd w cs x) (hn : shLab.cnt x ≤ 1048576) :
    Calls Tryz.prog 15 #[.agg cs.toArray] w (ToE shLab w x) := by
  obtain ⟨ABaseOps, nBaseOps, cBaseOps, AFacts, nFacts, cFacts, rfl, qBaseSize, qBaseOps, qFacts, qRefused⟩ := rdLab h
  have hcn : (0 + ((shAlgebra.cnt x.2.1) + ((x.2.2.1.length + cntS shFact.cnt x.2.2.1) + 0))) ≤ 1048576 := hn
  obtain ⟨w0, hw0, T0, hsz0, BP, BR, BO⟩ := boxes3 w #[.bool x.1, .int .i64 x.2.1.1, .slice ABaseOps nBaseOps cBaseOps, .slice AFacts nFacts cFacts, .int .i64 x.2.2.2] #[.bool false, .int .i64 0, .slice none 0 0, .slice none 0 0, .int .i64 0] #[.bool x.1, .int .i64 0, .slice none 0 0, .slice none 0 0, .int .i64 0] 27 39
  have eBaseOps := qBaseOps.len
  have eFacts := qFacts.len
  go_enter Tryz.func15, Tryz.ntmps15
  go_wp2_with fail
  rw [← hw0]
  refine (toAlgebra_any [.int .i64 x.2.1.1, .slice ABaseOps nBaseOps cBaseOps] x.2.1 _ (mkAlgebra qBaseSize (qBaseOps.next T0)) (by omega)).mono ?_
  rintro e w1 ⟨csBase, blBase, rfl, OBase, IBase, hb1⟩
  obtain ⟨AyBaseOps, nyBaseOps, cyBaseOps, rfl, -, -⟩ := rdAlgebra (shAlgebra.ord OBase)
  have hz1 := hb1.size
  have T1 := below_next T0 hb1 rfl
  replace BP := BP.next hb1
  replace BR := BR.next hb1
  replace BO := BO.next hb1
  clear hb1
  have cP0 := BP.cell 0
  have cP1 := BP.cell 1
  have cP2 := BP.cell 2
  have cP3 := BP.cell 3
  have cP4 := BP.cell 4
  have cO0 := BO.cell 0
  have fO0 := BO.frozen 0
  have cO1 := BO.cell 1
  have fO1 := BO.frozen 1
  have cO2 := BO.cell 2
  have fO2 := BO.frozen 2
  have cO3 := BO.cell 3
  have fO3 := BO.frozen 3
  have cO4 := BO.cell 4
  have fO4 := BO.frozen 4
  simp at cP0 cO0 cP1 cO1 cP2 cO2 cP3 cO3 cP4 cO4
  go_wp2_with fail
  clear cP0 cO0 fO0 cP1 cO1 fO1 cP2 cO2 fO2 cP3 cO3 fO3 cP4 cO4 fO4
  obtain ⟨w2, hw2⟩ : ∃ wb, wb = ((w1.setCell ⟨w.heap.size + 1 + 1, 1, none⟩ (.int .i64 x.2.1.1)).setCell ⟨w.heap.size + 1 + 1, 2, none⟩ (.slice AyBaseOps nyBaseOps cyBaseOps)) := ⟨_, rfl⟩
  have BO' : Blk w2 (w.heap.size + 1 + 1) 39 #[.bool x.1, .int .i64 x.2.1.1, .slice AyBaseOps nyBaseOps cyBaseOps, .slice none 0 0, .int .i64 0] := by rw [hw2]; simpa using ((BO.set_ 1 (.int .i64 x.2.1.1)).set_ 2 (.slice AyBaseOps nyBaseOps cyBaseOps))
  replace BP : Blk w2 w.heap.size 27 #[.bool x.1, .int .i64 x.2.1.1, .slice ABaseOps nBaseOps cBaseOps, .slice AFacts nFacts cFacts, .int .i64 x.2.2.2] := by rw [hw2]; exact ((BP.far (p := ⟨w.heap.size + 1 + 1, 1, none⟩) (by simp; try omega) (.int .i64 x.2.1.1)).far (p := ⟨w.heap.size + 1 + 1, 2, none⟩) (by simp; try omega) (.slice AyBaseOps nyBaseOps cyBaseOps))
  replace BR : Blk w2 (w.heap.size + 1) 39 #[.bool false, .int .i64 0, .slice none 0 0, .slice none 0 0, .int .i64 0] := by rw [hw2]; exact ((BR.far (p := ⟨w.heap.size + 1 + 1, 1, none⟩) (by simp; try omega) (.int .i64 x.2.1.1)).far (p := ⟨w.heap.size + 1 + 1, 2, none⟩) (by simp; try omega) (.slice AyBaseOps nyBaseOps cyBaseOps))
  replace BO := BO'
  clear BO'
  have T2 : Below w.heap.size w w2 := by rw [hw2]; exact ((T1.setCell (by simp; try omega) (.int .i64 x.2.1.1)).setCell (by simp; try omega) (.slice AyBaseOps nyBaseOps cyBaseOps))
  have hz2 : w2.heap.size = w1.heap.size := by rw [hw2]; simp
  replace OBase : shAlgebra.own w2 [.int .i64 x.2.1.1, .slice AyBaseOps nyBaseOps cyBaseOps] x.2.1 blBase := by rw [hw2]; exact Sh.oset (p := ⟨w.heap.size + 1 + 1, 2, none⟩) (Sh.oset (p := ⟨w.heap.size + 1 + 1, 1, none⟩) (OBase) IBase (by show w.heap.size + 1 + 1 < _; omega) (.int .i64 x.2.1.1)) IBase (by show w.heap.size + 1 + 1 < _; omega) (.slice AyBaseOps nyBaseOps cyBaseOps)
  
  
  rw [← hw2]
  refine (toFactS_any _ _ _ _ _ (qFacts.next T2) (by omega)).mono ?_
  rintro e w3 ⟨vFacts, blFacts, rfl, OFacts, IFacts, hb3⟩
  obtain ⟨AyFacts, nyFacts, cyFacts, hv, -⟩ := (Sh.rows shFact 62).ord OFacts
  obtain rfl : vFacts = .slice AyFacts nyFacts cyFacts := by simpa using hv
  clear hv
  have hz3 := hb3.size
  have T3 := below_next T2 hb3 rfl
  replace BP := BP.next hb3
  replace BR := BR.next hb3
  replace BO := BO.next hb3
  replace OBase := Sh.onext OBase hb3
  clear hb3
  have cR0 := BR.cell 0
  have fR0 := BR.frozen 0
  have cR1 := BR.cell 1
  have fR1 := BR.frozen 1
  have cR2 := BR.cell 2
  have fR2 := BR.frozen 2
  have cR3 := BR.cell 3
  have fR3 := BR.frozen 3
  have cR4 := BR.cell 4
  have fR4 := BR.frozen 4
  simp at cR0 cR1 cR2 cR3 cR4
  have cP0 := BP.cell 0
  have cP1 := BP.cell 1
  have cP2 := BP.cell 2
  have cP3 := BP.cell 3
  have cP4 := BP.cell 4
  have cO0 := BO.cell 0
  have fO0 := BO.frozen 0
  have cO1 := BO.cell 1
  have fO1 := BO.frozen 1
  have cO2 := BO.cell 2
  have fO2 := BO.frozen 2
  have cO3 := BO.cell 3
  have fO3 := BO.frozen 3
  have cO4 := BO.cell 4
  have fO4 := BO.frozen 4
  simp at cP0 cO0 cP1 cO1 cP2 cO2 cP3 cO3 cP4 cO4
  go_wp2_with fail
  clear cP0 cO0 fO0 cP1 cO1 fO1 cP2 cO2 fO2 cP3 cO3 fO3 cP4 cO4 fO4
  clear cR0 fR0 cR1 fR1 cR2 fR2 cR3 fR3 cR4 fR4
  obtain ⟨w4, hw4⟩ : ∃ wb, wb = ((w3.setCell ⟨w.heap.size + 1 + 1, 3, none⟩ (.slice AyFacts nyFacts cyFacts)).setCell ⟨w.heap.size + 1 + 1, 4, none⟩ (.int .i64 x.2.2.2)) := ⟨_, rfl⟩
  have BO' : Blk w4 (w.heap.size + 1 + 1) 39 #[.bool x.1, .int .i64 x.2.1.1, .slice AyBaseOps nyBaseOps cyBaseOps, .slice AyFacts nyFacts cyFacts, .int .i64 x.2.2.2] := by rw [hw4]; simpa using ((BO.set_ 3 (.slice AyFacts nyFacts cyFacts)).set_ 4 (.int .i64 x.2.2.2))
  replace BP : Blk w4 w.heap.size 27 #[.bool x.1, .int .i64 x.2.1.1, .slice ABaseOps nBaseOps cBaseOps, .slice AFacts nFacts cFacts, .int .i64 x.2.2.2] := by rw [hw4]; exact ((BP.far (p := ⟨w.heap.size + 1 + 1, 3, none⟩) (by simp; try omega) (.slice AyFacts nyFacts cyFacts)).far (p := ⟨w.heap.size + 1 + 1, 4, none⟩) (by simp; try omega) (.int .i64 x.2.2.2))
  replace BR : Blk w4 (w.heap.size + 1) 39 #[.bool false, .int .i64 0, .slice none 0 0, .slice none 0 0, .int .i64 0] := by rw [hw4]; exact ((BR.far (p := ⟨w.heap.size + 1 + 1, 3, none⟩) (by simp; try omega) (.slice AyFacts nyFacts cyFacts)).far (p := ⟨w.heap.size + 1 + 1, 4, none⟩) (by simp; try omega) (.int .i64 x.2.2.2))
  replace BO := BO'
  clear BO'
  have T4 : Below w.heap.size w w4 := by rw [hw4]; exact ((T3.setCell (by simp; try omega) (.slice AyFacts nyFacts cyFacts)).setCell (by simp; try omega) (.int .i64 x.2.2.2))
  have hz4 : w4.heap.size = w3.heap.size := by rw [hw4]; simp
  replace OBase : shAlgebra.own w4 [.int .i64 x.2.1.1, .slice AyBaseOps nyBaseOps cyBaseOps] x.2.1 blBase := by rw [hw4]; exact Sh.oset (p := ⟨w.heap.size + 1 + 1, 4, none⟩) (Sh.oset (p := ⟨w.heap.size + 1 + 1, 3, none⟩) (OBase) IBase (by show w.heap.size + 1 + 1 < _; omega) (.slice AyFacts nyFacts cyFacts)) IBase (by show w.heap.size + 1 + 1 < _; omega) (.int .i64 x.2.2.2)
  replace OFacts : (Sh.rows shFact 62).own w4 [.slice AyFacts nyFacts cyFacts] x.2.2.1 blFacts := by rw [hw4]; exact Sh.oset (p := ⟨w.heap.size + 1 + 1, 4, none⟩) (Sh.oset (p := ⟨w.heap.size + 1 + 1, 3, none⟩) (OFacts) IFacts (by show w.heap.size + 1 + 1 < _; omega) (.slice AyFacts nyFacts cyFacts)) IFacts (by show w.heap.size + 1 + 1 < _; omega) (.int .i64 x.2.2.2)
  
  
  rw [← hw4]
  have BRR : Blk (((((w4.setCell ⟨w.heap.size + 1, 0, none⟩ (.bool x.1)).setCell ⟨w.heap.size + 1, 1, none⟩ (.int .i64 x.2.1.1)).setCell ⟨w.heap.size + 1, 2, none⟩ (.slice AyBaseOps nyBaseOps cyBaseOps)).setCell ⟨w.heap.size + 1, 3, none⟩ (.slice AyFacts nyFacts cyFacts)).setCell ⟨w.heap.size + 1, 4, none⟩ (.int .i64 x.2.2.2)) (w.heap.size + 1) 39 #[.bool x.1, .int .i64 x.2.1.1, .slice AyBaseOps nyBaseOps cyBaseOps, .slice AyFacts nyFacts cyFacts, .int .i64 x.2.2.2] := by simpa using (((((BR).set_ 0 (.bool x.1)).set_ 1 (.int .i64 x.2.1.1)).set_ 2 (.slice AyBaseOps nyBaseOps cyBaseOps)).set_ 3 (.slice AyFacts nyFacts cyFacts)).set_ 4 (.int .i64 x.2.2.2)
  (try simp only [Exit.inBlock, Exit.then])
  refine bodyPost_ret (v := .agg #[.bool x.1, .int .i64 x.2.1.1, .slice AyBaseOps nyBaseOps cyBaseOps, .slice AyFacts nyFacts cyFacts, .int .i64 x.2.2.2]) (results_cell_row rfl _ _ (w.heap.size + 1) 39 #[.bool x.1, .int .i64 x.2.1.1, .slice AyBaseOps nyBaseOps cyBaseOps, .slice AyFacts nyFacts cyFacts, .int .i64 x.2.2.2] (0, 0) _ (by simp) BRR Tryz.underlying39 rfl (by kernel_rfl)) rfl ?_
  have hsz : (((((w4.setCell ⟨w.heap.size + 1, 0, none⟩ (.bool x.1)).setCell ⟨w.heap.size + 1, 1, none⟩ (.int .i64 x.2.1.1)).setCell ⟨w.heap.size + 1, 2, none⟩ (.slice AyBaseOps nyBaseOps cyBaseOps)).setCell ⟨w.heap.size + 1, 3, none⟩ (.slice AyFacts nyFacts cyFacts)).setCell ⟨w.heap.size + 1, 4, none⟩ (.int .i64 x.2.2.2)).heap.size = w4.heap.size := by simp
  refine ⟨_, (blBase ++ blFacts), rfl, ⟨[.bool x.1], [.int .i64 x.2.1.1, .slice AyBaseOps nyBaseOps cyBaseOps, .slice AyFacts nyFacts cyFacts, .int .i64 x.2.2.2], [], (blBase ++ blFacts), rfl, rfl, ⟨_, rfl, rfl, rfl⟩, ⟨[.int .i64 x.2.1.1, .slice AyBaseOps nyBaseOps cyBaseOps], [.slice AyFacts nyFacts cyFacts, .int .i64 x.2.2.2], blBase, blFacts, rfl, rfl, (Sh.oset (p := ⟨w.heap.size + 1, 4, none⟩) (Sh.oset (p := ⟨w.heap.size + 1, 3, none⟩) (Sh.oset (p := ⟨w.heap.size + 1, 2, none⟩) (Sh.oset (p := ⟨w.heap.size + 1, 1, none⟩) (Sh.oset (p := ⟨w.heap.size + 1, 0, none⟩) (OBase) IBase (by show w.heap.size + 1 < _; omega) (.bool x.1)) IBase (by show w.heap.size + 1 < _; omega) (.int .i64 x.2.1.1)) IBase (by show w.heap.size + 1 < _; omega) (.slice AyBaseOps nyBaseOps cyBaseOps)) IBase (by show w.heap.size + 1 < _; omega) (.slice AyFacts nyFacts cyFacts)) IBase (by show w.heap.size + 1 < _; omega) (.int .i64 x.2.2.2)), ⟨[.slice AyFacts nyFacts cyFacts], [.int .i64 x.2.2.2], blFacts, [], rfl, (List.append_nil _).symm, (Sh.oset (p := ⟨w.heap.size + 1, 4, none⟩) (Sh.oset (p := ⟨w.heap.size + 1, 3, none⟩) (Sh.oset (p := ⟨w.heap.size + 1, 2, none⟩) (Sh.oset (p := ⟨w.heap.size + 1, 1, none⟩) (Sh.oset (p := ⟨w.heap.size + 1, 0, none⟩) (OFacts) IFacts (by show w.heap.size + 1 < _; omega) (.bool x.1)) IFacts (by show w.heap.size + 1 < _; omega) (.int .i64 x.2.1.1)) IFacts (by show w.heap.size + 1 < _; omega) (.slice AyBaseOps nyBaseOps cyBaseOps)) IFacts (by show w.heap.size + 1 < _; omega) (.slice AyFacts nyFacts cyFacts)) IFacts (by show w.heap.size + 1 < _; omega) (.int .i64 x.2.2.2)), ⟨_, rfl, ⟨rfl, qRefused.1, qRefused.2⟩, rfl⟩⟩⟩⟩, ?_, (((((T4).setCell (by simp; try omega) (.bool x.1)).setCell (by simp; try omega) (.int .i64 x.2.1.1)).setCell (by simp; try omega) (.slice AyBaseOps nyBaseOps cyBaseOps)).setCell (by simp; try omega) (.slice AyFacts nyFacts cyFacts)).setCell (by simp; try omega) (.int .i64 x.2.2.2)⟩
  rw [hsz]
  exact Iv.mono (Iv.app (lo := w.heap.size) (hi := w4.heap.size) (a := blBase) (b := blFacts) (Iv.mono IBase (by omega) (Nat.le_refl _)) (Iv.mono IFacts (Nat.le_refl _) (by omega)) (by omega) (by omega) (by omega)) (by omega) (by omega)
theorem eqPLab (x y : LabM) : eqC x y = (eqC (x.1) (y.1) && (eqC (x.2.1) (y.2.1) && (eqC (x.2.2.1) (y.2.2.1) && eqC (x.2.2.2) (y.2.2.2)))) := by
  obtain ⟨x0, x1, x2, x3⟩ := x
  obtain ⟨y0, y1, y2, y3⟩ := y
  simp only [dec_pair]
set_option linter.unusedVariables false in
set_option maxHeartbeats 4000000 in
theorem eqLab_any (cs ds : List Value) (x y : LabM) (w : World) (h : shLab.rd w cs x) (h' : shLab.rd w ds y) :
    Calls Tryz.prog 19 #[.agg cs.toArray, .agg ds.toArray] w (Bl w (.bool (eqC x y))) := by
  obtain ⟨ABaseOps, nBaseOps, cBaseOps, AFacts, nFacts, cFacts, rfl, qBaseSize, qBaseOps, qFacts, qRefused⟩ := rdLab h
  obtain ⟨AyBaseOps, nyBaseOps, cyBaseOps, AyFacts, nyFacts, cyFacts, rfl, qyBaseSize, qyBaseOps, qyFacts, qyRefused⟩ := rdLab h'
  obtain ⟨w0, hw0, T0, hsz0, BP, BQ⟩ := boxes2 w #[.bool x.1, .int .i64 x.2.1.1, .slice ABaseOps nBaseOps cBaseOps, .slice AFacts nFacts cFacts, .int .i64 x.2.2.2] #[.bool y.1, .int .i64 y.2.1.1, .slice AyBaseOps nyBaseOps cyBaseOps, .slice AyFacts nyFacts cyFacts, .int .i64 y.2.2.2] 39 39
  replace qBaseOps := qBaseOps.next T0
  replace qyBaseOps := qyBaseOps.next T0
  replace qFacts := qFacts.next T0
  replace qyFacts := qyFacts.next T0
  have HD := Lib.hid (eqPLab x y)
  go_enter Tryz.func19, Tryz.ntmps19
  rcases hd0 : eqC (x.1) (y.1) with _ | _
  · have ht : (x.1 == y.1) = false := eqq_bool hd0
    have HH0 := Lib.hid hd0
    clear hd0
    have cP0 := BP.cell 0
    have cQ0 := BQ.cell 0
    simp at cP0 cQ0
    rw [hw0] at cP0 cQ0
    go_wp2_with fail
    go_ret
    exact ⟨ret_bool (by rw [HD.out, HH0.out]; first | rfl | simp), by first | exact T0 | (rw [← hw0]; exact T0)⟩
  have ht0 : (x.1 == y.1) = true := eqq_bool hd0
  have HH0 := Lib.hid hd0
  clear hd0
  have cP0 := BP.cell 0
  have cQ0 := BQ.cell 0
  simp at cP0 cQ0
  rw [hw0] at cP0 cQ0
  rcases hd1 : eqC (x.2.1) (y.2.1) with _ | _
  · have HH1 := Lib.hid hd1
    clear hd1
    have cP1 := BP.cell 1
    have cQ1 := BQ.cell 1
    have cP2 := BP.cell 2
    have cQ2 := BQ.cell 2
    simp at cP1 cQ1 cP2 cQ2
    rw [hw0] at cP1 cQ1 cP2 cQ2
    go_wp2_with fail
    rw [← hw0]
    refine (eqAlgebra_any [.int .i64 x.2.1.1, .slice ABaseOps nBaseOps cBaseOps] [.int .i64 y.2.1.1, .slice AyBaseOps nyBaseOps cyBaseOps] x.2.1 y.2.1 _ (mkAlgebra qBaseSize qBaseOps) (mkAlgebra qyBaseSize qyBaseOps)).mono ?_
    rintro e w1 ⟨rfl, hb1⟩
    rw [HH1.out]
    have T1 := below_next T0 hb1 rfl
    go_wp2_with fail
    go_ret
    exact ⟨ret_bool (by rw [HD.out, HH0.out, HH1.out]; first | rfl | simp), T1⟩
  have HH1 := Lib.hid hd1
  clear hd1
  have cP1 := BP.cell 1
  have cQ1 := BQ.cell 1
  have cP2 := BP.cell 2
  have cQ2 := BQ.cell 2
  simp at cP1 cQ1 cP2 cQ2
  rw [hw0] at cP1 cQ1 cP2 cQ2
  go_wp2_with fail
  rw [← hw0]
  refine (eqAlgebra_any [.int .i64 x.2.1.1, .slice ABaseOps nBaseOps cBaseOps] [.int .i64 y.2.1.1, .slice AyBaseOps nyBaseOps cyBaseOps] x.2.1 y.2.1 _ (mkAlgebra qBaseSize qBaseOps) (mkAlgebra qyBaseSize qyBaseOps)).mono ?_
  rintro e w1 ⟨rfl, hb1⟩
  rw [HH1.out]
  have T1 := below_next T0 hb1 rfl
  clear cP1 cQ1 cP2 cQ2 cP0 cQ0 ht0
  replace BP := BP.next hb1
  replace BQ := BQ.next hb1
  replace qBaseOps := qBaseOps.next hb1
  replace qyBaseOps := qyBaseOps.next hb1
  replace qFacts := qFacts.next hb1
  replace qyFacts := qyFacts.next hb1
  rcases hd2 : eqC (x.2.2.1) (y.2.2.1) with _ | _
  · have HH2 := Lib.hid hd2
    clear hd2
    have cP3 := BP.cell 3
    have cQ3 := BQ.cell 3
    simp at cP3 cQ3
    go_wp2_with fail
    refine (eqFactS_any _ _ _ _ _ _ _ _ _ qFacts qyFacts).mono ?_
    rintro e w2 ⟨rfl, hb2⟩
    rw [HH2.out]
    have T2 := below_next T1 hb2 rfl
    go_wp2_with fail
    go_ret
    exact ⟨ret_bool (by rw [HD.out, HH0.out, HH1.out, HH2.out]; first | rfl | simp), T2⟩
  have HH2 := Lib.hid hd2
  clear hd2
  have cP3 := BP.cell 3
  have cQ3 := BQ.cell 3
  simp at cP3 cQ3
  go_wp2_with fail
  refine (eqFactS_any _ _ _ _ _ _ _ _ _ qFacts qyFacts).mono ?_
  rintro e w2 ⟨rfl, hb2⟩
  rw [HH2.out]
  have T2 := below_next T1 hb2 rfl
  clear cP3 cQ3
  replace BP := BP.next hb2
  replace BQ := BQ.next hb2
  replace qBaseOps := qBaseOps.next hb2
  replace qyBaseOps := qyBaseOps.next hb2
  replace qFacts := qFacts.next hb2
  replace qyFacts := qyFacts.next hb2
  rcases hd3 : eqC (x.2.2.2) (y.2.2.2) with _ | _
  · have ht : (x.2.2.2 != y.2.2.2) = true := neq_int hd3
    have HH3 := Lib.hid hd3
    clear hd3
    have cP4 := BP.cell 4
    have cQ4 := BQ.cell 4
    simp at cP4 cQ4
    go_wp2_with fail
    go_ret
    exact ⟨ret_bool (by rw [HD.out, HH0.out, HH1.out, HH2.out, HH3.out]; first | rfl | simp), by first | exact T2 | (rw [← hw0]; exact T2)⟩
  have ht3 : (x.2.2.2 != y.2.2.2) = false := neq_int hd3
  have HH3 := Lib.hid hd3
  clear hd3
  have cP4 := BP.cell 4
  have cQ4 := BQ.cell 4
  simp at cP4 cQ4
  go_wp2_with fail
  go_ret
  exact ⟨ret_bool (by rw [HD.out, HH0.out, HH1.out, HH2.out, HH3.out]; first | rfl | simp), T2⟩
end Go.Proofs.YtbonebpheimbaaaGreatDoor
