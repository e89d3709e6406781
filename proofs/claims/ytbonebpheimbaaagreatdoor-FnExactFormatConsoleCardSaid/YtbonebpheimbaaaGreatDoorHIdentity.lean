
/- The harness's functions on Identity and []Identity: size, copy, equality. Printed by genshape.py. -/
import Derived.Test.YtbonebpheimbaaaGreatDoorShape
import Derived.Deep.RegionHeld3
import Derived.Deep.DeepCutAuto
namespace Go.Proofs.YtbonebpheimbaaaGreatDoor
open Go.RowKit

abbrev IdentityM : Type := (List Int × List Int)
def shIdentity : Sh IdentityM := (Sh.pair (Sh.il 3) (Sh.il 3))
theorem rdIdentity {w : World} {cs : List Value} {x : IdentityM} (h : shIdentity.rd w cs x) : ∃ (ALeft : Option Addr) (nLeft cLeft : Nat) (ARight : Option Addr) (nRight cRight : Nat), cs = [.slice ALeft nLeft cLeft, .slice ARight nRight cRight] ∧ RdL RI w ALeft nLeft x.1 ∧ RdL RI w ARight nRight x.2 := by
  obtain ⟨_, _, rfl, ⟨_, rfl, ALeft, nLeft, cLeft, rfl, rLeft⟩, ⟨_, rfl, ARight, nRight, cRight, rfl, rRight⟩⟩ := h
  exact ⟨ALeft, nLeft, cLeft, ARight, nRight, cRight, rfl, rLeft, rRight⟩
theorem mkIdentity {w : World} {x : IdentityM} {ALeft ARight : Option Addr} {nLeft cLeft nRight cRight : Nat} (hLeft : RdL RI w ALeft nLeft x.1) (hRight : RdL RI w ARight nRight x.2) : shIdentity.rd w [.slice ALeft nLeft cLeft, .slice ARight nRight cRight] x :=
  ⟨[.slice ALeft nLeft cLeft], [.slice ARight nRight cRight], rfl, ⟨_, rfl, _, _, _, rfl, hLeft⟩, ⟨_, rfl, _, _, _, rfl, hRight⟩⟩
set_option linter.unusedVariables false in
set_option maxHeartbeats 2000000 in
theorem szIdentity_any (cs : List Value) (x : IdentityM) (left : Int) (w : World) (h : shIdentity.rd w cs x) (h0 : 0 ≤ left) (h1 : left ≤ 1048576) :
    Calls Tryz.prog 73 #[.agg cs.toArray, .int .i64 left] w (Bl w (.int .i64 (szR (shIdentity.cnt x) left))) := by
  obtain ⟨ALeft, nLeft, cLeft, ARight, nRight, cRight, rfl, qLeft, qRight⟩ := rdIdentity h
  obtain ⟨w0, hw0, T0, hsz0, BP⟩ := boxes1 w #[.slice ALeft nLeft cLeft, .slice ARight nRight cRight] 90
  have lLeft := qLeft.le
  have lRight := qRight.le
  have HC0 : Hid (szR 0 left = left) := szR_zero h0
  have HCN : Hid (shIdentity.cnt x = (x.1.length + x.2.length)) := rfl
  replace qLeft := qLeft.next stab_RI T0
  replace qRight := qRight.next stab_RI T0
  go_enter Tryz.func73, Tryz.ntmps73
  have cP := BP.cell 0
  simp at cP
  rw [hw0] at cP
  go_wp2_with fail
  rw [← hw0]
  refine (bl_same (szIntS_any _ _ _ _ left _ qLeft (by omega) (by omega))).mono ?_
  rintro e w1 ⟨rfl, hb1⟩
  rw [szInts_szR]
  have T1 := below_next T0 hb1 rfl
  replace BP := BP.next hb1
  replace qLeft := qLeft.next stab_RI hb1
  replace qRight := qRight.next stab_RI hb1
  clear cP
  have HC1 : Hid (szR (0 + x.1.length) left = szR x.1.length left) := by show _ = _; rw [← szR_add (by rw [HC0.out]; omega), HC0.out]
  have hbd0 := szR_bd x.1.length (left := left) (by omega)
  obtain ⟨L0, HL0⟩ : ∃ L, Hid (szR x.1.length left = L) := ⟨_, rfl⟩
  rw [HL0.out] at HC1 hbd0 ⊢
  by_cases z0 : L0 < 0
  · go_wp2_with fail
    go_ret
    exact ⟨ret_int (szR_le (by rw [HC1.out]; omega) (by rw [HCN.out]; omega) h0), T1⟩
  have cP := BP.cell 1
  simp at cP
  go_wp2_with fail
  refine (bl_same (szIntS_any _ _ _ _ L0 _ qRight (by omega) (by omega))).mono ?_
  rintro e w2 ⟨rfl, hb2⟩
  rw [szInts_szR]
  have T2 := below_next T1 hb2 rfl
  replace BP := BP.next hb2
  replace qLeft := qLeft.next stab_RI hb2
  replace qRight := qRight.next stab_RI hb2
  clear cP
  have HC2 : Hid (szR ((0 + x.1.length) + x.2.length) left = szR x.2.length L0) := by show _ = _; rw [← szR_add (by rw [HC1.out]; omega), HC1.out]
  have hbd1 := szR_bd x.2.length (left := L0) (by omega)
  obtain ⟨L1, HL1⟩ : ∃ L, Hid (szR x.2.length L0 = L) := ⟨_, rfl⟩
  rw [HL1.out] at HC2 hbd1 ⊢
  by_cases z1 : L1 < 0
  · go_wp2_with fail
    go_ret
    exact ⟨ret_int (szR_le (by rw [HC2.out]; omega) (by rw [HCN.out]; omega) h0), T2⟩
  go_wp2_with fail
  go_ret
  exact ⟨ret_int (by simp only [HCN.out, ← HC2.out]; first | done | (congr 1; omega)), T2⟩
set_option linter.unusedVariables false in
set_option maxHeartbeats 4000000 in
theorem toIdentity_any (cs : List Value) (x : IdentityM) (w : World) (h : shIdentity.rd w cs x) (hn : shIdentity.cnt x ≤ 1048576) :
    Calls Tryz.prog 90 #[.agg cs.toArray] w (ToE shIdentity w x) := by
  obtain ⟨ALeft, nLeft, cLeft, ARight, nRight, cRight, rfl, qLeft, qRight⟩ := rdIdentity h
  have hcn : (x.1.length + x.2.length) ≤ 1048576 := hn
  obtain ⟨w0, hw0, T0, hsz0, BP, BR, BO⟩ := boxes3 w #[.slice ALeft nLeft cLeft, .slice ARight nRight cRight] #[.slice none 0 0, .slice none 0 0] #[.slice none 0 0, .slice none 0 0] 90 60
  have eLeft := qLeft.len
  have eRight := qRight.len
  go_enter Tryz.func90, Tryz.ntmps90
  go_wp2_with fail
  rw [← hw0]
  refine (toIntS_any _ _ _ _ _ (qLeft.next stab_RI T0) (by omega)).mono ?_
  rintro e w1 ⟨gLeft, rfl, hgLeft, hoLeft, hb1⟩
  have OLeft : (Sh.il 3).own w1 [.slice (some ⟨gLeft, 0, none⟩) nLeft nLeft] x.1 [gLeft] := ⟨_, rfl, by rw [eLeft]; exact own_mono hoLeft (Nat.zero_le _), qLeft.bounds, rfl⟩
  have ILeft : Iv w0.heap.size w1.heap.size [gLeft] := ⟨by simp, fun b hb => by simp at hb; subst hb; exact hoLeft.lt _ rfl⟩
  clear hoLeft
  have hz1 := hb1.size
  have T1 := below_next T0 hb1 rfl
  replace BP := BP.next hb1
  replace BR := BR.next hb1
  replace BO := BO.next hb1
  clear hb1
  have cP0 := BP.cell 0
  have cP1 := BP.cell 1
  have cO0 := BO.cell 0
  have fO0 := BO.frozen 0
  have cO1 := BO.cell 1
  have fO1 := BO.frozen 1
  simp at cP0 cO0 cP1 cO1
  go_wp2_with fail
  clear cP0 cO0 fO0 cP1 cO1 fO1
  obtain ⟨w2, hw2⟩ : ∃ wb, wb = (w1.setCell ⟨w.heap.size + 1 + 1, 0, none⟩ (.slice (some ⟨gLeft, 0, none⟩) nLeft nLeft)) := ⟨_, rfl⟩
  have BO' : Blk w2 (w.heap.size + 1 + 1) 60 #[.slice (some ⟨gLeft, 0, none⟩) nLeft nLeft, .slice none 0 0] := by rw [hw2]; simpa using (BO.set_ 0 (.slice (some ⟨gLeft, 0, none⟩) nLeft nLeft))
  replace BP : Blk w2 w.heap.size 90 #[.slice ALeft nLeft cLeft, .slice ARight nRight cRight] := by rw [hw2]; exact (BP.far (p := ⟨w.heap.size + 1 + 1, 0, none⟩) (by simp; try omega) (.slice (some ⟨gLeft, 0, none⟩) nLeft nLeft))
  replace BR : Blk w2 (w.heap.size + 1) 60 #[.slice none 0 0, .slice none 0 0] := by rw [hw2]; exact (BR.far (p := ⟨w.heap.size + 1 + 1, 0, none⟩) (by simp; try omega) (.slice (some ⟨gLeft, 0, none⟩) nLeft nLeft))
  replace BO := BO'
  clear BO'
  have T2 : Below w.heap.size w w2 := by rw [hw2]; exact (T1.setCell (by simp; try omega) (.slice (some ⟨gLeft, 0, none⟩) nLeft nLeft))
  have hz2 : w2.heap.size = w1.heap.size := by rw [hw2]; simp
  replace OLeft : (Sh.il 3).own w2 [.slice (some ⟨gLeft, 0, none⟩) nLeft nLeft] x.1 [gLeft] := by rw [hw2]; exact Sh.oset (p := ⟨w.heap.size + 1 + 1, 0, none⟩) (OLeft) ILeft (by show w.heap.size + 1 + 1 < _; omega) (.slice (some ⟨gLeft, 0, none⟩) nLeft nLeft)
  
  
  rw [← hw2]
  refine (toIntS_any _ _ _ _ _ (qRight.next stab_RI T2) (by omega)).mono ?_
  rintro e w3 ⟨gRight, rfl, hgRight, hoRight, hb3⟩
  have ORight : (Sh.il 3).own w3 [.slice (some ⟨gRight, 0, none⟩) nRight nRight] x.2 [gRight] := ⟨_, rfl, by rw [eRight]; exact own_mono hoRight (Nat.zero_le _), qRight.bounds, rfl⟩
  have IRight : Iv w2.heap.size w3.heap.size [gRight] := ⟨by simp, fun b hb => by simp at hb; subst hb; exact hoRight.lt _ rfl⟩
  clear hoRight
  have hz3 := hb3.size
  have T3 := below_next T2 hb3 rfl
  replace BP := BP.next hb3
  replace BR := BR.next hb3
  replace BO := BO.next hb3
  replace OLeft := Sh.onext OLeft hb3
  clear hb3
  have cR0 := BR.cell 0
  have fR0 := BR.frozen 0
  have cR1 := BR.cell 1
  have fR1 := BR.frozen 1
  simp at cR0 cR1
  have cP0 := BP.cell 0
  have cP1 := BP.cell 1
  have cO0 := BO.cell 0
  have fO0 := BO.frozen 0
  have cO1 := BO.cell 1
  have fO1 := BO.frozen 1
  simp at cP0 cO0 cP1 cO1
  go_wp2_with fail
  clear cP0 cO0 fO0 cP1 cO1 fO1
  clear cR0 fR0 cR1 fR1
  obtain ⟨w4, hw4⟩ : ∃ wb, wb = (w3.setCell ⟨w.heap.size + 1 + 1, 1, none⟩ (.slice (some ⟨gRight, 0, none⟩) nRight nRight)) := ⟨_, rfl⟩
  have BO' : Blk w4 (w.heap.size + 1 + 1) 60 #[.slice (some ⟨gLeft, 0, none⟩) nLeft nLeft, .slice (some ⟨gRight, 0, none⟩) nRight nRight] := by rw [hw4]; simpa using (BO.set_ 1 (.slice (some ⟨gRight, 0, none⟩) nRight nRight))
  replace BP : Blk w4 w.heap.size 90 #[.slice ALeft nLeft cLeft, .slice ARight nRight cRight] := by rw [hw4]; exact (BP.far (p := ⟨w.heap.size + 1 + 1, 1, none⟩) (by simp; try omega) (.slice (some ⟨gRight, 0, none⟩) nRight nRight))
  replace BR : Blk w4 (w.heap.size + 1) 60 #[.slice none 0 0, .slice none 0 0] := by rw [hw4]; exact (BR.far (p := ⟨w.heap.size + 1 + 1, 1, none⟩) (by simp; try omega) (.slice (some ⟨gRight, 0, none⟩) nRight nRight))
  replace BO := BO'
  clear BO'
  have T4 : Below w.heap.size w w4 := by rw [hw4]; exact (T3.setCell (by simp; try omega) (.slice (some ⟨gRight, 0, none⟩) nRight nRight))
  have hz4 : w4.heap.size = w3.heap.size := by rw [hw4]; simp
  replace OLeft : (Sh.il 3).own w4 [.slice (some ⟨gLeft, 0, none⟩) nLeft nLeft] x.1 [gLeft] := by rw [hw4]; exact Sh.oset (p := ⟨w.heap.size + 1 + 1, 1, none⟩) (OLeft) ILeft (by show w.heap.size + 1 + 1 < _; omega) (.slice (some ⟨gRight, 0, none⟩) nRight nRight)
  replace ORight : (Sh.il 3).own w4 [.slice (some ⟨gRight, 0, none⟩) nRight nRight] x.2 [gRight] := by rw [hw4]; exact Sh.oset (p := ⟨w.heap.size + 1 + 1, 1, none⟩) (ORight) IRight (by show w.heap.size + 1 + 1 < _; omega) (.slice (some ⟨gRight, 0, none⟩) nRight nRight)
  
  
  rw [← hw4]
  have BRR : Blk ((w4.setCell ⟨w.heap.size + 1, 0, none⟩ (.slice (some ⟨gLeft, 0, none⟩) nLeft nLeft)).setCell ⟨w.heap.size + 1, 1, none⟩ (.slice (some ⟨gRight, 0, none⟩) nRight nRight)) (w.heap.size + 1) 60 #[.slice (some ⟨gLeft, 0, none⟩) nLeft nLeft, .slice (some ⟨gRight, 0, none⟩) nRight nRight] := by simpa using ((BR).set_ 0 (.slice (some ⟨gLeft, 0, none⟩) nLeft nLeft)).set_ 1 (.slice (some ⟨gRight, 0, none⟩) nRight nRight)
  (try simp only [Exit.inBlock, Exit.then])
  refine bodyPost_ret (v := .agg #[.slice (some ⟨gLeft, 0, none⟩) nLeft nLeft, .slice (some ⟨gRight, 0, none⟩) nRight nRight]) (results_cell_row rfl _ _ (w.heap.size + 1) 60 #[.slice (some ⟨gLeft, 0, none⟩) nLeft nLeft, .slice (some ⟨gRight, 0, none⟩) nRight nRight] (0, 0) _ (by simp) BRR Tryz.underlying60 rfl (by kernel_rfl)) rfl ?_
  have hsz : ((w4.setCell ⟨w.heap.size + 1, 0, none⟩ (.slice (some ⟨gLeft, 0, none⟩) nLeft nLeft)).setCell ⟨w.heap.size + 1, 1, none⟩ (.slice (some ⟨gRight, 0, none⟩) nRight nRight)).heap.size = w4.heap.size := by simp
  refine ⟨_, ([gLeft] ++ [gRight]), rfl, ⟨[.slice (some ⟨gLeft, 0, none⟩) nLeft nLeft], [.slice (some ⟨gRight, 0, none⟩) nRight nRight], [gLeft], [gRight], rfl, rfl, (Sh.oset (p := ⟨w.heap.size + 1, 1, none⟩) (Sh.oset (p := ⟨w.heap.size + 1, 0, none⟩) (OLeft) ILeft (by show w.heap.size + 1 < _; omega) (.slice (some ⟨gLeft, 0, none⟩) nLeft nLeft)) ILeft (by show w.heap.size + 1 < _; omega) (.slice (some ⟨gRight, 0, none⟩) nRight nRight)), (Sh.oset (p := ⟨w.heap.size + 1, 1, none⟩) (Sh.oset (p := ⟨w.heap.size + 1, 0, none⟩) (ORight) IRight (by show w.heap.size + 1 < _; omega) (.slice (some ⟨gLeft, 0, none⟩) nLeft nLeft)) IRight (by show w.heap.size + 1 < _; omega) (.slice (some ⟨gRight, 0, none⟩) nRight nRight))⟩, ?_, ((T4).setCell (by simp; try omega) (.slice (some ⟨gLeft, 0, none⟩) nLeft nLeft)).setCell (by simp; try omega) (.slice (some ⟨gRight, 0, none⟩) nRight nRight)⟩
  rw [hsz]
  exact Iv.mono (Iv.app (lo := w.heap.size) (hi := w4.heap.size) (a := [gLeft]) (b := [gRight]) (Iv.mono ILeft (by omega) (Nat.le_refl _)) (Iv.mono IRight (Nat.le_refl _) (by omega)) (by omega) (by omega) (by omega)) (by omega) (by omega)
theorem eqPIdentity (x y : IdentityM) : eqC x y = (eqC (x.1) (y.1) && eqC (x.2) (y.2)) := by
  obtain ⟨x0, x1⟩ := x
  obtain ⟨y0, y1⟩ := y
  simp only [dec_pair]
set_option linter.unusedVariables false in
set_option maxHeartbeats 4000000 in
theorem eqIdentity_any (cs ds : List Value) (x y : IdentityM) (w : World) (h : shIdentity.rd w cs x) (h' : shIdentity.rd w ds y) :
    Calls Tryz.prog 110 #[.agg cs.toArray, .agg ds.toArray] w (Bl w (.bool (eqC x y))) := by
  obtain ⟨ALeft, nLeft, cLeft, ARight, nRight, cRight, rfl, qLeft, qRight⟩ := rdIdentity h
  obtain ⟨AyLeft, nyLeft, cyLeft, AyRight, nyRight, cyRight, rfl, qyLeft, qyRight⟩ := rdIdentity h'
  obtain ⟨w0, hw0, T0, hsz0, BP, BQ⟩ := boxes2 w #[.slice ALeft nLeft cLeft, .slice ARight nRight cRight] #[.slice AyLeft nyLeft cyLeft, .slice AyRight nyRight cyRight] 60 60
  replace qLeft := qLeft.next stab_RI T0
  replace qyLeft := qyLeft.next stab_RI T0
  replace qRight := qRight.next stab_RI T0
  replace qyRight := qyRight.next stab_RI T0
  have HD := Lib.hid (eqPIdentity x y)
  go_enter Tryz.func110, Tryz.ntmps110
  rcases hd0 : eqC (x.1) (y.1) with _ | _
  · have HH0 := Lib.hid hd0
    clear hd0
    have cP0 := BP.cell 0
    have cQ0 := BQ.cell 0
    simp at cP0 cQ0
    rw [hw0] at cP0 cQ0
    go_wp2_with fail
    rw [← hw0]
    refine (bl_of_quiet (eqIntS_any _ _ _ _ _ _ _ _ _ qLeft qyLeft)).mono ?_
    rintro e w1 ⟨rfl, hb1⟩
    rw [eqL_dec]
    rw [HH0.out]
    have T1 := below_next T0 hb1 rfl
    go_wp2_with fail
    go_ret
    exact ⟨ret_bool (by rw [HD.out, HH0.out]; first | rfl | simp), T1⟩
  have HH0 := Lib.hid hd0
  clear hd0
  have cP0 := BP.cell 0
  have cQ0 := BQ.cell 0
  simp at cP0 cQ0
  rw [hw0] at cP0 cQ0
  go_wp2_with fail
  rw [← hw0]
  refine (bl_of_quiet (eqIntS_any _ _ _ _ _ _ _ _ _ qLeft qyLeft)).mono ?_
  rintro e w1 ⟨rfl, hb1⟩
  rw [eqL_dec]
  rw [HH0.out]
  have T1 := below_next T0 hb1 rfl
  clear cP0 cQ0
  replace BP := BP.next hb1
  replace BQ := BQ.next hb1
  replace qLeft := qLeft.next stab_RI hb1
  replace qyLeft := qyLeft.next stab_RI hb1
  replace qRight := qRight.next stab_RI hb1
  replace qyRight := qyRight.next stab_RI hb1
  rcases hd1 : eqC (x.2) (y.2) with _ | _
  · have HH1 := Lib.hid hd1
    clear hd1
    have cP1 := BP.cell 1
    have cQ1 := BQ.cell 1
    simp at cP1 cQ1
    go_wp2_with fail
    refine (bl_of_quiet (eqIntS_any _ _ _ _ _ _ _ _ _ qRight qyRight)).mono ?_
    rintro e w2 ⟨rfl, hb2⟩
    rw [eqL_dec]
    rw [HH1.out]
    have T2 := below_next T1 hb2 rfl
    go_wp2_with fail
    go_ret
    exact ⟨ret_bool (by rw [HD.out, HH0.out, HH1.out]; first | rfl | simp), T2⟩
  have HH1 := Lib.hid hd1
  clear hd1
  have cP1 := BP.cell 1
  have cQ1 := BQ.cell 1
  simp at cP1 cQ1
  go_wp2_with fail
  refine (bl_of_quiet (eqIntS_any _ _ _ _ _ _ _ _ _ qRight qyRight)).mono ?_
  rintro e w2 ⟨rfl, hb2⟩
  rw [eqL_dec]
  rw [HH1.out]
  have T2 := below_next T1 hb2 rfl
  clear cP1 cQ1
  replace BP := BP.next hb2
  replace BQ := BQ.next hb2
  replace qLeft := qLeft.next stab_RI hb2
  replace qyLeft := qyLeft.next stab_RI hb2
  replace qRight := qRight.next stab_RI hb2
  replace qyRight := qyRight.next stab_RI hb2
  go_wp2_with fail
  go_ret
  exact ⟨ret_bool (by rw [HD.out, HH0.out, HH1.out]; first | rfl | simp), T2⟩
end Go.Proofs.YtbonebpheimbaaaGreatDoor
namespace Go.Proofs.YtbonebpheimbaaaGreatDoor
open Go.RowKit

abbrev FactM : Type := (Int × IdentityM × List Int)
def shFact : Sh FactM := (Sh.pair Sh.int (Sh.pair shIdentity (Sh.il 3)))
theorem rdFact {w : World} {cs : List Value} {x : FactM} (h : shFact.rd w cs x) : ∃ (AEqLeft : Option Addr) (nEqLeft cEqLeft : Nat) (AEqRight : Option Addr) (nEqRight cEqRight : Nat) (AList : Option Addr) (nList cList : Nat), cs = [.int .i64 x.1, .slice AEqLeft nEqLeft cEqLeft, .slice AEqRight nEqRight cEqRight, .slice AList nList cList] ∧ InR x.1 ∧ RdL RI w AEqLeft nEqLeft x.2.1.1 ∧ RdL RI w AEqRight nEqRight x.2.1.2 ∧ RdL RI w AList nList x.2.2 := by
  obtain ⟨_, _, rfl, ⟨_, rfl, rfl, loKind, hiKind⟩, ⟨_, _, rfl, ⟨_, _, rfl, ⟨_, rfl, AEqLeft, nEqLeft, cEqLeft, rfl, rEqLeft⟩, ⟨_, rfl, AEqRight, nEqRight, cEqRight, rfl, rEqRight⟩⟩, ⟨_, rfl, AList, nList, cList, rfl, rList⟩⟩⟩ := h
  exact ⟨AEqLeft, nEqLeft, cEqLeft, AEqRight, nEqRight, cEqRight, AList, nList, cList, rfl, ⟨loKind, hiKind⟩, rEqLeft, rEqRight, rList⟩
theorem mkFact {w : World} {x : FactM} {AEqLeft AEqRight AList : Option Addr} {nEqLeft cEqLeft nEqRight cEqRight nList cList : Nat} (hKind : InR x.1) (hEqLeft : RdL RI w AEqLeft nEqLeft x.2.1.1) (hEqRight : RdL RI w AEqRight nEqRight x.2.1.2) (hList : RdL RI w AList nList x.2.2) : shFact.rd w [.int .i64 x.1, .slice AEqLeft nEqLeft cEqLeft, .slice AEqRight nEqRight cEqRight, .slice AList nList cList] x :=
  ⟨[.int .i64 x.1], [.slice AEqLeft nEqLeft cEqLeft, .slice AEqRight nEqRight cEqRight, .slice AList nList cList], rfl, ⟨_, rfl, rfl, hKind.1, hKind.2⟩, ⟨[.slice AEqLeft nEqLeft cEqLeft, .slice AEqRight nEqRight cEqRight], [.slice AList nList cList], rfl, ⟨[.slice AEqLeft nEqLeft cEqLeft], [.slice AEqRight nEqRight cEqRight], rfl, ⟨_, rfl, _, _, _, rfl, hEqLeft⟩, ⟨_, rfl, _, _, _, rfl, hEqRight⟩⟩, ⟨_, rfl, _, _, _, rfl, hList⟩⟩⟩
set_option linter.unusedVariables false in
set_option maxHeartbeats 2000000 in
theorem szFact_any (cs : List Value) (x : FactM) (left : Int) (w : World) (h : shFact.rd w cs x) (h0 : 0 ≤ left) (h1 : left ≤ 1048576) :
    Calls Tryz.prog 46 #[.agg cs.toArray, .int .i64 left] w (Bl w (.int .i64 (szR (shFact.cnt x) left))) := by
  obtain ⟨AEqLeft, nEqLeft, cEqLeft, AEqRight, nEqRight, cEqRight, AList, nList, cList, rfl, qKind, qEqLeft, qEqRight, qList⟩ := rdFact h
  obtain ⟨w0, hw0, T0, hsz0, BP⟩ := boxes1 w #[.int .i64 x.1, .slice AEqLeft nEqLeft cEqLeft, .slice AEqRight nEqRight cEqRight, .slice AList nList cList] 92
  have lEqLeft := qEqLeft.le
  have lEqRight := qEqRight.le
  have lList := qList.le
  have HC0 : Hid (szR 0 left = left) := szR_zero h0
  have HCN : Hid (shFact.cnt x = (0 + ((shIdentity.cnt x.2.1) + x.2.2.length))) := rfl
  replace qEqLeft := qEqLeft.next stab_RI T0
  replace qEqRight := qEqRight.next stab_RI T0
  replace qList := qList.next stab_RI T0
  go_enter Tryz.func46, Tryz.ntmps46
  have cP := BP.cell 1
  clear cP
  have cP0 := BP.cell 1
  have cP1 := BP.cell 2
  simp at cP0 cP1
  rw [hw0] at cP0 cP1
  go_wp2_with fail
  rw [← hw0]
  refine (szIdentity_any [.slice AEqLeft nEqLeft cEqLeft, .slice AEqRight nEqRight cEqRight] x.2.1 left _ (mkIdentity qEqLeft qEqRight) (by omega) (by omega)).mono ?_
  rintro e w1 ⟨rfl, hb1⟩
  have T1 := below_next T0 hb1 rfl
  replace BP := BP.next hb1
  replace qEqLeft := qEqLeft.next stab_RI hb1
  replace qEqRight := qEqRight.next stab_RI hb1
  replace qList := qList.next stab_RI hb1
  clear cP0 cP1
  have HC1 : Hid (szR (0 + (shIdentity.cnt x.2.1)) left = szR (shIdentity.cnt x.2.1) left) := by show _ = _; rw [← szR_add (by rw [HC0.out]; omega), HC0.out]
  have hbd0 := szR_bd (shIdentity.cnt x.2.1) (left := left) (by omega)
  obtain ⟨L0, HL0⟩ : ∃ L, Hid (szR (shIdentity.cnt x.2.1) left = L) := ⟨_, rfl⟩
  rw [HL0.out] at HC1 hbd0 ⊢
  by_cases z0 : L0 < 0
  · go_wp2_with fail
    go_ret
    exact ⟨ret_int (szR_le (by rw [HC1.out]; omega) (by rw [HCN.out]; omega) h0), T1⟩
  have cP := BP.cell 3
  simp at cP
  go_wp2_with fail
  refine (bl_same (szIntS_any _ _ _ _ L0 _ qList (by omega) (by omega))).mono ?_
  rintro e w2 ⟨rfl, hb2⟩
  rw [szInts_szR]
  have T2 := below_next T1 hb2 rfl
  replace BP := BP.next hb2
  replace qEqLeft := qEqLeft.next stab_RI hb2
  replace qEqRight := qEqRight.next stab_RI hb2
  replace qList := qList.next stab_RI hb2
  clear cP
  have HC2 : Hid (szR ((0 + (shIdentity.cnt x.2.1)) + x.2.2.length) left = szR x.2.2.length L0) := by show _ = _; rw [← szR_add (by rw [HC1.out]; omega), HC1.out]
  have hbd1 := szR_bd x.2.2.length (left := L0) (by omega)
  obtain ⟨L1, HL1⟩ : ∃ L, Hid (szR x.2.2.length L0 = L) := ⟨_, rfl⟩
  rw [HL1.out] at HC2 hbd1 ⊢
  by_cases z1 : L1 < 0
  · go_wp2_with fail
    go_ret
    exact ⟨ret_int (szR_le (by rw [HC2.out]; omega) (by rw [HCN.out]; omega) h0), T2⟩
  go_wp2_with fail
  go_ret
  exact ⟨ret_int (by simp only [HCN.out, ← HC2.out]; first | done | (congr 1; omega)), T2⟩
set_option linter.unusedVariables false in
set_option maxHeartbeats 4000000 in
theorem toFact_any (cs : List Value) (x : FactM) (w : World) (h : shFact.rd w cs x) (hn : shFact.cnt x ≤ 1048576) :
    Calls Tryz.prog 53 #[.agg cs.toArray] w (ToE shFact w x) := by
  obtain ⟨AEqLeft, nEqLeft, cEqLeft, AEqRight, nEqRight, cEqRight, AList, nList, cList, rfl, qKind, qEqLeft, qEqRight, qList⟩ := rdFact h
  have hcn : (0 + ((shIdentity.cnt x.2.1) + x.2.2.length)) ≤ 1048576 := hn
  obtain ⟨w0, hw0, T0, hsz0, BP, BR, BO⟩ := boxes3 w #[.int .i64 x.1, .slice AEqLeft nEqLeft cEqLeft, .slice AEqRight nEqRight cEqRight, .slice AList nList cList] #[.int .i64 0, .slice none 0 0, .slice none 0 0, .slice none 0 0] #[.int .i64 x.1, .slice none 0 0, .slice none 0 0, .slice none 0 0] 92 62
  have eEqLeft := qEqLeft.len
  have eEqRight := qEqRight.len
  have eList := qList.len
  go_enter Tryz.func53, Tryz.ntmps53
  go_wp2_with fail
  rw [← hw0]
  refine (toIdentity_any [.slice AEqLeft nEqLeft cEqLeft, .slice AEqRight nEqRight cEqRight] x.2.1 _ (mkIdentity (qEqLeft.next stab_RI T0) (qEqRight.next stab_RI T0)) (by omega)).mono ?_
  rintro e w1 ⟨csEq, blEq, rfl, OEq, IEq, hb1⟩
  obtain ⟨AyEqLeft, nyEqLeft, cyEqLeft, AyEqRight, nyEqRight, cyEqRight, rfl, -, -⟩ := rdIdentity (shIdentity.ord OEq)
  have hz1 := hb1.size
  have T1 := below_next T0 hb1 rfl
  replace BP := BP.next hb1
  replace BR := BR.next hb1
  replace BO := BO.next hb1
  clear hb1
  have cP0 := BP.cell 0
  have cP1 := BP.cell 1
  have cP2 := BP.cell 2
  have cP3 := BP.cell 3
  have cO0 := BO.cell 0
  have fO0 := BO.frozen 0
  have cO1 := BO.cell 1
  have fO1 := BO.frozen 1
  have cO2 := BO.cell 2
  have fO2 := BO.frozen 2
  have cO3 := BO.cell 3
  have fO3 := BO.frozen 3
  simp at cP0 cO0 cP1 cO1 cP2 cO2 cP3 cO3
  go_wp2_with fail
  clear cP0 cO0 fO0 cP1 cO1 fO1 cP2 cO2 fO2 cP3 cO3 fO3
  obtain ⟨w2, hw2⟩ : ∃ wb, wb = ((w1.setCell ⟨w.heap.size + 1 + 1, 1, none⟩ (.slice AyEqLeft nyEqLeft cyEqLeft)).setCell ⟨w.heap.size + 1 + 1, 2, none⟩ (.slice AyEqRight nyEqRight cyEqRight)) := ⟨_, rfl⟩
  have BO' : Blk w2 (w.heap.size + 1 + 1) 62 #[.int .i64 x.1, .slice AyEqLeft nyEqLeft cyEqLeft, .slice AyEqRight nyEqRight cyEqRight, .slice none 0 0] := by rw [hw2]; simpa using ((BO.set_ 1 (.slice AyEqLeft nyEqLeft cyEqLeft)).set_ 2 (.slice AyEqRight nyEqRight cyEqRight))
  replace BP : Blk w2 w.heap.size 92 #[.int .i64 x.1, .slice AEqLeft nEqLeft cEqLeft, .slice AEqRight nEqRight cEqRight, .slice AList nList cList] := by rw [hw2]; exact ((BP.far (p := ⟨w.heap.size + 1 + 1, 1, none⟩) (by simp; try omega) (.slice AyEqLeft nyEqLeft cyEqLeft)).far (p := ⟨w.heap.size + 1 + 1, 2, none⟩) (by simp; try omega) (.slice AyEqRight nyEqRight cyEqRight))
  replace BR : Blk w2 (w.heap.size + 1) 62 #[.int .i64 0, .slice none 0 0, .slice none 0 0, .slice none 0 0] := by rw [hw2]; exact ((BR.far (p := ⟨w.heap.size + 1 + 1, 1, none⟩) (by simp; try omega) (.slice AyEqLeft nyEqLeft cyEqLeft)).far (p := ⟨w.heap.size + 1 + 1, 2, none⟩) (by simp; try omega) (.slice AyEqRight nyEqRight cyEqRight))
  replace BO := BO'
  clear BO'
  have T2 : Below w.heap.size w w2 := by rw [hw2]; exact ((T1.setCell (by simp; try omega) (.slice AyEqLeft nyEqLeft cyEqLeft)).setCell (by simp; try omega) (.slice AyEqRight nyEqRight cyEqRight))
  have hz2 : w2.heap.size = w1.heap.size := by rw [hw2]; simp
  replace OEq : shIdentity.own w2 [.slice AyEqLeft nyEqLeft cyEqLeft, .slice AyEqRight nyEqRight cyEqRight] x.2.1 blEq := by rw [hw2]; exact Sh.oset (p := ⟨w.heap.size + 1 + 1, 2, none⟩) (Sh.oset (p := ⟨w.heap.size + 1 + 1, 1, none⟩) (OEq) IEq (by show w.heap.size + 1 + 1 < _; omega) (.slice AyEqLeft nyEqLeft cyEqLeft)) IEq (by show w.heap.size + 1 + 1 < _; omega) (.slice AyEqRight nyEqRight cyEqRight)
  
  
  
  rw [← hw2]
  refine (toIntS_any _ _ _ _ _ (qList.next stab_RI T2) (by omega)).mono ?_
  rintro e w3 ⟨gList, rfl, hgList, hoList, hb3⟩
  have OList : (Sh.il 3).own w3 [.slice (some ⟨gList, 0, none⟩) nList nList] x.2.2 [gList] := ⟨_, rfl, by rw [eList]; exact own_mono hoList (Nat.zero_le _), qList.bounds, rfl⟩
  have IList : Iv w2.heap.size w3.heap.size [gList] := ⟨by simp, fun b hb => by simp at hb; subst hb; exact hoList.lt _ rfl⟩
  clear hoList
  have hz3 := hb3.size
  have T3 := below_next T2 hb3 rfl
  replace BP := BP.next hb3
  replace BR := BR.next hb3
  replace BO := BO.next hb3
  replace OEq := Sh.onext OEq hb3
  clear hb3
  have cR0 := BR.cell 0
  have fR0 := BR.frozen 0
  have cR1 := BR.cell 1
  have fR1 := BR.frozen 1
  have cR2 := BR.cell 2
  have fR2 := BR.frozen 2
  have cR3 := BR.cell 3
  have fR3 := BR.frozen 3
  simp at cR0 cR1 cR2 cR3
  have cP0 := BP.cell 0
  have cP1 := BP.cell 1
  have cP2 := BP.cell 2
  have cP3 := BP.cell 3
  have cO0 := BO.cell 0
  have fO0 := BO.frozen 0
  have cO1 := BO.cell 1
  have fO1 := BO.frozen 1
  have cO2 := BO.cell 2
  have fO2 := BO.frozen 2
  have cO3 := BO.cell 3
  have fO3 := BO.frozen 3
  simp at cP0 cO0 cP1 cO1 cP2 cO2 cP3 cO3
  go_wp2_with fail
  clear cP0 cO0 fO0 cP1 cO1 fO1 cP2 cO2 fO2 cP3 cO3 fO3
  clear cR0 fR0 cR1 fR1 cR2 fR2 cR3 fR3
  obtain ⟨w4, hw4⟩ : ∃ wb, wb = (w3.setCell ⟨w.heap.size + 1 + 1, 3, none⟩ (.slice (some ⟨gList, 0, none⟩) nList nList)) := ⟨_, rfl⟩
  have BO' : Blk w4 (w.heap.size + 1 + 1) 62 #[.int .i64 x.1, .slice AyEqLeft nyEqLeft cyEqLeft, .slice AyEqRight nyEqRight cyEqRight, .slice (some ⟨gList, 0, none⟩) nList nList] := by rw [hw4]; simpa using (BO.set_ 3 (.slice (some ⟨gList, 0, none⟩) nList nList))
  replace BP : Blk w4 w.heap.size 92 #[.int .i64 x.1, .slice AEqLeft nEqLeft cEqLeft, .slice AEqRight nEqRight cEqRight, .slice AList nList cList] := by rw [hw4]; exact (BP.far (p := ⟨w.heap.size + 1 + 1, 3, none⟩) (by simp; try omega) (.slice (some ⟨gList, 0, none⟩) nList nList))
  replace BR : Blk w4 (w.heap.size + 1) 62 #[.int .i64 0, .slice none 0 0, .slice none 0 0, .slice none 0 0] := by rw [hw4]; exact (BR.far (p := ⟨w.heap.size + 1 + 1, 3, none⟩) (by simp; try omega) (.slice (some ⟨gList, 0, none⟩) nList nList))
  replace BO := BO'
  clear BO'
  have T4 : Below w.heap.size w w4 := by rw [hw4]; exact (T3.setCell (by simp; try omega) (.slice (some ⟨gList, 0, none⟩) nList nList))
  have hz4 : w4.heap.size = w3.heap.size := by rw [hw4]; simp
  replace OEq : shIdentity.own w4 [.slice AyEqLeft nyEqLeft cyEqLeft, .slice AyEqRight nyEqRight cyEqRight] x.2.1 blEq := by rw [hw4]; exact Sh.oset (p := ⟨w.heap.size + 1 + 1, 3, none⟩) (OEq) IEq (by show w.heap.size + 1 + 1 < _; omega) (.slice (some ⟨gList, 0, none⟩) nList nList)
  replace OList : (Sh.il 3).own w4 [.slice (some ⟨gList, 0, none⟩) nList nList] x.2.2 [gList] := by rw [hw4]; exact Sh.oset (p := ⟨w.heap.size + 1 + 1, 3, none⟩) (OList) IList (by show w.heap.size + 1 + 1 < _; omega) (.slice (some ⟨gList, 0, none⟩) nList nList)
  
  
  
  rw [← hw4]
  have BRR : Blk ((((w4.setCell ⟨w.heap.size + 1, 0, none⟩ (.int .i64 x.1)).setCell ⟨w.heap.size + 1, 1, none⟩ (.slice AyEqLeft nyEqLeft cyEqLeft)).setCell ⟨w.heap.size + 1, 2, none⟩ (.slice AyEqRight nyEqRight cyEqRight)).setCell ⟨w.heap.size + 1, 3, none⟩ (.slice (some ⟨gList, 0, none⟩) nList nList)) (w.heap.size + 1) 62 #[.int .i64 x.1, .slice AyEqLeft nyEqLeft cyEqLeft, .slice AyEqRight nyEqRight cyEqRight, .slice (some ⟨gList, 0, none⟩) nList nList] := by simpa using ((((BR).set_ 0 (.int .i64 x.1)).set_ 1 (.slice AyEqLeft nyEqLeft cyEqLeft)).set_ 2 (.slice AyEqRight nyEqRight cyEqRight)).set_ 3 (.slice (some ⟨gList, 0, none⟩) nList nList)
  (try simp only [Exit.inBlock, Exit.then])
  refine bodyPost_ret (v := .agg #[.int .i64 x.1, .slice AyEqLeft nyEqLeft cyEqLeft, .slice AyEqRight nyEqRight cyEqRight, .slice (some ⟨gList, 0, none⟩) nList nList]) (results_cell_row rfl _ _ (w.heap.size + 1) 62 #[.int .i64 x.1, .slice AyEqLeft nyEqLeft cyEqLeft, .slice AyEqRight nyEqRight cyEqRight, .slice (some ⟨gList, 0, none⟩) nList nList] (0, 0) _ (by simp) BRR Tryz.underlying62 rfl (by kernel_rfl)) rfl ?_
  have hsz : ((((w4.setCell ⟨w.heap.size + 1, 0, none⟩ (.int .i64 x.1)).setCell ⟨w.heap.size + 1, 1, none⟩ (.slice AyEqLeft nyEqLeft cyEqLeft)).setCell ⟨w.heap.size + 1, 2, none⟩ (.slice AyEqRight nyEqRight cyEqRight)).setCell ⟨w.heap.size + 1, 3, none⟩ (.slice (some ⟨gList, 0, none⟩) nList nList)).heap.size = w4.heap.size := by simp
  refine ⟨_, (blEq ++ [gList]), rfl, ⟨[.int .i64 x.1], [.slice AyEqLeft nyEqLeft cyEqLeft, .slice AyEqRight nyEqRight cyEqRight, .slice (some ⟨gList, 0, none⟩) nList nList], [], (blEq ++ [gList]), rfl, rfl, ⟨_, rfl, ⟨rfl, qKind.1, qKind.2⟩, rfl⟩, ⟨[.slice AyEqLeft nyEqLeft cyEqLeft, .slice AyEqRight nyEqRight cyEqRight], [.slice (some ⟨gList, 0, none⟩) nList nList], blEq, [gList], rfl, rfl, (Sh.oset (p := ⟨w.heap.size + 1, 3, none⟩) (Sh.oset (p := ⟨w.heap.size + 1, 2, none⟩) (Sh.oset (p := ⟨w.heap.size + 1, 1, none⟩) (Sh.oset (p := ⟨w.heap.size + 1, 0, none⟩) (OEq) IEq (by show w.heap.size + 1 < _; omega) (.int .i64 x.1)) IEq (by show w.heap.size + 1 < _; omega) (.slice AyEqLeft nyEqLeft cyEqLeft)) IEq (by show w.heap.size + 1 < _; omega) (.slice AyEqRight nyEqRight cyEqRight)) IEq (by show w.heap.size + 1 < _; omega) (.slice (some ⟨gList, 0, none⟩) nList nList)), (Sh.oset (p := ⟨w.heap.size + 1, 3, none⟩) (Sh.oset (p := ⟨w.heap.size + 1, 2, none⟩) (Sh.oset (p := ⟨w.heap.size + 1, 1, none⟩) (Sh.oset (p := ⟨w.heap.size + 1, 0, none⟩) (OList) IList (by show w.heap.size + 1 < _; omega) (.int .i64 x.1)) IList (by show w.heap.size + 1 < _; omega) (.slice AyEqLeft nyEqLeft cyEqLeft)) IList (by show w.heap.size + 1 < _; omega) (.slice AyEqRight nyEqRight cyEqRight)) IList (by show w.heap.size + 1 < _; omega) (.slice (some ⟨gList, 0, none⟩) nList nList))⟩⟩, ?_, ((((T4).setCell (by simp; try omega) (.int .i64 x.1)).setCell (by simp; try omega) (.slice AyEqLeft nyEqLeft cyEqLeft)).setCell (by simp; try omega) (.slice AyEqRight nyEqRight cyEqRight)).setCell (by simp; try omega) (.slice (some ⟨gList, 0, none⟩) nList nList)⟩
  rw [hsz]
  exact Iv.mono (Iv.app (lo := w.heap.size) (hi := w4.heap.size) (a := blEq) (b := [gList]) (Iv.mono IEq (by omega) (Nat.le_refl _)) (Iv.mono IList (Nat.le_refl _) (by omega)) (by omega) (by omega) (by omega)) (by omega) (by omega)
theorem eqPFact (x y : FactM) : eqC x y = (eqC (x.1) (y.1) && (eqC (x.2.1) (y.2.1) && eqC (x.2.2) (y.2.2))) := by
  obtain ⟨x0, x1, x2⟩ := x
  obtain ⟨y0, y1, y2⟩ := y
  simp only [dec_pair]
set_option linter.unusedVariables false in
set_option maxHeartbeats 4000000 in
theorem eqFact_any (cs ds : List Value) (x y : FactM) (w : World) (h : shFact.rd w cs x) (h' : shFact.rd w ds y) :
    Calls Tryz.prog 67 #[.agg cs.toArray, .agg ds.toArray] w (Bl w (.bool (eqC x y))) := by
  obtain ⟨AEqLeft, nEqLeft, cEqLeft, AEqRight, nEqRight, cEqRight, AList, nList, cList, rfl, qKind, qEqLeft, qEqRight, qList⟩ := rdFact h
  obtain ⟨AyEqLeft, nyEqLeft, cyEqLeft, AyEqRight, nyEqRight, cyEqRight, AyList, nyList, cyList, rfl, qyKind, qyEqLeft, qyEqRight, qyList⟩ := rdFact h'
  obtain ⟨w0, hw0, T0, hsz0, BP, BQ⟩ := boxes2 w #[.int .i64 x.1, .slice AEqLeft nEqLeft cEqLeft, .slice AEqRight nEqRight cEqRight, .slice AList nList cList] #[.int .i64 y.1, .slice AyEqLeft nyEqLeft cyEqLeft, .slice AyEqRight nyEqRight cyEqRight, .slice AyList nyList cyList] 62 62
  replace qEqLeft := qEqLeft.next stab_RI T0
  replace qyEqLeft := qyEqLeft.next stab_RI T0
  replace qEqRight := qEqRight.next stab_RI T0
  replace qyEqRight := qyEqRight.next stab_RI T0
  replace qList := qList.next stab_RI T0
  replace qyList := qyList.next stab_RI T0
  have HD := Lib.hid (eqPFact x y)
  go_enter Tryz.func67, Tryz.ntmps67
  rcases hd0 : eqC (x.1) (y.1) with _ | _
  · have ht : (x.1 != y.1) = true := neq_int hd0
    have HH0 := Lib.hid hd0
    clear hd0
    have cP0 := BP.cell 0
    have cQ0 := BQ.cell 0
    simp at cP0 cQ0
    rw [hw0] at cP0 cQ0
    go_wp2_with fail
    go_ret
    exact ⟨ret_bool (by rw [HD.out, HH0.out]; first | rfl | simp), by first | exact T0 | (rw [← hw0]; exact T0)⟩
  have ht0 : (x.1 != y.1) = false := neq_int hd0
  have HH0 := Lib.hid hd0
  clear hd0
  have cP0 := BP.cell 0
  have cQ0 := BQ.cell 0
  simp at cP0 cQ0
  rw [hw0] at cP0 cQ0
  rcases hd1 : eqC (x.2.1) (y.2.1) with _ | _
  · have HH1 := Lib.hid hd1
    clear hd1
    have cP1 := BP.cell 1
    have cQ1 := BQ.cell 1
    have cP2 := BP.cell 2
    have cQ2 := BQ.cell 2
    simp at cP1 cQ1 cP2 cQ2
    rw [hw0] at cP1 cQ1 cP2 cQ2
    go_wp2_with fail
    rw [← hw0]
    refine (eqIdentity_any [.slice AEqLeft nEqLeft cEqLeft, .slice AEqRight nEqRight cEqRight] [.slice AyEqLeft nyEqLeft cyEqLeft, .slice AyEqRight nyEqRight cyEqRight] x.2.1 y.2.1 _ (mkIdentity qEqLeft qEqRight) (mkIdentity qyEqLeft qyEqRight)).mono ?_
    rintro e w1 ⟨rfl, hb1⟩
    rw [HH1.out]
    have T1 := below_next T0 hb1 rfl
    go_wp2_with fail
    go_ret
    exact ⟨ret_bool (by rw [HD.out, HH0.out, HH1.out]; first | rfl | simp), T1⟩
  have HH1 := Lib.hid hd1
  clear hd1
  have cP1 := BP.cell 1
  have cQ1 := BQ.cell 1
  have cP2 := BP.cell 2
  have cQ2 := BQ.cell 2
  simp at cP1 cQ1 cP2 cQ2
  rw [hw0] at cP1 cQ1 cP2 cQ2
  go_wp2_with fail
  rw [← hw0]
  refine (eqIdentity_any [.slice AEqLeft nEqLeft cEqLeft, .slice AEqRight nEqRight cEqRight] [.slice AyEqLeft nyEqLeft cyEqLeft, .slice AyEqRight nyEqRight cyEqRight] x.2.1 y.2.1 _ (mkIdentity qEqLeft qEqRight) (mkIdentity qyEqLeft qyEqRight)).mono ?_
  rintro e w1 ⟨rfl, hb1⟩
  rw [HH1.out]
  have T1 := below_next T0 hb1 rfl
  clear cP1 cQ1 cP2 cQ2 cP0 cQ0 ht0
  replace BP := BP.next hb1
  replace BQ := BQ.next hb1
  replace qEqLeft := qEqLeft.next stab_RI hb1
  replace qyEqLeft := qyEqLeft.next stab_RI hb1
  replace qEqRight := qEqRight.next stab_RI hb1
  replace qyEqRight := qyEqRight.next stab_RI hb1
  replace qList := qList.next stab_RI hb1
  replace qyList := qyList.next stab_RI hb1
  rcases hd2 : eqC (x.2.2) (y.2.2) with _ | _
  · have HH2 := Lib.hid hd2
    clear hd2
    have cP3 := BP.cell 3
    have cQ3 := BQ.cell 3
    simp at cP3 cQ3
    go_wp2_with fail
    refine (bl_of_quiet (eqIntS_any _ _ _ _ _ _ _ _ _ qList qyList)).mono ?_
    rintro e w2 ⟨rfl, hb2⟩
    rw [eqL_dec]
    rw [HH2.out]
    have T2 := below_next T1 hb2 rfl
    go_wp2_with fail
    go_ret
    exact ⟨ret_bool (by rw [HD.out, HH0.out, HH1.out, HH2.out]; first | rfl | simp), T2⟩
  have HH2 := Lib.hid hd2
  clear hd2
  have cP3 := BP.cell 3
  have cQ3 := BQ.cell 3
  simp at cP3 cQ3
  go_wp2_with fail
  refine (bl_of_quiet (eqIntS_any _ _ _ _ _ _ _ _ _ qList qyList)).mono ?_
  rintro e w2 ⟨rfl, hb2⟩
  rw [eqL_dec]
  rw [HH2.out]
  have T2 := below_next T1 hb2 rfl
  clear cP3 cQ3
  replace BP := BP.next hb2
  replace BQ := BQ.next hb2
  replace qEqLeft := qEqLeft.next stab_RI hb2
  replace qyEqLeft := qyEqLeft.next stab_RI hb2
  replace qEqRight := qEqRight.next stab_RI hb2
  replace qyEqRight := qyEqRight.next stab_RI hb2
  replace qList := qList.next stab_RI hb2
  replace qyList := qyList.next stab_RI hb2
  go_wp2_with fail
  go_ret
  exact ⟨ret_bool (by rw [HD.out, HH0.out, HH1.out, HH2.out]; first | rfl | simp), T2⟩
set_option linter.unusedVariables false in
set_option maxHeartbeats 2000000 in
theorem szFactS_any (A : Option Addr) (n c : Nat) (xs : List FactM) (left : Int) (w : World) (h : RdN shFact.m shFact.rd w A n xs) (h0 : 0 ≤ left) (h1 : left ≤ 1048576) :
    Calls Tryz.prog 30 #[.slice A n c, .int .i64 left] w (Bl w (.int .i64 (szR (xs.length + cntS shFact.cnt xs) left))) := by
  have hle := h.le
  have hl := Lib.hid h.len
  by_cases h2 : left - n < 0
  · go_enter Tryz.func30, Tryz.ntmps30
    go_wp2
    go_ret
    exact ⟨ret_int (szR_sub_neg (by rw [hl.out]; exact h2) _), Below.refl _ _⟩
  · have HS := Lib.hid (szR_sub (a := xs.length) (by rw [hl.out]; exact h2) (cntS shFact.cnt xs))
    go_enter Tryz.func30, Tryz.ntmps30
    go_wp2
    go_loopw [1, 5] (fun l i wr => ∃ (k : Nat) (left' : Int), k ≤ n ∧ i = .int .i64 k ∧ l = .int .i64 left' ∧ 0 ≤ left' ∧ left' ≤ 1048576 ∧ SumAt shFact.cnt xs (left - n) left' k ∧ Below w.heap.size w wr) (fun _ i _ => n - (intOf i).toNat)
    case atStart => exact ⟨0, _, Nat.zero_le _, rfl, rfl, by omega, by omega, SumAt.start _ _ _, Below.refl _ _⟩
    case round =>
      obtain ⟨k, left', hk, rfl, rfl, hl0, hl1, H, hT⟩ := hrel
      replace h := h.next hT
      by_cases hlt : k < n
      · obtain ⟨b, o, vs, x, rfl, -, hc, hr, hd, -⟩ := h.at hlt
        obtain ⟨AEqLeft, nEqLeft, cEqLeft, AEqRight, nEqRight, cEqRight, AList, nList, cList, rfl, qKind, qEqLeft, qEqRight, qList⟩ := rdFact hr
        have cc0 : wr.cell? ⟨b, o + k * 4, none⟩ = some (.int .i64 x.1) := hc 0 _ rfl
        have cc1 : wr.cell? ⟨b, o + k * 4 + 1, none⟩ = some (.slice AEqLeft nEqLeft cEqLeft) := hc 1 _ rfl
        have cc2 : wr.cell? ⟨b, o + k * 4 + 2, none⟩ = some (.slice AEqRight nEqRight cEqRight) := hc 2 _ rfl
        have cc3 : wr.cell? ⟨b, o + k * 4 + 3, none⟩ = some (.slice AList nList cList) := hc 3 _ rfl
        clear hc
        have H1 := Lib.hid hd
        clear hd
        have hb := szR_bd (shFact.cnt x) (left := left') hl0
        have hk0 : (0 : Int) ≤ (k : Int) := by omega
        have hk1 : (k : Int) < (n : Int) := by omega
        go_wp2_with fail
        refine (szFact_any [.int .i64 x.1, .slice AEqLeft nEqLeft cEqLeft, .slice AEqRight nEqRight cEqRight, .slice AList nList cList] x left' _ hr hl0 hl1).mono ?_
        rintro e w1 ⟨rfl, hb1⟩
        have hT1 := below_next hT hb1 rfl
        obtain ⟨L, HL⟩ : ∃ L, Hid (szR (shFact.cnt x) left' = L) := ⟨_, rfl⟩
        rw [HL.out] at hb ⊢
        by_cases hz : L < 0
        · have HZ : Hid ((-1 : Int) = szR (xs.length + cntS shFact.cnt xs) left) := (H.stop H1.out (by rw [HL.out]; exact hz) hl0).trans (by rw [← hl.out]; exact HS.out)
          go_wp2_with fail
          go_ret
          exact ⟨ret_int HZ.out, hT1⟩
        · have HN : Hid (SumAt shFact.cnt xs (left - n) L (k + 1)) := by have := H.step H1.out (by rw [HL.out]; exact hz); rw [HL.out] at this; exact this
          go_wp2_with fail
          go_roundw
          case rel => exact ⟨k + 1, _, by omega, by go_num, rfl, by omega, by omega, HN.out, hT1⟩
          case measure => simp [intOf]; omega
      · have HZ : Hid (left' = szR (xs.length + cntS shFact.cnt xs) left) := (H.done (h.drop_end hlt) hl0).trans (by rw [← hl.out]; exact HS.out)
        have hlt' : ¬ (k : Int) < (n : Int) := by omega
        go_wp2_with fail
        go_ret
        exact ⟨ret_int HZ.out, hT⟩
theorem info_Fact : (Tryz.prog.info? 62).map (fun i => (i.zero, i.size)) = some (some (.agg #[.int .i64 0, .slice none 0 0, .slice none 0 0, .slice none 0 0]), 4) := by kernel_rfl
theorem infob_Fact : (Tryz.prog.info? 62).all (fun i => decide (i.bytes ≤ 256)) = true := by kernel_rfl
theorem make_Fact (w : World) {ops : Array Oper} {rest : List Oper} {o : Oper} {a : Act} {Q : Exit → Act → World → Prop} (hg : o.guard = none) (l c : Operand) (hop : o.op = Op.makeSlice 37 l c)
    (n : Nat) (hl : a.eval l = .int .i64 n) (hc : a.eval c = .int .i64 n) (b : n ≤ 1048576)
    (hK : ∀ w', w'.ownsRow w.heap.size 62 shFact.m (.slice (some ⟨w.heap.size, 0, none⟩) n n) n (List.replicate n [.int .i64 0, .slice none 0 0, .slice none 0 0, .slice none 0 0]).flatten → w.grownBy w' none → wpList Tryz.prog ops Q rest (a.put o.dst (.slice (some ⟨w.heap.size, 0, none⟩) n n)) w') :
    wpList Tryz.prog ops Q (o :: rest) a w := by
  rcases hi : Tryz.prog.info? 62 with _ | i0
  · exfalso
    have := info_Fact
    rw [hi] at this
    simp at this
  have h0 := info_Fact
  have hb := infob_Fact
  rw [hi] at h0 hb
  simp only [Option.map_some, Option.some.injEq, Prod.mk.injEq] at h0
  simp only [Option.all_some, decide_eq_true_eq] at hb
  have hbn : i0.bytes * n ≤ 256 * 1048576 := Nat.mul_le_mul hb b
  refine wpList_make_full w hg l c 37 hop w.heap.size 62 i0 (.agg #[.int .i64 0, .slice none 0 0, .slice none 0 0, .slice none 0 0]) 4 Tryz.underlying37 hi h0.1 h0.2 .i64 .i64 n n n hl hc rfl rfl (by first | omega | (have := Int.ofNat_le.2 hbn; simp at this ⊢; omega)) (by unfold maxLen; omega) (Nat.le_refl _) ?_
  intro w' h1 h2
  refine hK w' ?_ h2
  rw [← made_flat [.int .i64 0, .slice none 0 0, .slice none 0 0, .slice none 0 0] n (by decide)]
  exact h1
set_option linter.unusedVariables false in
set_option maxHeartbeats 4000000 in
theorem toFactS_any (A : Option Addr) (n c : Nat) (xs : List FactM) (w : World) (h : RdN shFact.m shFact.rd w A n xs) (hn : xs.length + cntS shFact.cnt xs ≤ 1048576) :
    Calls Tryz.prog 34 #[.slice A n c] w (ToV (Sh.rows shFact 62) w xs) := by
  have hlen := Lib.hid h.len
  have hnn : n ≤ 1048576 := by have := h.len; omega
  have HN := Lib.hid hn
  clear hn
  go_enter Tryz.func34, Tryz.ntmps34
  go_wp2_with (at_make; refine make_Fact _ rfl _ _ rfl n rfl rfl (by omega) ?_; intro w1 hown hg1)
  have hT := (Below.refl w.heap.size w).grown hg1 (Nat.le_refl _) (by simp)
  clear hg1
  go_loopw [4] (fun i wr => ∃ (k : Nat) (css : List (List Value)) (bls : List (List Nat)), k ≤ n ∧ i = .int .i64 k ∧ FillN shFact 62 [.int .i64 0, .slice none 0 0, .slice none 0 0, .slice none 0 0] w.heap.size w.heap.size n wr xs css bls k ∧ Below w.heap.size w wr) (fun i _ => n - (intOf i).toNat)
  case atStart => exact ⟨0, _, _, Nat.zero_le _, rfl, FillN.start hown, hT⟩
  case round =>
    clear hown hT
    obtain ⟨k, css, bls, hk, rfl, hown, hT⟩ := hrel
    replace h := h.next hT
    by_cases hlt : k < n
    · obtain ⟨b, o, vs, x, rfl, -, hc, hr, -, hx⟩ := h.at hlt
      obtain ⟨AEqLeft, nEqLeft, cEqLeft, AEqRight, nEqRight, cEqRight, AList, nList, cList, rfl, qKind, qEqLeft, qEqRight, qList⟩ := rdFact hr
      have cc0 : wr.cell? ⟨b, o + k * 4, none⟩ = some (.int .i64 x.1) := hc 0 _ rfl
      have cc1 : wr.cell? ⟨b, o + k * 4 + 1, none⟩ = some (.slice AEqLeft nEqLeft cEqLeft) := hc 1 _ rfl
      have cc2 : wr.cell? ⟨b, o + k * 4 + 2, none⟩ = some (.slice AEqRight nEqRight cEqRight) := hc 2 _ rfl
      have cc3 : wr.cell? ⟨b, o + k * 4 + 3, none⟩ = some (.slice AList nList cList) := hc 3 _ rfl
      clear hc
      have hX := Lib.hid hx
      have hcx : shFact.cnt x ≤ 1048576 := by have := cntS_mem (f := shFact.cnt) (List.mem_of_getElem? hx); have := HN.out; omega
      clear hx
      have hk0 : (0 : Int) ≤ (k : Int) := by omega
      have hk1 : (k : Int) < (n : Int) := by omega
      go_wp2_with fail
      refine (toFact_any [.int .i64 x.1, .slice AEqLeft nEqLeft cEqLeft, .slice AEqRight nEqRight cEqRight, .slice AList nList cList] x _ hr hcx).mono ?_
      rintro e w2 ⟨ds, bk, rfl, how, hiv, hb1⟩
      obtain ⟨AyEqLeft, nyEqLeft, cyEqLeft, AyEqRight, nyEqRight, cyEqRight, AyList, nyList, cyList, rfl, -, -, -, -⟩ := rdFact (shFact.ord how)
      have hT2 := below_next hT hb1 rfl
      have hown2 := hown.next hb1
      have hlo : w.heap.size ≤ wr.heap.size := hT.size
      have hst := hown.set_ rfl hb1 hlt hX.out how hiv.1 (fun b hb => (hiv.2 b hb).1) hlo
      have dd0 : w2.cell? ⟨w.heap.size, k * 4, none⟩ = some (.int .i64 0) := hown2.cell rfl hlt (i := 0) rfl
      have ff0 := hown2.frozen (k * 4)
      have dd1 : w2.cell? ⟨w.heap.size, k * 4 + 1, none⟩ = some (.slice none 0 0) := hown2.cell rfl hlt (i := 1) rfl
      have ff1 := hown2.frozen (k * 4 + 1)
      have dd2 : w2.cell? ⟨w.heap.size, k * 4 + 2, none⟩ = some (.slice none 0 0) := hown2.cell rfl hlt (i := 2) rfl
      have ff2 := hown2.frozen (k * 4 + 2)
      have dd3 : w2.cell? ⟨w.heap.size, k * 4 + 3, none⟩ = some (.slice none 0 0) := hown2.cell rfl hlt (i := 3) rfl
      have ff3 := hown2.frozen (k * 4 + 3)
      replace hst : FillN shFact 62 [.int .i64 0, .slice none 0 0, .slice none 0 0, .slice none 0 0] w.heap.size w.heap.size n ((((w2.setCell ⟨w.heap.size, k * 4, none⟩ (.int .i64 x.1)).setCell ⟨w.heap.size, k * 4 + 1, none⟩ (.slice AyEqLeft nyEqLeft cyEqLeft)).setCell ⟨w.heap.size, k * 4 + 2, none⟩ (.slice AyEqRight nyEqRight cyEqRight)).setCell ⟨w.heap.size, k * 4 + 3, none⟩ (.slice AyList nyList cyList)) xs _ _ (k + 1) := hst
      clear hown hown2 how
      go_wp2_with fail
      go_roundw
      case rel => exact ⟨k + 1, _, _, by omega, by go_num, hst, ((((hT2).setCell (Nat.le_refl _) _).setCell (Nat.le_refl _) _).setCell (Nat.le_refl _) _).setCell (Nat.le_refl _) _⟩
      case measure => simp [intOf]; omega
    · have hd := hown.done hlen.out hlt hk
      have hiv : Iv w.heap.size wr.heap.size (w.heap.size :: bls.flatten) := ⟨hown.nd, hown.lo_⟩
      have hlt' : ¬ (k : Int) < (n : Int) := by omega
      clear hown
      go_wp2_with fail
      go_ret
      exact ⟨_, _, rfl, hd, hiv, hT⟩
set_option linter.unusedVariables false in
set_option maxHeartbeats 4000000 in
theorem eqFactS_any (A B : Option Addr) (n m c d : Nat) (xs ys : List FactM) (w : World) (h : RdN shFact.m shFact.rd w A n xs) (h' : RdN shFact.m shFact.rd w B m ys) :
    Calls Tryz.prog 40 #[.slice A n c, .slice B m d] w (Bl w (.bool (eqC xs ys))) := by
  have hle := h.le
  have hle' := h'.le
  by_cases hnm : n = m
  · subst hnm
    go_enter Tryz.func40, Tryz.ntmps40
    go_wp2
    go_loopw [5] (fun i wr => ∃ k : Nat, k ≤ n ∧ i = .int .i64 k ∧ EqdAt xs ys k ∧ Below w.heap.size w wr) (fun i _ => n - (intOf i).toNat)
    case atStart => exact ⟨0, Nat.zero_le _, rfl, EqdAt.start _ _, Below.refl _ _⟩
    case round =>
      obtain ⟨k, hk, rfl, H, hT⟩ := hrel
      replace h := h.next hT
      replace h' := h'.next hT
      by_cases hlt : k < n
      · obtain ⟨b, o, vs, x, rfl, -, hc, hr, hd, -⟩ := h.at hlt
        obtain ⟨b', o', vs', y, rfl, -, hc', hr', hd', -⟩ := h'.at hlt
        obtain ⟨AEqLeft, nEqLeft, cEqLeft, AEqRight, nEqRight, cEqRight, AList, nList, cList, rfl, qKind, qEqLeft, qEqRight, qList⟩ := rdFact hr
        obtain ⟨AyEqLeft, nyEqLeft, cyEqLeft, AyEqRight, nyEqRight, cyEqRight, AyList, nyList, cyList, rfl, qyKind, qyEqLeft, qyEqRight, qyList⟩ := rdFact hr'
        have cc0 : wr.cell? ⟨b, o + k * 4, none⟩ = some (.int .i64 x.1) := hc 0 _ rfl
        have dd0 : wr.cell? ⟨b', o' + k * 4, none⟩ = some (.int .i64 y.1) := hc' 0 _ rfl
        have cc1 : wr.cell? ⟨b, o + k * 4 + 1, none⟩ = some (.slice AEqLeft nEqLeft cEqLeft) := hc 1 _ rfl
        have dd1 : wr.cell? ⟨b', o' + k * 4 + 1, none⟩ = some (.slice AyEqLeft nyEqLeft cyEqLeft) := hc' 1 _ rfl
        have cc2 : wr.cell? ⟨b, o + k * 4 + 2, none⟩ = some (.slice AEqRight nEqRight cEqRight) := hc 2 _ rfl
        have dd2 : wr.cell? ⟨b', o' + k * 4 + 2, none⟩ = some (.slice AyEqRight nyEqRight cyEqRight) := hc' 2 _ rfl
        have cc3 : wr.cell? ⟨b, o + k * 4 + 3, none⟩ = some (.slice AList nList cList) := hc 3 _ rfl
        have dd3 : wr.cell? ⟨b', o' + k * 4 + 3, none⟩ = some (.slice AyList nyList cyList) := hc' 3 _ rfl
        clear hc hc'
        have H1 := Lib.hid hd
        have H2 := Lib.hid hd'
        clear hd hd'
        have hk0 : (0 : Int) ≤ (k : Int) := by omega
        have hk1 : (k : Int) < (n : Int) := by omega
        obtain ⟨e0, HE⟩ : ∃ e0, Hid (eqC x y = e0) := ⟨_, rfl⟩
        have Tk : Below wr.heap.size wr wr := Below.refl _ _
        go_upto_region 6 with fail
        go_cut [26] (fun v wx => v = .bool (!e0) ∧ Below wr.heap.size wr wx)
        case first =>
          go_region_held3 (fun w' => w'.cell? ⟨b, o + k * 4, none⟩ = some (.int .i64 x.1) ∧ w'.cell? ⟨b', o' + k * 4, none⟩ = some (.int .i64 y.1) ∧ w'.cell? ⟨b, o + k * 4 + 1, none⟩ = some (.slice AEqLeft nEqLeft cEqLeft) ∧ w'.cell? ⟨b', o' + k * 4 + 1, none⟩ = some (.slice AyEqLeft nyEqLeft cyEqLeft) ∧ w'.cell? ⟨b, o + k * 4 + 2, none⟩ = some (.slice AEqRight nEqRight cEqRight) ∧ w'.cell? ⟨b', o' + k * 4 + 2, none⟩ = some (.slice AyEqRight nyEqRight cyEqRight) ∧ w'.cell? ⟨b, o + k * 4 + 3, none⟩ = some (.slice AList nList cList) ∧ w'.cell? ⟨b', o' + k * 4 + 3, none⟩ = some (.slice AyList nyList cyList)) (first | go_keep | exact ⟨keepc Tk cc0, keepc Tk dd0, keepc Tk cc1, keepc Tk dd1, keepc Tk cc2, keepc Tk dd2, keepc Tk cc3, keepc Tk dd3⟩) ((go_at_call 67; refine (eqFact_any [.int .i64 x.1, .slice AEqLeft nEqLeft cEqLeft, .slice AEqRight nEqRight cEqRight, .slice AList nList cList] [.int .i64 y.1, .slice AyEqLeft nyEqLeft cyEqLeft, .slice AyEqRight nyEqRight cyEqRight, .slice AyList nyList cyList] x y _ (shFact.stab hr (by first | exact Tk.block | exact (Below.drew Tk).block)) (shFact.stab hr' (by first | exact Tk.block | exact (Below.drew Tk).block))).mono ?_; rintro e wn ⟨rfl, hbn⟩; replace Tk := below_next (by first | exact Tk | exact Below.drew Tk) hbn rfl; rw [HE.out]))
          all_goals (go_wp2_with fail; go_meet; exact ⟨rfl, Tk⟩)
        case rest =>
          obtain ⟨rfl, hb4⟩ := hcut
          have hT4 := below_next hT hb4 rfl
          clear hb4 Tk cc0 dd0 cc1 dd1 cc2 dd2 cc3 dd3
          rcases e0 with _ | _
          · go_wp2_with fail
            go_ret
            exact ⟨ret_bool (H.stop H1.out H2.out HE.out), hT4⟩
          · go_wp2_with fail
            go_roundw
            case rel => exact ⟨k + 1, by omega, by go_num, H.step H1.out H2.out HE.out, hT4⟩
            case measure => simp [intOf]; omega
      · have hlt' : ¬ (k : Int) < (n : Int) := by omega
        go_wp2_with fail
        go_ret
        exact ⟨ret_bool (H.done (h.drop_end hlt) (h'.drop_end hlt)), hT⟩
  · have hne : ((n : Int) != (m : Int)) = true := by rw [bne_iff_ne]; omega
    have HL := Lib.hid (eqd_len h.len h'.len hnm)
    go_enter Tryz.func40, Tryz.ntmps40
    go_wp2_with fail
    go_ret
    exact ⟨ret_bool HL.out, Below.refl _ _⟩
theorem szFactSv_any (v : Value) (xs : List FactM) (left : Int) (w : World) (h : (Sh.rows shFact 62).rd w [v] xs) (h0 : 0 ≤ left) (h1 : left ≤ 1048576) :
    Calls Tryz.prog 30 #[v, .int .i64 left] w (Bl w (.int .i64 (szR ((Sh.rows shFact 62).cnt xs) left))) := by
  obtain ⟨A, n, c, e, r⟩ := h
  injection e with e _
  subst e
  exact szFactS_any A n c xs left w r h0 h1
theorem toFactSv_any (v : Value) (xs : List FactM) (w : World) (h : (Sh.rows shFact 62).rd w [v] xs) (hn : (Sh.rows shFact 62).cnt xs ≤ 1048576) :
    Calls Tryz.prog 34 #[v] w (ToV (Sh.rows shFact 62) w xs) := by
  obtain ⟨A, n, c, e, r⟩ := h
  injection e with e _
  subst e
  exact toFactS_any A n c xs w r hn
theorem eqFactSv_any (v u : Value) (xs ys : List FactM) (w : World) (h : (Sh.rows shFact 62).rd w [v] xs) (h' : (Sh.rows shFact 62).rd w [u] ys) :
    Calls Tryz.prog 40 #[v, u] w (Bl w (.bool (eqC xs ys))) := by
  obtain ⟨A, n, c, e, r⟩ := h
  injection e with e _
  subst e
  obtain ⟨B, m, d, e, r'⟩ := h'
  injection e with e _
  subst e
  exact eqFactS_any A B n m c d xs ys w r r'
end Go.Proofs.YtbonebpheimbaaaGreatDoor
