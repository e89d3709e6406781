
/- The harness's functions on Identity and []Identity: size, copy, equality. Printed by genshape.py. -/
import Derived.Test.YtidjocikbmkjbaaGreatShape
import Derived.Deep.RegionHeld3
import Derived.Deep.DeepCutAuto
namespace Go.Proofs.YtidjocikbmkjbaaGreat
open Go.RowKit

abbrev IdentityM : Type := (List Int × List Int)
def shIdentity : Sh IdentityM := (Sh.pair (Sh.il 3) (Sh.il 3))
theorem rdIdentity {w : World} {cs : List Value} {x : IdentityM} (h : shIdentity.rd w cs x) : ∃ (ALeft : Option Addr) (nLeft cLeft : Nat) (ARight : Option Addr) (nRight cRight : Nat), cs = [.slice ALeft nLeft cLeft, .slice ARight nRight cRight] ∧ RdL RI w ALeft nLeft x.1 ∧ RdL RI w ARight nRight x.2 := by
  obtain ⟨_, _, rfl, ⟨_, rfl, ALeft, nLeft, cLeft, rfl, rLeft⟩, ⟨_, rfl, ARight, nRight, cRight, rfl, rRight⟩⟩ := h
  exact ⟨ALeft, nLeft, cLeft, ARight, nRight, cRight, rfl, rLeft, rRight⟩
theorem mkIdentity {w : World} {x : IdentityM} {ALeft ARight : Option Addr} {nLeft cLeft nRight cRight : Nat} (hLeft : RdL RI w ALeft nLeft x.1) (hRight : RdL RI w ARight nRight x.2) : shIdentity.rd w [.slice ALeft nLeft cLeft, .slice ARight nRight cRight] x :=
  ⟨[.slice ALeft nLeft cLeft], [.slice ARight nRight cRight], rfl, ⟨_, rfl, _, _, _, rfl, hLeft⟩, ⟨_, rfl, _, _, _, rfl, hRight⟩⟩
set_option linter.unusedVariables false in
set_option maxHeartbeats 2000000 in
theorem szIdentity_any (cs : List Value) (x : IdentityM) (left : Int) (w : World) (h : shIdentity.rd w cs x) (h0 : 0 ≤ left) (h1 : left ≤ 1048576) :
    Calls Tryz.prog 19 #[.agg cs.toArray, .int .i64 left] w (Bl w (.int .i64 (szR (shIdentity.cnt x) left))) := by
  obtain ⟨ALeft, nLeft, cLeft, ARight, nRight, cRight, rfl, qLeft, qRight⟩ := rdIdentity h
  obtain ⟨w0, hw0, T0, hsz0, BP⟩ := boxes1 w #[.slice ALeft nLeft cLeft, .slice ARight nRight cRight] 27
  have lLeft := qLeft.le
  have lRight := qRight.le
  have HC0 : Hid (szR 0 left = left) := szR_zero h0
  have HCN : Hid (shIdentity.cnt x = (x.1.length + x.2.length)) := rfl
  replace qLeft := qLeft.next stab_RI T0
  replace qRight := qRight.next stab_RI T0
  go_enter Tryz.func19, Tryz.ntmps19
  have cP := BP.cell 0
  simp at cP
  rw [hw0] at cP
  go_wp2_with fail
  rw [← hw0]
  refine (bl_same (szIntS_any _ _ _ _ left _ qLeft (by omega) (by omega))).mono ?_
  rintro e w1 ⟨rfl, hb1⟩
  rw [szInts_szR]
  have T1 := below_next T0 hb1 rfl
  replace BP := BP.next hb1
  replace qLeft := qLeft.next stab_RI hb1
  replace qRight := qRight.next stab_RI hb1
  clear cP
  have HC1 : Hid (szR (0 + x.1.length) left = szR x.1.length left) := by show _ = _; rw [← szR_add (by rw [HC0.out]; omega), HC0.out]
  have hbd0 := szR_bd x.1.length (left := left) (by omega)
  obtain ⟨L0, HL0⟩ : ∃ L, Hid (szR x.1.length left = L) := ⟨_, rfl⟩
  rw [HL0.out] at HC1 hbd0 ⊢
  by_cases z0 : L0 < 0
  · go_wp2_with fail
    go_ret
    exact ⟨ret_int (szR_le (by rw [HC1.out]; omega) (by rw [HCN.out]; omega) h0), T1⟩
  have cP := BP.cell 1
  simp at cP
  go_wp2_with fail
  refine (bl_same (szIntS_any _ _ _ _ L0 _ qRight (by omega) (by omega))).mono ?_
  rintro e w2 ⟨rfl, hb2⟩
  rw [szInts_szR]
  have T2 := below_next T1 hb2 rfl
  replace BP := BP.next hb2
  replace qLeft := qLeft.next stab_RI hb2
  replace qRight := qRight.next stab_RI hb2
  clear cP
  have HC2 : Hid (szR ((0 + x.1.length) + x.2.length) left = szR x.2.length L0) := by show _ = _; rw [← szR_add (by rw [HC1.out]; omega), HC1.out]
  have hbd1 := szR_bd x.2.length (left := L0) (by omega)
  obtain ⟨L1, HL1⟩ : ∃ L, Hid (szR x.2.length L0 = L) := ⟨_, rfl⟩
  rw [HL1.out] at HC2 hbd1 ⊢
  by_cases z1 : L1 < 0
  · go_wp2_with fail
    go_ret
    exact ⟨ret_int (szR_le (by rw [HC2.out]; omega) (by rw [HCN.out]; omega) h0), T2⟩
  go_wp2_with fail
  go_ret
  exact ⟨ret_int (by simp only [HCN.out, ← HC2.out]; first | done | (congr 1; omega)), T2⟩
set_option linter.unusedVariables false in
set_option maxHeartbeats 4000000 in
theorem toIdentity_any (cs : List Value) (x : IdentityM) (w : World) (h : shIdentity.rd w cs x) (hn : shIdentity.cnt x ≤ 1048576) :
    Calls Tryz.prog 26 #[.agg cs.toArray] w (ToE shIdentity w x) := by
  obtain ⟨ALeft, nLeft, cLeft, ARight, nRight, cRight, rfl, qLeft, qRight⟩ := rdIdentity h
  have hcn : (x.1.length + x.2.length) ≤ 1048576 := hn
  obtain ⟨w0, hw0, T0, hsz0, BP, BR, BO⟩ := boxes3 w #[.slice ALeft nLeft cLeft, .slice ARight nRight cRight] #[.slice none 0 0, .slice none 0 0] #[.slice none 0 0, .slice none 0 0] 27 32
  have eLeft := qLeft.len
  have eRight := qRight.len
  go_enter Tryz.func26, Tryz.ntmps26
  go_wp2_with fail
  rw [← hw0]
  refine (toIntS_any _ _ _ _ _ (qLeft.next stab_RI T0) (by omega)).mono ?_
  rintro e w1 ⟨gLeft, rfl, hgLeft, hoLeft, hb1⟩
  have OLeft : (Sh.il 3).own w1 [.slice (some ⟨gLeft, 0, none⟩) nLeft nLeft] x.1 [gLeft] := ⟨_, rfl, by rw [eLeft]; exact own_mono hoLeft (Nat.zero_le _), qLeft.bounds, rfl⟩
  have ILeft : Iv w0.heap.size w1.heap.size [gLeft] := ⟨by simp, fun b hb => by simp at hb; subst hb; exact hoLeft.lt _ rfl⟩
  clear hoLeft
  have hz1 := hb1.size
  have T1 := below_next T0 hb1 rfl
  replace BP := BP.next hb1
  replace BR := BR.next hb1
  replace BO := BO.next hb1
  clear hb1
  have cP0 := BP.cell 0
  have cP1 := BP.cell 1
  have cO0 := BO.cell 0
  have fO0 := BO.frozen 0
  have cO1 := BO.cell 1
  have fO1 := BO.frozen 1
  simp at cP0 cO0 cP1 cO1
  go_wp2_with fail
  clear cP0 cO0 fO0 cP1 cO1 fO1
  obtain ⟨w2, hw2⟩ : ∃ wb, wb = (w1.setCell ⟨w.heap.size + 1 + 1, 0, none⟩ (.slice (some ⟨gLeft, 0, none⟩) nLeft nLeft)) := ⟨_, rfl⟩
  have BO' : Blk w2 (w.heap.size + 1 + 1) 32 #[.slice (some ⟨gLeft, 0, none⟩) nLeft nLeft, .slice none 0 0] := by rw [hw2]; simpa using (BO.set_ 0 (.slice (some ⟨gLeft, 0, none⟩) nLeft nLeft))
  replace BP : Blk w2 w.heap.size 27 #[.slice ALeft nLeft cLeft, .slice ARight nRight cRight] := by rw [hw2]; exact (BP.far (p := ⟨w.heap.size + 1 + 1, 0, none⟩) (by simp; try omega) (.slice (some ⟨gLeft, 0, none⟩) nLeft nLeft))
  replace BR : Blk w2 (w.heap.size + 1) 32 #[.slice none 0 0, .slice none 0 0] := by rw [hw2]; exact (BR.far (p := ⟨w.heap.size + 1 + 1, 0, none⟩) (by simp; try omega) (.slice (some ⟨gLeft, 0, none⟩) nLeft nLeft))
  replace BO := BO'
  clear BO'
  have T2 : Below w.heap.size w w2 := by rw [hw2]; exact (T1.setCell (by simp; try omega) (.slice (some ⟨gLeft, 0, none⟩) nLeft nLeft))
  have hz2 : w2.heap.size = w1.heap.size := by rw [hw2]; simp
  replace OLeft : (Sh.il 3).own w2 [.slice (some ⟨gLeft, 0, none⟩) nLeft nLeft] x.1 [gLeft] := by rw [hw2]; exact Sh.oset (p := ⟨w.heap.size + 1 + 1, 0, none⟩) (OLeft) ILeft (by show w.heap.size + 1 + 1 < _; omega) (.slice (some ⟨gLeft, 0, none⟩) nLeft nLeft)
  
  
  rw [← hw2]
  refine (toIntS_any _ _ _ _ _ (qRight.next stab_RI T2) (by omega)).mono ?_
  rintro e w3 ⟨gRight, rfl, hgRight, hoRight, hb3⟩
  have ORight : (Sh.il 3).own w3 [.slice (some ⟨gRight, 0, none⟩) nRight nRight] x.2 [gRight] := ⟨_, rfl, by rw [eRight]; exact own_mono hoRight (Nat.zero_le _), qRight.bounds, rfl⟩
  have IRight : Iv w2.heap.size w3.heap.size [gRight] := ⟨by simp, fun b hb => by simp at hb; subst hb; exact hoRight.lt _ rfl⟩
  clear hoRight
  have hz3 := hb3.size
  have T3 := below_next T2 hb3 rfl
  replace BP := BP.next hb3
  replace BR := BR.next hb3
  replace BO := BO.next hb3
  replace OLeft := Sh.onext OLeft hb3
  clear hb3
  have cR0 := BR.cell 0
  have fR0 := BR.frozen 0
  have cR1 := BR.cell 1
  have fR1 := BR.frozen 1
  simp at cR0 cR1
  have cP0 := BP.cell 0
  have cP1 := BP.cell 1
  have cO0 := BO.cell 0
  have fO0 := BO.frozen 0
  have cO1 := BO.cell 1
  have fO1 := BO.frozen 1
  simp at cP0 cO0 cP1 cO1
  go_wp2_with fail
  clear cP0 cO0 fO0 cP1 cO1 fO1
  clear cR0 fR0 cR1 fR1
  obtain ⟨w4, hw4⟩ : ∃ wb, wb = (w3.setCell ⟨w.heap.size + 1 + 1, 1, none⟩ (.slice (some ⟨gRight, 0, none⟩) nRight nRight)) := ⟨_, rfl⟩
  have BO' : Blk w4 (w.heap.size + 1 + 1) 32 #[.slice (some ⟨gLeft, 0, none⟩) nLeft nLeft, .slice (some ⟨gRight, 0, none⟩) nRight nRight] := by rw [hw4]; simpa using (BO.set_ 1 (.slice (some ⟨gRight, 0, none⟩) nRight nRight))
  replace BP : Blk w4 w.heap.size 27 #[.slice ALeft nLeft cLeft, .slice ARight nRight cRight] := by rw [hw4]; exact (BP.far (p := ⟨w.heap.size + 1 + 1, 1, none⟩) (by simp; try omega) (.slice (some ⟨gRight, 0, none⟩) nRight nRight))
  replace BR : Blk w4 (w.heap.size + 1) 32 #[.slice none 0 0, .slice none 0 0] := by rw [hw4]; exact (BR.far (p := ⟨w.heap.size + 1 + 1, 1, none⟩) (by simp; try omega) (.slice (some ⟨gRight, 0, none⟩) nRight nRight))
  replace BO := BO'
  clear BO'
  have T4 : Below w.heap.size w w4 := by rw [hw4]; exact (T3.setCell (by simp; try omega) (.slice (some ⟨gRight, 0, none⟩) nRight nRight))
  have hz4 : w4.heap.size = w3.heap.size := by rw [hw4]; simp
  replace OLeft : (Sh.il 3).own w4 [.slice (some ⟨gLeft, 0, none⟩) nLeft nLeft] x.1 [gLeft] := by rw [hw4]; exact Sh.oset (p := ⟨w.heap.size + 1 + 1, 1, none⟩) (OLeft) ILeft (by show w.heap.size + 1 + 1 < _; omega) (.slice (some ⟨gRight, 0, none⟩) nRight nRight)
  replace ORight : (Sh.il 3).own w4 [.slice (some ⟨gRight, 0, none⟩) nRight nRight] x.2 [gRight] := by rw [hw4]; exact Sh.oset (p := ⟨w.heap.size + 1 + 1, 1, none⟩) (ORight) IRight (by show w.heap.size + 1 + 1 < _; omega) (.slice (some ⟨gRight, 0, none⟩) nRight nRight)
  
  
  rw [← hw4]
  have BRR : Blk ((w4.setCell ⟨w.heap.size + 1, 0, none⟩ (.slice (some ⟨gLeft, 0, none⟩) nLeft nLeft)).setCell ⟨w.heap.size + 1, 1, none⟩ (.slice (some ⟨gRight, 0, none⟩) nRight nRight)) (w.heap.size + 1) 32 #[.slice (some ⟨gLeft, 0, none⟩) nLeft nLeft, .slice (some ⟨gRight, 0, none⟩) nRight nRight] := by simpa using ((BR).set_ 0 (.slice (some ⟨gLeft, 0, none⟩) nLeft nLeft)).set_ 1 (.slice (some ⟨gRight, 0, none⟩) nRight nRight)
  (try simp only [Exit.inBlock, Exit.then])
  refine bodyPost_ret (v := .agg #[.slice (some ⟨gLeft, 0, none⟩) nLeft nLeft, .slice (some ⟨gRight, 0, none⟩) nRight nRight]) (results_cell_row rfl _ _ (w.heap.size + 1) 32 #[.slice (some ⟨gLeft, 0, none⟩) nLeft nLeft, .slice (some ⟨gRight, 0, none⟩) nRight nRight] (0, 0) _ (by simp) BRR Tryz.underlying32 rfl (by kernel_rfl)) rfl ?_
  have hsz : ((w4.setCell ⟨w.heap.size + 1, 0, none⟩ (.slice (some ⟨gLeft, 0, none⟩) nLeft nLeft)).setCell ⟨w.heap.size + 1, 1, none⟩ (.slice (some ⟨gRight, 0, none⟩) nRight nRight)).heap.size = w4.heap.size := by simp
  refine ⟨_, ([gLeft] ++ [gRight]), rfl, ⟨[.slice (some ⟨gLeft, 0, none⟩) nLeft nLeft], [.slice (some ⟨gRight, 0, none⟩) nRight nRight], [gLeft], [gRight], rfl, rfl, (Sh.oset (p := ⟨w.heap.size + 1, 1, none⟩) (Sh.oset (p := ⟨w.heap.size + 1, 0, none⟩) (OLeft) ILeft (by show w.heap.size + 1 < _; omega) (.slice (some ⟨gLeft, 0, none⟩) nLeft nLeft)) ILeft (by show w.heap.size + 1 < _; omega) (.slice (some ⟨gRight, 0, none⟩) nRight nRight)), (Sh.oset (p := ⟨w.heap.size + 1, 1, none⟩) (Sh.oset (p := ⟨w.heap.size + 1, 0, none⟩) (ORight) IRight (by show w.heap.size + 1 < _; omega) (.slice (some ⟨gLeft, 0, none⟩) nLeft nLeft)) IRight (by show w.heap.size + 1 < _; omega) (.slice (some ⟨gRight, 0, none⟩) nRight nRight))⟩, ?_, ((T4).setCell (by simp; try omega) (.slice (some ⟨gLeft, 0, none⟩) nLeft nLeft)).setCell (by simp; try omega) (.slice (some ⟨gRight, 0, none⟩) nRight nRight)⟩
  rw [hsz]
  exact Iv.mono (Iv.app (lo := w.heap.size) (hi := w4.heap.size) (a := [gLeft]) (b := [gRight]) (Iv.mono ILeft (by omega) (Nat.le_refl _)) (Iv.mono IRight (Nat.le_refl _) (by omega)) (by omega) (by omega) (by omega)) (by omega) (by omega)
theorem eqPIdentity (x y : IdentityM) : eqC x y = (eqC (x.1) (y.1) && eqC (x.2) (y.2)) := by
  obtain ⟨x0, x1⟩ := x
  obtain ⟨y0, y1⟩ := y
  simp only [dec_pair]
set_option linter.unusedVariables false in
set_option maxHeartbeats 4000000 in
theorem eqIdentity_any (cs ds : List Value) (x y : IdentityM) (w : World) (h : shIdentity.rd w cs x) (h' : shIdentity.rd w ds y) :
    Calls Tryz.prog 31 #[.agg cs.toArray, .agg ds.toArray] w (Bl w (.bool (eqC x y))) := by
  obtain ⟨ALeft, nLeft, cLeft, ARight, nRight, cRight, rfl, qLeft, qRight⟩ := rdIdentity h
  obtain ⟨AyLeft, nyLeft, cyLeft, AyRight, nyRight, cyRight, rfl, qyLeft, qyRight⟩ := rdIdentity h'
  obtain ⟨w0, hw0, T0, hsz0, BP, BQ⟩ := boxes2 w #[.slice ALeft nLeft cLeft, .slice ARight nRight cRight] #[.slice AyLeft nyLeft cyLeft, .slice AyRight nyRight cyRight] 32 32
  replace qLeft := qLeft.next stab_RI T0
  replace qyLeft := qyLeft.next stab_RI T0
  replace qRight := qRight.next stab_RI T0
  replace qyRight := qyRight.next stab_RI T0
  have HD := Lib.hid (eqPIdentity x y)
  go_enter Tryz.func31, Tryz.ntmps31
  rcases hd0 : eqC (x.1) (y.1) with _ | _
  · have HH0 := Lib.hid hd0
    clear hd0
    have cP0 := BP.cell 0
    have cQ0 := BQ.cell 0
    simp at cP0 cQ0
    rw [hw0] at cP0 cQ0
    go_wp2_with fail
    rw [← hw0]
    refine (bl_of_quiet (eqIntS_any _ _ _ _ _ _ _ _ _ qLeft qyLeft)).mono ?_
    rintro e w1 ⟨rfl, hb1⟩
    rw [eqL_dec]
    rw [HH0.out]
    have T1 := below_next T0 hb1 rfl
    go_wp2_with fail
    go_ret
    exact ⟨ret_bool (by rw [HD.out, HH0.out]; first | rfl | simp), T1⟩
  have HH0 := Lib.hid hd0
  clear hd0
  have cP0 := BP.cell 0
  have cQ0 := BQ.cell 0
  simp at cP0 cQ0
  rw [hw0] at cP0 cQ0
  go_wp2_with fail
  rw [← hw0]
  refine (bl_of_quiet (eqIntS_any _ _ _ _ _ _ _ _ _ qLeft qyLeft)).mono ?_
  rintro e w1 ⟨rfl, hb1⟩
  rw [eqL_dec]
  rw [HH0.out]
  have T1 := below_next T0 hb1 rfl
  clear cP0 cQ0
  replace BP := BP.next hb1
  replace BQ := BQ.next hb1
  replace qLeft := qLeft.next stab_RI hb1
  replace qyLeft := qyLeft.next stab_RI hb1
  replace qRight := qRight.next stab_RI hb1
  replace qyRight := qyRight.next stab_RI hb1
  rcases hd1 : eqC (x.2) (y.2) with _ | _
  · have HH1 := Lib.hid hd1
    clear hd1
    have cP1 := BP.cell 1
    have cQ1 := BQ.cell 1
    simp at cP1 cQ1
    go_wp2_with fail
    refine (bl_of_quiet (eqIntS_any _ _ _ _ _ _ _ _ _ qRight qyRight)).mono ?_
    rintro e w2 ⟨rfl, hb2⟩
    rw [eqL_dec]
    rw [HH1.out]
    have T2 := below_next T1 hb2 rfl
    go_wp2_with fail
    go_ret
    exact ⟨ret_bool (by rw [HD.out, HH0.out, HH1.out]; first | rfl | simp), T2⟩
  have HH1 := Lib.hid hd1
  clear hd1
  have cP1 := BP.cell 1
  have cQ1 := BQ.cell 1
  simp at cP1 cQ1
  go_wp2_with fail
  refine (bl_of_quiet (eqIntS_any _ _ _ _ _ _ _ _ _ qRight qyRight)).mono ?_
  rintro e w2 ⟨rfl, hb2⟩
  rw [eqL_dec]
  rw [HH1.out]
  have T2 := below_next T1 hb2 rfl
  clear cP1 cQ1
  replace BP := BP.next hb2
  replace BQ := BQ.next hb2
  replace qLeft := qLeft.next stab_RI hb2
  replace qyLeft := qyLeft.next stab_RI hb2
  replace qRight := qRight.next stab_RI hb2
  replace qyRight := qyRight.next stab_RI hb2
  go_wp2_with fail
  go_ret
  exact ⟨ret_bool (by rw [HD.out, HH0.out, HH1.out]; first | rfl | simp), T2⟩
end Go.Proofs.YtidjocikbmkjbaaGreat
namespace Go.Proofs.YtidjocikbmkjbaaGreat
open Go.RowKit

abbrev FactM : Type := (Int × IdentityM × List Int)
def shFact : Sh FactM := (Sh.pair Sh.int (Sh.pair shIdentity (Sh.il 3)))
theorem rdFact {w : World} {cs : List Value} {x : FactM} (h : shFact.rd w cs x) : ∃ (AEqLeft : Option Addr) (nEqLeft cEqLeft : Nat) (AEqRight : Option Addr) (nEqRight cEqRight : Nat) (AList : Option Addr) (nList cList : Nat), cs = [.int .i64 x.1, .slice AEqLeft nEqLeft cEqLeft, .slice AEqRight nEqRight cEqRight, .slice AList nList cList] ∧ InR x.1 ∧ RdL RI w AEqLeft nEqLeft x.2.1.1 ∧ RdL RI w AEqRight nEqRight x.2.1.2 ∧ RdL RI w AList nList x.2.2 := by
  obtain ⟨_, _, rfl, ⟨_, rfl, rfl, loKind, hiKind⟩, ⟨_, _, rfl, ⟨_, _, rfl, ⟨_, rfl, AEqLeft, nEqLeft, cEqLeft, rfl, rEqLeft⟩, ⟨_, rfl, AEqRight, nEqRight, cEqRight, rfl, rEqRight⟩⟩, ⟨_, rfl, AList, nList, cList, rfl, rList⟩⟩⟩ := h
  exact ⟨AEqLeft, nEqLeft, cEqLeft, AEqRight, nEqRight, cEqRight, AList, nList, cList, rfl, ⟨loKind, hiKind⟩, rEqLeft, rEqRight, rList⟩
theorem mkFact {w : World} {x : FactM} {AEqLeft AEqRight AList : Option Addr} {nEqLeft cEqLeft nEqRight cEqRight nList cList : Nat} (hKind : InR x.1) (hEqLeft : RdL RI w AEqLeft nEqLeft x.2.1.1) (hEqRight : RdL RI w AEqRight nEqRight x.2.1.2) (hList : RdL RI w AList nList x.2.2) : shFact.rd w [.int .i64 x.1, .slice AEqLeft nEqLeft cEqLeft, .slice AEqRight nEqRight cEqRight, .slice AList nList cList] x :=
  ⟨[.int .i64 x.1], [.slice AEqLeft nEqLeft cEqLeft, .slice AEqRight nEqRight cEqRight, .slice AList nList cList], rfl, ⟨_, rfl, rfl, hKind.1, hKind.2⟩, ⟨[.slice AEqLeft nEqLeft cEqLeft, .slice AEqRight nEqRight cEqRight], [.slice AList nList cList], rfl, ⟨[.slice AEqLeft nEqLeft cEqLeft], [.slice AEqRight nEqRight cEqRight], rfl, ⟨_, rfl, _, _, _, rfl, hEqLeft⟩, ⟨_, rfl, _, _, _, rfl, hEqRight⟩⟩, ⟨_, rfl, _, _, _, rfl, hList⟩⟩⟩
set_option linter.unusedVariables false in
set_option maxHeartbeats 2000000 in
theorem szFact_any (cs : List Value) (x : FactM) (left : Int) (w : World) (h : shFact.rd w cs x) (h0 : 0 ≤ left) (h1 : left ≤ 1048576) :
    Calls Tryz.prog 5 #[.agg cs.toArray, .int .i64 left] w (Bl w (.int .i64 (szR (shFact.cnt x) left))) := by
  obtain ⟨AEqLeft, nEqLeft, cEqLeft, AEqRight, nEqRight, cEqRight, AList, nList, cList, rfl, qKind, qEqLeft, qEqRight, qList⟩ := rdFact h
  obtain ⟨w0, hw0, T0, hsz0, BP⟩ := boxes1 w #[.int .i64 x.1, .slice AEqLeft nEqLeft cEqLeft, .slice AEqRight nEqRight cEqRight, .slice AList nList cList] 29
  have lEqLeft := qEqLeft.le
  have lEqRight := qEqRight.le
  have lList := qList.le
  have HC0 : Hid (szR 0 left = left) := szR_zero h0
  have HCN : Hid (shFact.cnt x = (0 + ((shIdentity.cnt x.2.1) + x.2.2.length))) := rfl
  replace qEqLeft := qEqLeft.next stab_RI T0
  replace qEqRight := qEqRight.next stab_RI T0
  replace qList := qList.next stab_RI T0
  go_enter Tryz.func5, Tryz.ntmps5
  have cP := BP.cell 1
  clear cP
  have cP0 := BP.cell 1
  have cP1 := BP.cell 2
  simp at cP0 cP1
  rw [hw0] at cP0 cP1
  go_wp2_with fail
  rw [← hw0]
  refine (szIdentity_any [.slice AEqLeft nEqLeft cEqLeft, .slice AEqRight nEqRight cEqRight] x.2.1 left _ (mkIdentity qEqLeft qEqRight) (by omega) (by omega)).mono ?_
  rintro e w1 ⟨rfl, hb1⟩
  have T1 := below_next T0 hb1 rfl
  replace BP := BP.next hb1
  replace qEqLeft := qEqLeft.next stab_RI hb1
  replace qEqRight := qEqRight.next stab_RI hb1
  replace qList := qList.next stab_RI hb1
  clear cP0 cP1
  have HC1 : Hid (szR (0 + (shIdentity.cnt x.2.1)) left = szR (shIdentity.cnt x.2.1) left) := by show _ = _; rw [← szR_add (by rw [HC0.out]; omega), HC0.out]
  have hbd0 := szR_bd (shIdentity.cnt x.2.1) (left := left) (by omega)
  obtain ⟨L0, HL0⟩ : ∃ L, Hid (szR (shIdentity.cnt x.2.1) left = L) := ⟨_, rfl⟩
  rw [HL0.out] at HC1 hbd0 ⊢
  by_cases z0 : L0 < 0
  · go_wp2_with fail
    go_ret
    exact ⟨ret_int (szR_le (by rw [HC1.out]; omega) (by rw [HCN.out]; omega) h0), T1⟩
  have cP := BP.cell 3
  simp at cP
  go_wp2_with fail
  refine (bl_same (szIntS_any _ _ _ _ L0 _ qList (by omega) (by omega))).mono ?_
  rintro e w2 ⟨rfl, hb2⟩
  rw [szInts_szR]
  have T2 := below_next T1 hb2 rfl
  replace BP := BP.next hb2
  replace qEqLeft := qEqLeft.next stab_RI hb2
  replace qEqRight := qEqRight.next stab_RI hb2
  replace qList := qList.next stab_RI hb2
  clear cP
  have HC2 : Hid (szR ((0 + (shIdentity.cnt x.2.1)) + x.2.2.length) left = szR x.2.2.length L0) := by show _ = _; rw [← szR_add (by rw [HC1.out]; omega), HC1.out]
  have hbd1 := szR_bd x.2.2.length (left := L0) (by omega)
  obtain ⟨L1, HL1⟩ : ∃ L, Hid (szR x.2.2.length L0 = L) := ⟨_, rfl⟩
  rw [HL1.out] at HC2 hbd1 ⊢
  by_cases z1 : L1 < 0
  · go_wp2_with fail
    go_ret
    exact ⟨ret_int (szR_le (by rw [HC2.out]; omega) (by rw [HCN.out]; omega) h0), T2⟩
  go_wp2_with fail
  go_ret
  exact ⟨ret_int (by simp only [HCN.out, ← HC2.out]; first | done | (congr 1; omega)), T2⟩
set_option linter.unusedVariables false in
set_option maxHeartbeats 4000000 in
theorem toFact_any (cs : List Value) (x : FactM) (w : World) (h : shFact.rd w cs x) (hn : shFact.cnt x ≤ 1048576) :
    Calls Tryz.prog 8 #[.agg cs.toArray] w (ToE shFact w x) := by
  obtain ⟨AEqLeft, nEqLeft, cEqLeft, AEqRight, nEqRight, cEqRight, AList, nList, cList, rfl, qKind, qEqLeft, qEqRight, qList⟩ := rdFact h
  have hcn : (0 + ((shIdentity.cnt x.2.1) + x.2.2.length)) ≤ 1048576 := hn
  obtain ⟨w0, hw0, T0, hsz0, BP, BR, BO⟩ := boxes3 w #[.int .i64 x.1, .slice AEqLeft nEqLeft cEqLeft, .slice AEqRight nEqRight cEqRight, .slice AList nList cList] #[.int .i64 0, .slice none 0 0, .slice none 0 0, .slice none 0 0] #[.int .i64 x.1, .slice none 0 0, .slice none 0 0, .slice none 0 0] 29 34
  have eEqLeft := qEqLeft.len
  have eEqRight := qEqRight.len
  have eList := qList.len
  go_enter Tryz.func8, Tryz.ntmps8
  go_wp2_with fail
  rw [← hw0]
  refine (toIdentity_any [.slice AEqLeft nEqLeft cEqLeft, .slice AEqRight nEqRight cEqRight] x.2.1 _ (mkIdentity (qEqLeft.next stab_RI T0) (qEqRight.next stab_RI T0)) (by omega)).mono ?_
  rintro e w1 ⟨csEq, blEq, rfl, OEq, IEq, hb1⟩
  obtain ⟨AyEqLeft, nyEqLeft, cyEqLeft, AyEqRight, nyEqRight, cyEqRight, rfl, -, -⟩ := rdIdentity (shIdentity.ord OEq)
  have hz1 := hb1.size
  have T1 := below_next T0 hb1 rfl
  replace BP := BP.next hb1
  replace BR := BR.next hb1
  replace BO := BO.next hb1
  clear hb1
  have cP0 := BP.cell 0
  have cP1 := BP.cell 1
  have cP2 := BP.cell 2
  have cP3 := BP.cell 3
  have cO0 := BO.cell 0
  have fO0 := BO.frozen 0
  have cO1 := BO.cell 1
  have fO1 := BO.frozen 1
  have cO2 := BO.cell 2
  have fO2 := BO.frozen 2
  have cO3 := BO.cell 3
  have fO3 := BO.frozen 3
  simp at cP0 cO0 cP1 cO1 cP2 cO2 cP3 cO3
  go_wp2_with fail
  clear cP0 cO0 fO0 cP1 cO1 fO1 cP2 cO2 fO2 cP3 cO3 fO3
  obtain ⟨w2, hw2⟩ : ∃ wb, wb = ((w1.setCell ⟨w.heap.size + 1 + 1, 1, none⟩ (.slice AyEqLeft nyEqLeft cyEqLeft)).setCell ⟨w.heap.size + 1 + 1, 2, none⟩ (.slice AyEqRight nyEqRight cyEqRight)) := ⟨_, rfl⟩
  have BO' : Blk w2 (w.heap.size + 1 + 1) 34 #[.int .i64 x.1, .slice AyEqLeft nyEqLeft cyEqLeft, .slice AyEqRight nyEqRight cyEqRight, .slice none 0 0] := by rw [hw2]; simpa using ((BO.set_ 1 (.slice AyEqLeft nyEqLeft cyEqLeft)).set_ 2 (.slice AyEqRight nyEqRight cyEqRight))
  replace BP : Blk w2 w.heap.size 29 #[.int .i64 x.1, .slice AEqLeft nEqLeft cEqLeft, .slice AEqRight nEqRight cEqRight, .slice AList nList cList] := by rw [hw2]; exact ((BP.far (p := ⟨w.heap.size + 1 + 1, 1, none⟩) (by simp; try omega) (.slice AyEqLeft nyEqLeft cyEqLeft)).far (p := ⟨w.heap.size + 1 + 1, 2, none⟩) (by simp; try omega) (.slice AyEqRight nyEqRight cyEqRight))
  replace BR : Blk w2 (w.heap.size + 1) 34 #[.int .i64 0, .slice none 0 0, .slice none 0 0, .slice none 0 0] := by rw [hw2]; exact ((BR.far (p := ⟨w.heap.size + 1 + 1, 1, none⟩) (by simp; try omega) (.slice AyEqLeft nyEqLeft cyEqLeft)).far (p := ⟨w.heap.size + 1 + 1, 2, none⟩) (by simp; try omega) (.slice AyEqRight nyEqRight cyEqRight))
  replace BO := BO'
  clear BO'
  have T2 : Below w.heap.size w w2 := by rw [hw2]; exact ((T1.setCell (by simp; try omega) (.slice AyEqLeft nyEqLeft cyEqLeft)).setCell (by simp; try omega) (.slice AyEqRight nyEqRight cyEqRight))
  have hz2 : w2.heap.size = w1.heap.size := by rw [hw2]; simp
  replace OEq : shIdentity.own w2 [.slice AyEqLeft nyEqLeft cyEqLeft, .slice AyEqRight nyEqRight cyEqRight] x.2.1 blEq := by rw [hw2]; exact Sh.oset (p := ⟨w.heap.size + 1 + 1, 2, none⟩) (Sh.oset (p := ⟨w.heap.size + 1 + 1, 1, none⟩) (OEq) IEq (by show w.heap.size + 1 + 1 < _; omega) (.slice AyEqLeft nyEqLeft cyEqLeft)) IEq (by show w.heap.size + 1 + 1 < _; omega) (.slice AyEqRight nyEqRight cyEqRight)
  
  
  
  rw [← hw2]
  refine (toIntS_any _ _ _ _ _ (qList.next stab_RI T2) (by omega)).mono ?_
  rintro e w3 ⟨gList, rfl, hgList, hoList, hb3⟩
  have OList : (Sh.il 3).own w3 [.slice (some ⟨gList, 0, none⟩) nList nList] x.2.2 [gList] := ⟨_, rfl, by rw [eList]; exact own_mono hoList (Nat.zero_le _), qList.bounds, rfl⟩
  have IList : Iv w2.heap.size w3.heap.size [gList] := ⟨by simp, fun b hb => by simp at hb; subst hb; exact hoList.lt _ rfl⟩
  clear hoList
  have hz3 := hb3.size
  have T3 := below_next T2 hb3 rfl
  replace BP := BP.next hb3
  replace BR := BR.next hb3
  replace BO := BO.next hb3
  replace OEq := Sh.onext OEq hb3
  clear hb3
  have cR0 := BR.cell 0
  have fR0 := BR.frozen 0
  have cR1 := BR.cell 1
  have fR1 := BR.frozen 1
  have cR2 := BR.cell 2
  have fR2 := BR.frozen 2
  have cR3 := BR.cell 3
  have fR3 := BR.frozen 3
  simp at cR0 cR1 cR2 cR3
  have cP0 := BP.cell 0
  have cP1 := BP.cell 1
  have cP2 := BP.cell 2
  have cP3 := BP.cell 3
  have cO0 := BO.cell 0
  have fO0 := BO.frozen 0
  have cO1 := BO.cell 1
  have fO1 := BO.frozen 1
  have cO2 := BO.cell 2
  have fO2 := BO.frozen 2
  have cO3 := BO.cell 3
  have fO3 := BO.frozen 3
  simp at cP0 cO0 cP1 cO1 cP2 cO2 cP3 cO3
  go_wp2_with fail
  clear cP0 cO0 fO0 cP1 cO1 fO1 cP2 cO2 fO2 cP3 cO3 fO3
  clear cR0 fR0 cR1 fR1 cR2 fR2 cR3 fR3
  obtain ⟨w4, hw4⟩ : ∃ wb, wb = (w3.setCell ⟨w.heap.size + 1 + 1, 3, none⟩ (.slice (some ⟨gList, 0, none⟩) nList nList)) := ⟨_, rfl⟩
  have BO' : Blk w4 (w.heap.size + 1 + 1) 34 #[.int .i64 x.1, .slice AyEqLeft nyEqLeft cyEqLeft, .slice AyEqRight nyEqRight cyEqRight, .slice (some ⟨gList, 0, none⟩) nList nList] := by rw [hw4]; simpa using (BO.set_ 3 (.slice (some ⟨gList, 0, none⟩) nList nList))
  replace BP : Blk w4 w.heap.size 29 #[.int .i64 x.1, .slice AEqLeft nEqLeft cEqLeft, .slice AEqRight nEqRight cEqRight, .slice AList nList cList] := by rw [hw4]; exact (BP.far (p := ⟨w.heap.size + 1 + 1, 3, none⟩) (by simp; try omega) (.slice (some ⟨gList, 0, none⟩) nList nList))
  replace BR : Blk w4 (w.heap.size + 1) 34 #[.int .i64 0, .slice none 0 0, .slice none 0 0, .slice none 0 0] := by rw [hw4]; exact (BR.far (p := ⟨w.heap.size + 1 + 1, 3, none⟩) (by simp; try omega) (.slice (some ⟨gList, 0, none⟩) nList nList))
  replace BO := BO'
  clear BO'
  have T4 : Below w.heap.size w w4 := by rw [hw4]; exact (T3.setCell (by simp; try omega) (.slice (some ⟨gList, 0, none⟩) nList nList))
  have hz4 : w4.heap.size = w3.heap.size := by rw [hw4]; simp
  replace OEq : shIdentity.own w4 [.slice AyEqLeft nyEqLeft cyEqLeft, .slice AyEqRight nyEqRight cyEqRight] x.2.1 blEq := by rw [hw4]; exact Sh.oset (p := ⟨w.heap.size + 1 + 1, 3, none⟩) (OEq) IEq (by show w.heap.size + 1 + 1 < _; omega) (.slice (some ⟨gList, 0, none⟩) nList nList)
  replace OList : (Sh.il 3).own w4 [.slice (some ⟨gList, 0, none⟩) nList nList] x.2.2 [gList] := by rw [hw4]; exact Sh.oset (p := ⟨w.heap.size + 1 + 1, 3, none⟩) (OList) IList (by show w.heap.size + 1 + 1 < _; omega) (.slice (some ⟨gList, 0, none⟩) nList nList)
  
  
  
  rw [← hw4]
  have BRR : Blk ((((w4.setCell ⟨w.heap.size + 1, 0, none⟩ (.int .i64 x.1)).setCell ⟨w.heap.size + 1, 1, none⟩ (.slice AyEqLeft nyEqLeft cyEqLeft)).setCell ⟨w.heap.size + 1, 2, none⟩ (.slice AyEqRight nyEqRight cyEqRight)).setCell ⟨w.heap.size + 1, 3, none⟩ (.slice (some ⟨gList, 0, none⟩) nList nList)) (w.heap.size + 1) 34 #[.int .i64 x.1, .slice AyEqLeft nyEqLeft cyEqLeft, .slice AyEqRight nyEqRight cyEqRight, .slice (some ⟨gList, 0, none⟩) nList nList] := by simpa using ((((BR).set_ 0 (.int .i64 x.1)).set_ 1 (.slice AyEqLeft nyEqLeft cyEqLeft)).set_ 2 (.slice AyEqRight nyEqRight cyEqRight)).set_ 3 (.slice (some ⟨gList, 0, none⟩) nList nList)
  (try simp only [Exit.inBlock, Exit.then])
  refine bodyPost_ret (v := .agg #[.int .i64 x.1, .slice AyEqLeft nyEqLeft cyEqLeft, .slice AyEqRight nyEqRight cyEqRight, .slice (some ⟨gList, 0, none⟩) nList nList]) (results_cell_row rfl _ _ (w.heap.size + 1) 34 #[.int .i64 x.1, .slice AyEqLeft nyEqLeft cyEqLeft, .slice AyEqRight nyEqRight cyEqRight, .slice (some ⟨gList, 0, none⟩) nList nList] (0, 0) _ (by simp) BRR Tryz.underlying34 rfl (by kernel_rfl)) rfl ?_
  have hsz : ((((w4.setCell ⟨w.heap.size + 1, 0, none⟩ (.int .i64 x.1)).setCell ⟨w.heap.size + 1, 1, none⟩ (.slice AyEqLeft nyEqLeft cyEqLeft)).setCell ⟨w.heap.size + 1, 2, none⟩ (.slice AyEqRight nyEqRight cyEqRight)).setCell ⟨w.heap.size + 1, 3, none⟩ (.slice (some ⟨gList, 0, none⟩) nList nList)).heap.size = w4.heap.size := by simp
  refine ⟨_, (blEq ++ [gList]), rfl, ⟨[.int .i64 x.1], [.slice AyEqLeft nyEqLeft cyEqLeft, .slice AyEqRight nyEqRight cyEqRight, .slice (some ⟨gList, 0, none⟩) nList nList], [], (blEq ++ [gList]), rfl, rfl, ⟨_, rfl, ⟨rfl, qKind.1, qKind.2⟩, rfl⟩, ⟨[.slice AyEqLeft nyEqLeft cyEqLeft, .slice AyEqRight nyEqRight cyEqRight], [.slice (some ⟨gList, 0, none⟩) nList nList], blEq, [gList], rfl, rfl, (Sh.oset (p := ⟨w.heap.size + 1, 3, none⟩) (Sh.oset (p := ⟨w.heap.size + 1, 2, none⟩) (Sh.oset (p := ⟨w.heap.size + 1, 1, none⟩) (Sh.oset (p := ⟨w.heap.size + 1, 0, none⟩) (OEq) IEq (by show w.heap.size + 1 < _; omega) (.int .i64 x.1)) IEq (by show w.heap.size + 1 < _; omega) (.slice AyEqLeft nyEqLeft cyEqLeft)) IEq (by show w.heap.size + 1 < _; omega) (.slice AyEqRight nyEqRight cyEqRight)) IEq (by show w.heap.size + 1 < _; omega) (.slice (some ⟨gList, 0, none⟩) nList nList)), (Sh.oset (p := ⟨w.heap.size + 1, 3, none⟩) (Sh.oset (p := ⟨w.heap.size + 1, 2, none⟩) (Sh.oset (p := ⟨w.heap.size + 1, 1, none⟩) (Sh.oset (p := ⟨w.heap.size + 1, 0, none⟩) (OList) IList (by show w.heap.size + 1 < _; omega) (.int .i64 x.1)) IList (by show w.heap.size + 1 < _; omega) (.slice AyEqLeft nyEqLeft cyEqLeft)) IList (by show w.heap.size + 1 < _; omega) (.slice AyEqRight nyEqRight cyEqRight)) IList (by show w.heap.size + 1 < _; omega) (.slice (some ⟨gList, 0, none⟩) nList nList))⟩⟩, ?_, ((((T4).setCell (by simp; try omega) (.int .i64 x.1)).setCell (by simp; try omega) (.slice AyEqLeft nyEqLeft cyEqLeft)).setCell (by simp; try omega) (.slice AyEqRight nyEqRight cyEqRight)).setCell (by simp; try omega) (.slice (some ⟨gList, 0, none⟩) nList nList)⟩
  rw [hsz]
  exact Iv.mono (Iv.app (lo := w.heap.size) (hi := w4.heap.size) (a := blEq) (b := [gList]) (Iv.mono IEq (by omega) (Nat.le_refl _)) (Iv.mono IList (Nat.le_refl _) (by omega)) (by omega) (by omega) (by omega)) (by omega) (by omega)
theorem eqPFact (x y : FactM) : eqC x y = (eqC (x.1) (y.1) && (eqC (x.2.1) (y.2.1) && eqC (x.2.2) (y.2.2))) := by
  obtain ⟨x0, x1, x2⟩ := x
  obtain ⟨y0, y1, y2⟩ := y
  simp only [dec_pair]
set_option linter.unusedVariables false in
set_option maxHeartbeats 4000000 in
theorem eqFact_any (cs ds : List Value) (x y : FactM) (w : World) (h : shFact.rd w cs x) (h' : shFact.rd w ds y) :
    Calls Tryz.prog 11 #[.agg cs.toArray, .agg ds.toArray] w (Bl w (.bool (eqC x y))) := by
  obtain ⟨AEqLeft, nEqLeft, cEqLeft, AEqRight, nEqRight, cEqRight, AList, nList, cList, rfl, qKind, qEqLeft, qEqRight, qList⟩ := rdFact h
  obtain ⟨AyEqLeft, nyEqLeft, cyEqLeft, AyEqRight, nyEqRight, cyEqRight, AyList, nyList, cyList, rfl, qyKind, qyEqLeft, qyEqRight, qyList⟩ := rdFact h'
  obtain ⟨w0, hw0, T0, hsz0, BP, BQ⟩ := boxes2 w #[.int .i64 x.1, .slice AEqLeft nEqLeft cEqLeft, .slice AEqRight nEqRight cEqRight, .slice AList nList cList] #[.int .i64 y.1, .slice AyEqLeft nyEqLeft cyEqLeft, .slice AyEqRight nyEqRight cyEqRight, .slice AyList nyList cyList] 34 34
  replace qEqLeft := qEqLeft.next stab_RI T0
  replace qyEqLeft := qyEqLeft.next stab_RI T0
  replace qEqRight := qEqRight.next stab_RI T0
  replace qyEqRight := qyEqRight.next stab_RI T0
  replace qList := qList.next stab_RI T0
  replace qyList := qyList.next stab_RI T0
  have HD := Lib.hid (eqPFact x y)
  go_enter Tryz.func11, Tryz.ntmps11
  rcases hd0 : eqC (x.1) (y.1) with _ | _
  · have ht : (x.1 != y.1) = true := neq_int hd0
    have HH0 := Lib.hid hd0
    clear hd0
    have cP0 := BP.cell 0
    have cQ0 := BQ.cell 0
    simp at cP0 cQ0
    rw [hw0] at cP0 cQ0
    go_wp2_with fail
    go_ret
    exact ⟨ret_bool (by rw [HD.out, HH0.out]; first | rfl | simp), by first | exact T0 | (rw [← hw0]; exact T0)⟩
  have ht0 : (x.1 != y.1) = false := neq_int hd0
  have HH0 := Lib.hid hd0
  clear hd0
  have cP0 := BP.cell 0
  have cQ0 := BQ.cell 0
  simp at cP0 cQ0
  rw [hw0] at cP0 cQ0
  rcases hd1 : eqC (x.2.1) (y.2.1) with _ | _
  · have HH1 := Lib.hid hd1
    clear hd1
    have cP1 := BP.cell 1
    have cQ1 := BQ.cell 1
    have cP2 := BP.cell 2
    have cQ2 := BQ.cell 2
    simp at cP1 cQ1 cP2 cQ2
    rw [hw0] at cP1 cQ1 cP2 cQ2
    go_wp2_with fail
    rw [← hw0]
    refine (eqIdentity_any [.slice AEqLeft nEqLeft cEqLeft, .slice AEqRight nEqRight cEqRight] [.slice AyEqLeft nyEqLeft cyEqLeft, .slice AyEqRight nyEqRight cyEqRight] x.2.1 y.2.1 _ (mkIdentity qEqLeft qEqRight) (mkIdentity qyEqLeft qyEqRight)).mono ?_
    rintro e w1 ⟨rfl, hb1⟩
    rw [HH1.out]
    have T1 := below_next T0 hb1 rfl
    go_wp2_with fail
    go_ret
    exact ⟨ret_bool (by rw [HD.out, HH0.out, HH1.out]; first | rfl | simp), T1⟩
  have HH1 := Lib.hid hd1
  clear hd1
  have cP1 := BP.cell 1
  have cQ1 := BQ.cell 1
  have cP2 := BP.cell 2
  have cQ2 := BQ.cell 2
  simp at cP1 cQ1 cP2 cQ2
  rw [hw0] at cP1 cQ1 cP2 cQ2
  go_wp2_with fail
  rw [← hw0]
  refine (eqIdentity_any [.slice AEqLeft nEqLeft cEqLeft, .slice AEqRight nEqRight cEqRight] [.slice AyEqLeft nyEqLeft cyEqLeft, .slice AyEqRight nyEqRight cyEqRight] x.2.1 y.2.1 _ (mkIdentity qEqLeft qEqRight) (mkIdentity qyEqLeft qyEqRight)).mono ?_
  rintro e w1 ⟨rfl, hb1⟩
  rw [HH1.out]
  have T1 := below_next T0 hb1 rfl
  clear cP1 cQ1 cP2 cQ2 cP0 cQ0 ht0
  replace BP := BP.next hb1
  replace BQ := BQ.next hb1
  replace qEqLeft := qEqLeft.next stab_RI hb1
  replace qyEqLeft := qyEqLeft.next stab_RI hb1
  replace qEqRight := qEqRight.next stab_RI hb1
  replace qyEqRight := qyEqRight.next stab_RI hb1
  replace qList := qList.next stab_RI hb1
  replace qyList := qyList.next stab_RI hb1
  rcases hd2 : eqC (x.2.2) (y.2.2) with _ | _
  · have HH2 := Lib.hid hd2
    clear hd2
    have cP3 := BP.cell 3
    have cQ3 := BQ.cell 3
    simp at cP3 cQ3
    go_wp2_with fail
    refine (bl_of_quiet (eqIntS_any _ _ _ _ _ _ _ _ _ qList qyList)).mono ?_
    rintro e w2 ⟨rfl, hb2⟩
    rw [eqL_dec]
    rw [HH2.out]
    have T2 := below_next T1 hb2 rfl
    go_wp2_with fail
    go_ret
    exact ⟨ret_bool (by rw [HD.out, HH0.out, HH1.out, HH2.out]; first | rfl | simp), T2⟩
  have HH2 := Lib.hid hd2
  clear hd2
  have cP3 := BP.cell 3
  have cQ3 := BQ.cell 3
  simp at cP3 cQ3
  go_wp2_with fail
  refine (bl_of_quiet (eqIntS_any _ _ _ _ _ _ _ _ _ qList qyList)).mono ?_
  rintro e w2 ⟨rfl, hb2⟩
  rw [eqL_dec]
  rw [HH2.out]
  have T2 := below_next T1 hb2 rfl
  clear cP3 cQ3
  replace BP := BP.next hb2
  replace BQ := BQ.next hb2
  replace qEqLeft := qEqLeft.next stab_RI hb2
  replace qyEqLeft := qyEqLeft.next stab_RI hb2
  replace qEqRight := qEqRight.next stab_RI hb2
  replace qyEqRight := qyEqRight.next stab_RI hb2
  replace qList := qList.next stab_RI hb2
  replace qyList := qyList.next stab_RI hb2
  go_wp2_with fail
  go_ret
  exact ⟨ret_bool (by rw [HD.out, HH0.out, HH1.out, HH2.out]; first | rfl | simp), T2⟩
end Go.Proofs.YtidjocikbmkjbaaGreat
